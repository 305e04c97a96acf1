/- strings.Builder: what a call writes into a builder of its own: the contracts as the walk wants them. -/
import Derived.Test.YthdiheblgmddhaaDoorBld
import Derived.Test.YthdiheblgmddhaaDoorCell
import Derived.Test.YthdiheblgmddhaaDoorInts
namespace Rk
open Go Go.RowKit Go.Proofs
theorem tyBld : Ty Tryd.prog 56 true 2 32 (.agg #[.pointer none, .slice none 0 0]) := Ty.mk' (by kernel_rfl) (fun _ => by kernel_rfl) rfl
/-- a builder of the call's own, and what it holds -/
def Bld (w : World) (B b : Nat) (l : Bs) : Prop := Lib.IsBuilder 56 5 B b (Lib.byteCells l) w
theorem bld_new {w : World} {B b : Nat} (hb : Bk w b 56 [.pointer none, .slice none 0 0]) (hB : B ≤ b) : Bld w B b [] :=
  Or.inl ⟨hB, .slice none 0 0, hb, World.ownsRow_nil _ _ _ _, by simp [Value.ownBlock]⟩
theorem BldAt_below {T e : TypeId} {B b : Nat} {p : Value} {bs : List Value} {w w' : World} (h : Lib.BuilderAt T e B b p bs w) (hb : Below w.heap.size w w') : Lib.BuilderAt T e B b p bs w' := by
  have hlt := Lib.BuilderAt.lt h
  obtain ⟨hB, v, hbk, hown, hne⟩ := h
  refine ⟨hB, v, (hb.block b hlt).trans hbk, hown.kept (grown_of_below hb none) ?_, hne⟩
  cases hv : v.ownBlock with
  | none => exact Or.inl rfl
  | some g => exact Or.inr (by simp)
theorem Bld.below {w w' : World} {B b : Nat} {l : Bs} (h : Bld w B b l) (hb : Below w.heap.size w w') : Bld w' B b l := h.imp (fun h => BldAt_below h hb) (fun h => BldAt_below h hb)
theorem Bld.lt {w : World} {B b : Nat} {l : Bs} (h : Bld w B b l) : b < w.heap.size := h.elim Lib.BuilderAt.lt Lib.BuilderAt.lt
theorem bws_any (B b : Nat) (l s : Bs) (w : World) (h : Bld w B b l) (hl : l.length + s.length ≤ 100000) (hBw : B ≤ w.heap.size) :
    Calls Tryd.prog 23 #[.pointer (some ⟨b, 0, none⟩), stV s] w (Ret fun v w' => v = .tuple #[.int .i64 (s.length : Nat), .nilIface] ∧ Bld w' B b (l ++ s) ∧ Below B w w') := by
  have hz : (⟨s.toArray⟩ : ByteArray).size = s.length := by simp [ByteArray.size]
  refine (Any.Builder_WriteString lays166 bextra B b _ ⟨s.toArray⟩ w h (by rw [hz, Lib.byteCells, List.length_map]; omega) hBw).mono ?_
  rintro e w' ⟨rfl, h1, h2⟩
  refine ⟨by rw [hz], Or.inr ?_, h2⟩
  rw [Lib.byteCells_append]
  exact h1
theorem blen_any (B b : Nat) (l : Bs) (w : World) (h : Bld w B b l) :
    Calls Tryd.prog 22 #[.pointer (some ⟨b, 0, none⟩)] w (Ret fun v w' => v = .int .i64 (l.length : Nat) ∧ w' = w) := by
  refine (Any.Builder_Len lays170 B b _ w h).mono ?_
  rintro e w' ⟨rfl, rfl⟩
  exact ⟨by rw [Lib.byteCells, List.length_map], rfl⟩
theorem bstr_any (B b : Nat) (l : Bs) (w : World) (h : Bld w B b l) (hBw : B ≤ w.heap.size) :
    Calls Tryd.prog 24 #[.pointer (some ⟨b, 0, none⟩)] w (Ret fun v w' => v = stV l ∧ Below B w w') := by
  refine (Any.Builder_String_any lays169 bextra B b l w h hBw).mono ?_
  rintro e w' ⟨rfl, h2⟩
  exact ⟨rfl, h2⟩
theorem callsKeep {P : Program} {f : FuncId} {args : Array Value} {w : World} {x : Value} {C : World → Prop} (h : Calls P f args w (Ret fun v w' => v = x ∧ w' = w)) (hw : C w) : Calls P f args w (Ret fun u w' => u = x ∧ C w') := h.mono fun e w' he => by
  cases e with
  | returned u => obtain ⟨rfl, rfl⟩ := he; exact ⟨rfl, hw⟩
  | panicked ch => exact he.elim
  | outgrown => exact he.elim
end Rk
