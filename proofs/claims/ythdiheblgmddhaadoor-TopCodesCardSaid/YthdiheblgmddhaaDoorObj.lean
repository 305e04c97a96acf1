/- The walk's own rules: things in memory with the blocks that they own; what turns one leaves the others alone. -/
import Derived.Test.YthdiheblgmddhaaDoorEx
namespace Rk
open Go Go.RowKit
/-- from w to w' no block but those of F turned; the thing that owned F owns F' -/
structure Chg (w w' : World) (F F' : Nat → Prop) : Prop where
  os : w'.os = w.os
  tape : w'.tape = w.tape
  output : w'.output = w.output
  size : w.heap.size ≤ w'.heap.size
  block : ∀ k, k < w.heap.size → ¬ F k → w'.heap[k]? = w.heap[k]?
  next : ∀ g, F' g → (F g ∨ w.heap.size ≤ g) ∧ g < w'.heap.size
/-- two that own nothing in common -/
def Apart (F G : Nat → Prop) : Prop := ∀ g, F g → G g → False
def one (g : Nat) : Nat → Prop := fun k => k = g
def ownF (v : Value) : Nat → Prop := fun k => v.ownBlock = some k
section
variable {w w' w'' w0 : World} {F F' F'' G : Nat → Prop}
theorem Apart.symm (h : Apart F G) : Apart G F := fun g a b => h g b a
theorem Chg.trans (h : Chg w w' F F') (k : Chg w' w'' F' F'') : Chg w w'' F F'' :=
  ⟨k.os.trans h.os, k.tape.trans h.tape, k.output.trans h.output, Nat.le_trans h.size k.size,
    fun g hg hf => (k.block g (Nat.lt_of_lt_of_le hg h.size) (fun hf' => by rcases (h.next g hf').1 with h1 | h1; exact hf h1; omega)).trans (h.block g hg hf),
    fun g hg => ⟨by rcases (k.next g hg).1 with h1 | h1; exact (h.next g h1).1; exact .inr (Nat.le_trans h.size h1), (k.next g hg).2⟩⟩
theorem Chg.refl (hF : ∀ g, F g → g < w.heap.size) : Chg w w F F := ⟨rfl, rfl, rfl, Nat.le_refl _, fun _ _ _ => rfl, fun g hg => ⟨.inl hg, hF g hg⟩⟩
theorem Chg.of_below (h : Below w.heap.size w w') (hF : ∀ g, F g → g < w.heap.size) : Chg w w' F F := ⟨h.os, h.tape, h.output, h.size, fun k hk _ => h.block k hk, fun g hg => ⟨.inl hg, Nat.lt_of_lt_of_le (hF g hg) h.size⟩⟩
theorem Chg.below (h : Chg w w' F F') (hb : Below w0.heap.size w0 w) (hF : ∀ g, F g → w0.heap.size ≤ g) : Below w0.heap.size w0 w' :=
  ⟨h.os.trans hb.os, h.tape.trans hb.tape, h.output.trans hb.output, Nat.le_trans hb.size h.size, fun k hk => (h.block k (Nat.lt_of_lt_of_le hk hb.size) (fun hf => by have := hF k hf; omega)).trans (hb.block k hk)⟩
theorem Chg.base (h : Chg w w' F F') {B : Nat} (hF : ∀ g, F g → B ≤ g) (hB : B ≤ w.heap.size) : ∀ g, F' g → B ≤ g := fun g hg => by
  rcases (h.next g hg).1 with h1 | h1
  · exact hF g h1
  · omega
theorem Chg.apart (h : Chg w w' F F') (ha : Apart F G) (hG : ∀ g, G g → g < w.heap.size) : Apart F' G := fun g hf hg => by
  rcases (h.next g hf).1 with h1 | h1
  · exact ha g h1 hg
  · have := hG g hg; omega
theorem Chg.lt (h : Chg w w' F F') (hG : ∀ g, G g → g < w.heap.size) : ∀ g, G g → g < w'.heap.size := fun g hg => Nat.lt_of_lt_of_le (hG g hg) h.size
theorem Chg.other (h : Chg w w' F F') (ha : Apart F G) (hG : ∀ g, G g → g < w.heap.size) : ∀ k, G k → w'.heap[k]? = w.heap[k]? := fun k hk => h.block k (hG k hk) (fun hf => ha k hf hk)
theorem Chg.wide (h : Chg w w' F F') (hG : ∀ g, G g → g < w.heap.size) : Chg w w' (fun g => F g ∨ G g) (fun g => F' g ∨ G g) :=
  ⟨h.os, h.tape, h.output, h.size, fun k hk hn => h.block k hk (fun hf => hn (.inl hf)), fun g hg => by
    rcases hg with hg | hg
    · exact ⟨(h.next g hg).1.imp .inl id, (h.next g hg).2⟩
    · exact ⟨.inl (.inr hg), h.lt hG g hg⟩⟩
theorem Chg.grown {row : Option Nat} {v v' : Value} (hg : w.grownBy w' row) (hrow : row = none ∨ row = v.ownBlock) (hv' : ∀ g, v'.ownBlock = some g → (v.ownBlock = some g ∨ w.heap.size ≤ g) ∧ g < w'.heap.size) : Chg w w' (ownF v) (ownF v') :=
  ⟨hg.os, hg.tape, hg.output, hg.size, fun k hk hn => hg.block k hk (by
    rcases hrow with e | e
    · rw [e]; simp
    · rw [e]; exact fun e2 => hn e2.symm), fun g hf => hv' g hf⟩
theorem Chg.one {g : Nat} (hg : w.grownBy w' (some g)) (hl : g < w.heap.size) : Chg w w' (Rk.one g) (Rk.one g) :=
  ⟨hg.os, hg.tape, hg.output, hg.size, fun k hk hn => hg.block k hk (fun e => hn (by injection e)), fun k hk => by
    have : k = g := hk
    subst this
    exact ⟨.inl rfl, Nat.lt_of_lt_of_le hl hg.size⟩⟩
end
section
variable {α : Type} {enc : α → List Value} {k : Nat} {e : TypeId} {w w' : World} {B : Nat} {v : Value} {l : List α} {F F' : Nat → Prop}
theorem OwnL.other (h : OwnL enc k e w B v l) (hb : ∀ g, v.ownBlock = some g → w'.heap[g]? = w.heap[g]?) : OwnL enc k e w' B v l := by
  refine ⟨h.1, ?_⟩
  rcases h.2 with hn | ⟨g, cap, cur, rfl, hB, hgg, rest⟩
  · exact .inl hn
  · exact .inr ⟨g, cap, cur, rfl, hB, by rw [hb g (by simp [Value.ownBlock])]; exact hgg, rest⟩
theorem OwnL.chg (h : OwnL enc k e w B v l) (hc : Chg w w' F F') (ha : Apart F (ownF v)) (hG : ∀ g, v.ownBlock = some g → g < w.heap.size) : OwnL enc k e w' B v l := h.other (hc.other ha hG)
theorem Bk.chg {g : Nat} {t : TypeId} {cs : List Value} (h : Bk w g t cs) (hc : Chg w w' F F') (ha : ¬ F g) : Bk w' g t cs := (hc.block g h.lt ha).trans h
theorem RowOf.chg {A : Option Addr} {n : Nat} {f : Nat → α} (h : RowOf enc k w A n f) (hc : Chg w w' F F') (ha : ∀ p, A = some p → ¬ F p.block) : RowOf enc k w' A n f := fun hn => by
  obtain ⟨b, o, h1, h2, h3⟩ := h hn
  exact ⟨b, o, h1, Nat.lt_of_lt_of_le h2 hc.size, fun i hi j u hu => by rw [cell_block (hc.block b h2 (ha _ h1))]; exact h3 i hi j u hu⟩
end
end Rk
