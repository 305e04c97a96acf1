/- Runes: texts walked rune by rune; the library's contracts on runes and on what is written byte by byte and rune by rune (proved once on the kit's shelf), laid at this translation. -/
import Derived.Shelf.Strings.BuilderRune
import Derived.Shelf.Unicode.DecodeAny
import Derived.Shelf.Small.Utf8
import Derived.Laws.RangeString
import Derived.Test.YthdiheblgmddhaaDoorStrs2
import Derived.Test.YthdiheblgmddhaaDoorUtfP
import Derived.Test.YthdiheblgmddhaaDoorCell
import Derived.Test.YthdiheblgmddhaaDoorInts
namespace Rk
open Go Go.RowKit Go.Proofs Go.Shelf
/-- the library's numbers, as this translation has them -/
def uren : Ren where
  f := fun x => match x with
    | 119 => 27
    | 167 => 26
    | 168 => 28
    | 169 => 24
    | 170 => 22
    | 197 => 12
    | 240 => 32
    | 242 => 33
    | 260 => 29
    | 276 => 34
    | 278 => 35
    | n => n
  t := fun x => match x with
    | 0 => 0
    | 3 => 3
    | 4 => 4
    | 5 => 5
    | 9 => 9
    | 20 => 20
    | 21 => 21
    | 37 => 54
    | 46 => 70
    | 51 => 80
    | 70 => 53
    | 72 => 56
    | 75 => 24
    | 80 => 59
    | 105 => 38
    | 119 => 74
    | 127 => 72
    | 138 => 76
    | 139 => 77
    | 164 => 78
    | n => n
  g := fun x => match x with
    | 3 => 0
    | 4 => 1
    | n => n
theorem lays119 : Lays.n119 Tryd.prog uren where
  mixed := mixed
  f119 := (Tryd.func27).trans (congrArg some (by kernel_rfl))
  t4 := by kernel_rfl
  a4 := fun w => by kernel_rfl
  z4 := fun w => by kernel_rfl
  v4 := fun w => by kernel_rfl
  t21 := by kernel_rfl
  a21 := fun w => by kernel_rfl
  z21 := fun w => by kernel_rfl
  v21 := fun w => by kernel_rfl
theorem lays167 : Lays.n167 Tryd.prog uren where
  mixed := mixed
  f167 := (Tryd.func26).trans (congrArg some (by kernel_rfl))
  f240 := (Tryd.func32).trans (congrArg some (by kernel_rfl))
  f276 := (Tryd.func34).trans (congrArg some (by kernel_rfl))
  t0 := by kernel_rfl
  a0 := fun w => by kernel_rfl
  z0 := fun w => by kernel_rfl
  v0 := fun w => by kernel_rfl
  t4 := by kernel_rfl
  a4 := fun w => by kernel_rfl
  z4 := fun w => by kernel_rfl
  v4 := fun w => by kernel_rfl
  t5 := by kernel_rfl
  a5 := fun w => by kernel_rfl
  z5 := fun w => by kernel_rfl
  v5 := fun w => by kernel_rfl
  t9 := by kernel_rfl
  a9 := fun w => by kernel_rfl
  z9 := fun w => by kernel_rfl
  v9 := fun w => by kernel_rfl
  t20 := by kernel_rfl
  a20 := fun w => by kernel_rfl
  z20 := fun w => by kernel_rfl
  v20 := fun w => by kernel_rfl
  t37 := by kernel_rfl
  a37 := fun w => by kernel_rfl
  z37 := fun w => by kernel_rfl
  v37 := fun w => by kernel_rfl
  t70 := by kernel_rfl
  a70 := fun w => by kernel_rfl
  z70 := fun w => by kernel_rfl
  v70 := fun w => by kernel_rfl
  t72 := by kernel_rfl
  a72 := fun w => by kernel_rfl
  z72 := fun w => by kernel_rfl
  v72 := fun w => by kernel_rfl
  t75 := by kernel_rfl
  a75 := fun w => by kernel_rfl
  z75 := fun w => by kernel_rfl
  v75 := fun w => by kernel_rfl
  t164 := by kernel_rfl
  a164 := fun w => by kernel_rfl
  z164 := fun w => by kernel_rfl
  v164 := fun w => by kernel_rfl
theorem lays168 : Lays.n168 Tryd.prog uren where
  mixed := mixed
  f168 := (Tryd.func28).trans (congrArg some (by kernel_rfl))
  f240 := (Tryd.func32).trans (congrArg some (by kernel_rfl))
  f242 := (Tryd.func33).trans (congrArg some (by kernel_rfl))
  f276 := (Tryd.func34).trans (congrArg some (by kernel_rfl))
  f278 := (Tryd.func35).trans (congrArg some (by kernel_rfl))
  t0 := by kernel_rfl
  a0 := fun w => by kernel_rfl
  z0 := fun w => by kernel_rfl
  v0 := fun w => by kernel_rfl
  t3 := by kernel_rfl
  a3 := fun w => by kernel_rfl
  z3 := fun w => by kernel_rfl
  v3 := fun w => by kernel_rfl
  t4 := by kernel_rfl
  a4 := fun w => by kernel_rfl
  z4 := fun w => by kernel_rfl
  v4 := fun w => by kernel_rfl
  t5 := by kernel_rfl
  a5 := fun w => by kernel_rfl
  z5 := fun w => by kernel_rfl
  v5 := fun w => by kernel_rfl
  t9 := by kernel_rfl
  a9 := fun w => by kernel_rfl
  z9 := fun w => by kernel_rfl
  v9 := fun w => by kernel_rfl
  t20 := by kernel_rfl
  a20 := fun w => by kernel_rfl
  z20 := fun w => by kernel_rfl
  v20 := fun w => by kernel_rfl
  t21 := by kernel_rfl
  a21 := fun w => by kernel_rfl
  z21 := fun w => by kernel_rfl
  v21 := fun w => by kernel_rfl
  t37 := by kernel_rfl
  a37 := fun w => by kernel_rfl
  z37 := fun w => by kernel_rfl
  v37 := fun w => by kernel_rfl
  t46 := by kernel_rfl
  a46 := fun w => by kernel_rfl
  z46 := fun w => by kernel_rfl
  v46 := fun w => by kernel_rfl
  t51 := by kernel_rfl
  a51 := fun w => by kernel_rfl
  z51 := fun w => by kernel_rfl
  v51 := fun w => by kernel_rfl
  t70 := by kernel_rfl
  a70 := fun w => by kernel_rfl
  z70 := fun w => by kernel_rfl
  v70 := fun w => by kernel_rfl
  t72 := by kernel_rfl
  a72 := fun w => by kernel_rfl
  z72 := fun w => by kernel_rfl
  v72 := fun w => by kernel_rfl
  t75 := by kernel_rfl
  a75 := fun w => by kernel_rfl
  z75 := fun w => by kernel_rfl
  v75 := fun w => by kernel_rfl
  t164 := by kernel_rfl
  a164 := fun w => by kernel_rfl
  z164 := fun w => by kernel_rfl
  v164 := fun w => by kernel_rfl
theorem ulays169 : Lays.n169 Tryd.prog uren where
  mixed := mixed
  f169 := (Tryd.func24).trans (congrArg some (by kernel_rfl))
  t0 := by kernel_rfl
  a0 := fun w => by kernel_rfl
  z0 := fun w => by kernel_rfl
  v0 := fun w => by kernel_rfl
  t3 := by kernel_rfl
  a3 := fun w => by kernel_rfl
  z3 := fun w => by kernel_rfl
  v3 := fun w => by kernel_rfl
  t9 := by kernel_rfl
  a9 := fun w => by kernel_rfl
  z9 := fun w => by kernel_rfl
  v9 := fun w => by kernel_rfl
  t37 := by kernel_rfl
  a37 := fun w => by kernel_rfl
  z37 := fun w => by kernel_rfl
  v37 := fun w => by kernel_rfl
  t70 := by kernel_rfl
  a70 := fun w => by kernel_rfl
  z70 := fun w => by kernel_rfl
  v70 := fun w => by kernel_rfl
  t72 := by kernel_rfl
  a72 := fun w => by kernel_rfl
  z72 := fun w => by kernel_rfl
  v72 := fun w => by kernel_rfl
  t127 := by kernel_rfl
  a127 := fun w => by kernel_rfl
  z127 := fun w => by kernel_rfl
  v127 := fun w => by kernel_rfl
theorem ulays170 : Lays.n170 Tryd.prog uren where
  mixed := mixed
  f170 := (Tryd.func22).trans (congrArg some (by kernel_rfl))
  t0 := by kernel_rfl
  a0 := fun w => by kernel_rfl
  z0 := fun w => by kernel_rfl
  v0 := fun w => by kernel_rfl
  t3 := by kernel_rfl
  a3 := fun w => by kernel_rfl
  z3 := fun w => by kernel_rfl
  v3 := fun w => by kernel_rfl
  t37 := by kernel_rfl
  a37 := fun w => by kernel_rfl
  z37 := fun w => by kernel_rfl
  v37 := fun w => by kernel_rfl
  t70 := by kernel_rfl
  a70 := fun w => by kernel_rfl
  z70 := fun w => by kernel_rfl
  v70 := fun w => by kernel_rfl
  t72 := by kernel_rfl
  a72 := fun w => by kernel_rfl
  z72 := fun w => by kernel_rfl
  v72 := fun w => by kernel_rfl
theorem lays197 : Lays.n197 Tryd.prog uren where
  mixed := mixed
  f197 := (Tryd.func12).trans (congrArg some (by kernel_rfl))
  f260 := (Tryd.func29).trans (congrArg some (by kernel_rfl))
  t0 := by kernel_rfl
  a0 := fun w => by kernel_rfl
  z0 := fun w => by kernel_rfl
  v0 := fun w => by kernel_rfl
  t3 := by kernel_rfl
  a3 := fun w => by kernel_rfl
  z3 := fun w => by kernel_rfl
  v3 := fun w => by kernel_rfl
  t4 := by kernel_rfl
  a4 := fun w => by kernel_rfl
  z4 := fun w => by kernel_rfl
  v4 := fun w => by kernel_rfl
  t5 := by kernel_rfl
  a5 := fun w => by kernel_rfl
  z5 := fun w => by kernel_rfl
  v5 := fun w => by kernel_rfl
  t9 := by kernel_rfl
  a9 := fun w => by kernel_rfl
  z9 := fun w => by kernel_rfl
  v9 := fun w => by kernel_rfl
  t21 := by kernel_rfl
  a21 := fun w => by kernel_rfl
  z21 := fun w => by kernel_rfl
  v21 := fun w => by kernel_rfl
  t46 := by kernel_rfl
  a46 := fun w => by kernel_rfl
  z46 := fun w => by kernel_rfl
  v46 := fun w => by kernel_rfl
  t105 := by kernel_rfl
  a105 := fun w => by kernel_rfl
  z105 := fun w => by kernel_rfl
  v105 := fun w => by kernel_rfl
  t119 := by kernel_rfl
  a119 := fun w => by kernel_rfl
  z119 := fun w => by kernel_rfl
  t138 := by kernel_rfl
  a138 := fun w => by kernel_rfl
  z138 := fun w => by kernel_rfl
  v138 := fun w => by kernel_rfl
  t139 := by kernel_rfl
  a139 := fun w => by kernel_rfl
  z139 := fun w => by kernel_rfl
  v139 := fun w => by kernel_rfl
  g3 := by kernel_rfl
  g4 := by kernel_rfl
theorem uextra : Builder.Extra Tryd.prog uren where
  sizeBuilder := by kernel_rfl
  liesBuilder := by kernel_rfl
  t5 := by kernel_rfl
  a5 := fun w => by kernel_rfl
  z5 := fun w => by kernel_rfl
  v5 := fun w => by kernel_rfl
  infoByte := by kernel_rfl
  cellsByte := by kernel_rfl
  sizeByte := by kernel_rfl
  neB5 := by decide
/-- the two tables of utf8 as they are laid -/
def Tabs (w : World) : Prop := Lib.Utf8Tabs 0 1 w
theorem cell_below {w w' : World} (hb : Below w.heap.size w w') {a : Addr} {v : Value} (h : w.cell? a = some v) : w'.cell? a = some v := by
  have hl : a.block < w.heap.size := by
    by_cases hc : a.block < w.heap.size
    · exact hc
    · have : w.heap[a.block]? = none := Array.getElem?_eq_none (by omega)
      simp [World.cell?, this] at h
  have e := hb.block a.block hl
  simp only [World.cell?, e] at h ⊢
  exact h
theorem Tabs.below {w w' : World} (h : Tabs w) (hb : Below w.heap.size w w') : Tabs w' := ⟨fun c hc => cell_below hb (h.1 c hc), fun i hi => ⟨cell_below hb (h.2 i hi).1, cell_below hb (h.2 i hi).2⟩⟩
theorem get_lf (s : Bs) (i : Nat) : (ByteArray.get! ⟨s.toArray⟩ i) = lf s i := by
  show (s.toArray)[i]! = lf s i
  unfold lf
  rw [List.getElem!_toArray, List.getElem!_eq_getElem?_getD, List.getD_eq_getElem?_getD]
theorem decode_drop (s : Bs) (i : Nat) : Utf8.decode ⟨s.toArray⟩ i = Utf.dec (s.drop i) := by
  rw [Lib.decode_at]
  have hz : (⟨s.toArray⟩ : ByteArray).size = s.length := by simp [ByteArray.size]
  have hd : ∀ k, lf (s.drop i) k = lf s (i + k) := fun k => by unfold lf; simp [List.getD_eq_getElem?_getD]
  unfold Utf.dec Utf.nb
  rw [hz, get_lf, get_lf, get_lf, get_lf, List.length_drop, hd, hd, hd, hd]; rfl
theorem decodeGo_is {s : Bs} (h : s ≠ []) : Lib.decodeGo ⟨s.toArray⟩ = Utf.dec s := by
  have hz : (⟨s.toArray⟩ : ByteArray).size = s.length := by simp [ByteArray.size]
  unfold Lib.decodeGo
  rw [if_neg (by rw [hz]; exact fun e => h (List.eq_nil_of_length_eq_zero e)), decode_drop, List.drop_zero]
/-- utf8.DecodeRuneInString -/
theorem decrune_any (s : Bs) (w : World) (h : s ≠ []) (hT : Tabs w) : Calls Tryd.prog 12 #[stV s] w (Ret fun v w' => v = .tuple #[.int .i32 ((Utf.dec s).1 : Nat), .int .i64 ((Utf.dec s).2 : Nat)] ∧ Below w.heap.size w w') := by
  refine (Any.utf8_DecodeRuneInString lays197 ⟨s.toArray⟩ w hT).mono ?_
  rintro e w' ⟨rfl, hb⟩
  exact ⟨by rw [decodeGo_is h], hb⟩
theorem validRune_any (r : Int) (w : World) : Calls Tryd.prog 27 #[.int .i32 r] w (Ret fun v w' => v = .bool (Lib.validRune r) ∧ w' = w) := by
  refine (Any.utf8_ValidRune lays119 r w).mono ?_
  rintro e w' ⟨rfl, rfl⟩
  exact ⟨rfl, rfl⟩
/-- a builder of the call's own, and what it holds -/
def UBld (w : World) (B b : Nat) (l : Bs) : Prop := Lib.IsBuilderF 56 5 B b (Lib.byteCells l) w
theorem tyUBld : Ty Tryd.prog 56 true 2 32 (.agg #[.pointer none, .slice none 0 0]) := Ty.mk' (by kernel_rfl) (fun _ => by kernel_rfl) rfl
theorem ubld_new {w : World} {B b : Nat} (hb : Bk w b 56 [.pointer none, .slice none 0 0]) (hB : B ≤ b) : UBld w B b [] :=
  Lib.IsBuilderF.of (Or.inl ⟨hB, .slice none 0 0, hb, World.ownsRow_nil _ _ _ _, by simp [Value.ownBlock]⟩)
theorem ubyte_any (B b : Nat) (l : Bs) (c : UInt8) (w : World) (h : UBld w B b l) (hl : l.length ≤ 100000) (hBw : B ≤ w.heap.size) :
    Calls Tryd.prog 26 #[.pointer (some ⟨b, 0, none⟩), byV c] w (Ret fun v w' => v = .nilIface ∧ UBld w' B b (l ++ [c]) ∧ Below B w w') := by
  refine (Any.Builder_WriteByte_k lays167 uextra B b _ (c.toNat : Int) w h (by rw [Lib.byteCells, List.length_map]; omega) hBw).mono ?_
  rintro e w' ⟨rfl, h1, h2, _⟩
  refine ⟨rfl, Or.inr ?_, h2⟩
  rw [Lib.byteCells_append]
  exact h1
theorem urune_any (B b : Nat) (l : Bs) (r : Int) (hr0 : -2147483648 ≤ r) (hr1 : r ≤ 2147483647) (w : World) (h : UBld w B b l) (hl : l.length ≤ 100000) (hBw : B ≤ w.heap.size) :
    Calls Tryd.prog 28 #[.pointer (some ⟨b, 0, none⟩), .int .i32 r] w (Ret fun v w' => (∃ k : Nat, v = .tuple #[.int .i64 k, .nilIface]) ∧ UBld w' B b (l ++ Lib.encodeRune r) ∧ Below B w w') := by
  refine (Any.Builder_WriteRune_k lays168 uextra B b _ r hr0 hr1 w h (by rw [Lib.byteCells, List.length_map]; omega) hBw).mono ?_
  rintro e w' ⟨rfl, h1, h2, _⟩
  refine ⟨⟨_, rfl⟩, Or.inr ?_, h2⟩
  rw [Lib.byteCells_append, Lib.byteCells_encodeRune]
  exact h1
theorem ulen_any (B b : Nat) (l : Bs) (w : World) (h : UBld w B b l) :
    Calls Tryd.prog 22 #[.pointer (some ⟨b, 0, none⟩)] w (Ret fun v w' => v = .int .i64 (l.length : Nat) ∧ w' = w) := by
  refine (Any.Builder_Len_f ulays170 B b _ w h).mono ?_
  rintro e w' ⟨rfl, rfl⟩
  exact ⟨by rw [Lib.byteCells, List.length_map], rfl⟩
theorem ustr_any (B b : Nat) (l : Bs) (w : World) (h : UBld w B b l) (hBw : B ≤ w.heap.size) :
    Calls Tryd.prog 24 #[.pointer (some ⟨b, 0, none⟩)] w (Ret fun v w' => v = stV l ∧ Below B w w') := by
  refine (Any.Builder_String_any_k ulays169 uextra B b l w h hBw).mono ?_
  rintro e w' ⟨rfl, _, h2, _⟩
  exact ⟨rfl, h2⟩
/-! a text walked rune by rune -/
def Itr (w : World) (k : Nat) (s : Bs) (pos : Nat) : Prop := w.heap[k]? = some (.stringIter ⟨s.toArray⟩ pos)
theorem Itr.lt {w : World} {k : Nat} {s : Bs} {pos : Nat} (h : Itr w k s pos) : k < w.heap.size := (Array.getElem?_eq_some_iff.1 h).1
theorem Itr.below {w w' : World} {k : Nat} {s : Bs} {pos : Nat} (h : Itr w k s pos) (hb : Below w.heap.size w w') : Itr w' k s pos := (hb.block k h.lt).trans h
theorem Itr.grown {w w' : World} {k : Nat} {s : Bs} {pos : Nat} {row : Option Nat} (h : Itr w k s pos) (hg : w.grownBy w' row) (hn : row ≠ some k) : Itr w' k s pos := (hg.block k h.lt (fun e => hn e.symm)).trans h
theorem iter_grown {w : World} {k : Nat} {s : Bs} {pos : Nat} (h : Itr w k s pos) (pos' : Nat) : w.grownBy (w.iterAt k ⟨s.toArray⟩ pos') (some k) :=
  ⟨rfl, rfl, rfl, Nat.le_of_eq (Lib.iterAt_size w k _ _).symm, fun y _ hn => Lib.iterAt_other w k y _ _ (fun e => hn (congrArg some e))⟩
theorem iter_at {w : World} {k : Nat} {s : Bs} {pos : Nat} (h : Itr w k s pos) (pos' : Nat) : Itr (w.iterAt k ⟨s.toArray⟩ pos') k s pos' := Lib.iterAt_heap w k _ _ _ h
theorem iter_new (w : World) (s : Bs) : Itr (w.iter ⟨s.toArray⟩ 0) w.heap.size s 0 := World.iter_heap w _ 0
theorem iter_below (w : World) (s : Bs) : Below w.heap.size w (w.iter ⟨s.toArray⟩ 0) := Below.alloc (Below.refl _ w) (Nat.le_refl _) _
theorem iter_size (w : World) (s : Bs) : (w.iter ⟨s.toArray⟩ 0).heap.size = w.heap.size + 1 := by show (w.heap.push _).size = _; simp
section
variable {E : Env} {w : World} {t : TypeId} {x : Operand} {s : Bs} {k pos : Nat}
theorem OpV.rangeS (hx : evE E x = some (stV s)) : OpV Tryd.prog (.range 9 x) t E w (.pointer (some ⟨w.heap.size, 0, none⟩)) (w.iter ⟨s.toArray⟩ 0) := fun ρ hρ _ _ _ _ => by
  simp [execOp, hρ _ _ hx, run_range_string w _ _ unStr]
theorem OpV.nextS (hx : evE E x = some (.pointer (some ⟨k, 0, none⟩))) (hi : Itr w k s pos) (h : pos < s.length) :
    OpV Tryd.prog (.next x true) t E w (.tuple #[.bool true, .int .i64 (pos : Nat), .int .i32 ((Utf.dec (s.drop pos)).1 : Nat)]) (w.iterAt k ⟨s.toArray⟩ (pos + (Utf.dec (s.drop pos)).2)) := fun ρ hρ _ _ _ _ => by
  have hz : (⟨s.toArray⟩ : ByteArray).size = s.length := by simp [ByteArray.size]
  have h1 := Lib.run_next_any_at (P := Tryd.prog) w k ⟨s.toArray⟩ pos t hi (by rw [hz]; exact h)
  rw [decode_drop] at h1
  simp [execOp, hρ _ _ hx, h1]
theorem OpV.nextE (hx : evE E x = some (.pointer (some ⟨k, 0, none⟩))) (hi : Itr w k s pos) (h : ¬ pos < s.length) :
    OpV Tryd.prog (.next x true) t E w (.tuple #[.bool false]) w := fun ρ hρ _ _ _ _ => by
  have hz : (⟨s.toArray⟩ : ByteArray).size = s.length := by simp [ByteArray.size]
  have h1 := Lib.run_next_end_at (P := Tryd.prog) w k ⟨s.toArray⟩ pos t hi (by rw [hz]; exact h)
  simp [execOp, hρ _ _ hx, h1]
theorem unRune : Tryd.prog.underlying 21 = some (.int .i32) := by kernel_rfl
theorem OpV.ofR {a : Nat} (hx : evE E x = some (.int .i32 (a : Int))) (h : a ≤ 2147483647) : OpV Tryd.prog (.convert 21 3 x) t E w (.int .i64 (a : Nat)) w := OpV.conv ⟨_, unRune⟩ unIntT hx (wrap_i64 (by omega))
theorem wrap_i32 {n : Int} (h : 0 ≤ n ∧ n ≤ 2147483647) : IntKind.i32.wrap n = n := by rw [IntKind.wrap_i32]; omega
theorem OpV.toR {a : Int} (hx : evE E x = some (.int .i64 a)) (h : 0 ≤ a ∧ a ≤ 2147483647) : OpV Tryd.prog (.convert 3 21 x) t E w (.int .i32 a) w := OpV.conv ⟨_, unIntT⟩ unRune hx (wrap_i32 h)
end
theorem OwnL.iter {α : Type} {enc : α → List Value} {kk : Nat} {e : TypeId} {w : World} {B k : Nat} {v : Value} {l : List α} {s : Bs} {pos : Nat} (h : OwnL enc kk e w B v l) (hi : Itr w k s pos) (hk : k < B) (pos' : Nat) : OwnL enc kk e (w.iterAt k ⟨s.toArray⟩ pos') B v l := by
  rcases h.2 with h0 | ⟨g, cap, cur, h1, h2, h3⟩
  · exact ⟨h.1, .inl h0⟩
  · refine h.keep (iter_grown hi pos') (.inr ?_)
    rw [h1]
    simp only [Value.ownBlock]
    intro e
    injection e with e
    omega
end Rk
