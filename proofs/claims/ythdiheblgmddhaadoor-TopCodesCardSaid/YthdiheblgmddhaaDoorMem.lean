/- The walk's own rules: memory: rows that read as lists, blocks that are known whole; what an operation that makes or writes memory leaves. -/
import Derived.Test.YthdiheblgmddhaaDoorOps
import Derived.Maps.AppendAt
namespace Rk
open Go Go.RowKit

/-- n elements of k cells each from A on, read by enc: element i is f i -/
def RowOf {α : Type} (enc : α → List Value) (k : Nat) (w : World) (A : Option Addr) (n : Nat) (f : Nat → α) : Prop :=
  0 < n → ∃ b o, A = some ⟨b, o, none⟩ ∧ b < w.heap.size ∧ ∀ i, i < n → ∀ j u, (enc (f i))[j]? = some u → w.cell? ⟨b, o + i * k + j, none⟩ = some u
/-- a block that is known whole -/
def Bk (w : World) (g : Nat) (t : TypeId) (cs : List Value) : Prop := w.heap[g]? = some (.cells cs.toArray t (0, 0))

section
variable {α : Type} {enc : α → List Value} {k : Nat} {w w' : World} {A : Option Addr} {n : Nat} {f f' : Nat → α} {g : Nat} {t : TypeId} {cs : List Value} {row : Option Nat} {B : Nat}
theorem RowOf.zero (enc : α → List Value) (k : Nat) (w : World) (A : Option Addr) (f : Nat → α) : RowOf enc k w A 0 f := fun h => absurd h (by omega)
theorem RowOf.congr (h : RowOf enc k w A n f) (e : ∀ i, i < n → f' i = f i) : RowOf enc k w A n f' := fun hn => by
  obtain ⟨b, o, h1, h2, h3⟩ := h hn
  exact ⟨b, o, h1, h2, fun i hi j u hu => h3 i hi j u (by rw [← e i hi]; exact hu)⟩
theorem cell_block {w w' : World} {b : Nat} (h : w'.heap[b]? = w.heap[b]?) (j : Nat) : w'.cell? ⟨b, j, none⟩ = w.cell? ⟨b, j, none⟩ := by simp [World.cell?, h]
theorem RowOf.below (h : RowOf enc k w A n f) (hb : Below w.heap.size w w') : RowOf enc k w' A n f := fun hn => by
  obtain ⟨b, o, h1, h2, h3⟩ := h hn
  exact ⟨b, o, h1, Nat.lt_of_lt_of_le h2 hb.size, fun i hi j u hu => by rw [cell_block (hb.block b h2)]; exact h3 i hi j u hu⟩
/-- behind writes to one block that is not the row's -/
theorem RowOf.grown (h : RowOf enc k w A n f) (hg : w.grownBy w' row) (hne : ∀ p, A = some p → row ≠ some p.block) : RowOf enc k w' A n f := fun hn => by
  obtain ⟨b, o, h1, h2, h3⟩ := h hn
  exact ⟨b, o, h1, Nat.lt_of_lt_of_le h2 hg.size, fun i hi j u hu => by rw [cell_block (hg.block b h2 (fun e => hne _ h1 e.symm))]; exact h3 i hi j u hu⟩
theorem RowOf.heap (h : RowOf enc k w A n f) (hh : w'.heap = w.heap) : RowOf enc k w' A n f := fun hn => by
  obtain ⟨b, o, h1, h2, h3⟩ := h hn
  exact ⟨b, o, h1, by rw [hh]; exact h2, fun i hi j u hu => by rw [cell_block (w := w) (w' := w') (by rw [hh])]; exact h3 i hi j u hu⟩
/-- opened: its block, and its cells in every world in which no block of now has turned -/
theorem RowOf.at_ (h : RowOf enc k w A n f) (hn : 0 < n) : ∃ b o, A = some ⟨b, o, none⟩ ∧ b < w.heap.size ∧ ∀ w', Below w.heap.size w w' → ∀ i, i < n → ∀ j u, (enc (f i))[j]? = some u → w'.cell? ⟨b, o + i * k + j, none⟩ = some u := by
  obtain ⟨b, o, h1, h2, h3⟩ := h hn
  exact ⟨b, o, h1, h2, fun w' hb i hi j u hu => (cell_block (hb.block b h2) _).trans (h3 i hi j u hu)⟩
theorem RowOf.sub (h : RowOf enc k w A n f) {m : Nat} (hm : m ≤ n) : RowOf enc k w A m f := fun hn => by
  obtain ⟨b, o, h1, h2, h3⟩ := h (by omega)
  exact ⟨b, o, h1, h2, fun i hi => h3 i (by omega)⟩
/-- a cut 's[l:h]' -/
theorem RowOf.cut (h : RowOf enc k w A n f) {l m c : Nat} (hlm : l + m ≤ n) (hc : n ≤ c) :
    RowOf enc k w (if c = l then A else A.map (·.add (l * k))) m (fun i => f (l + i)) := fun hn => by
  obtain ⟨b, o, h1, h2, h3⟩ := h (by omega)
  subst h1
  rw [if_neg (by omega)]
  refine ⟨b, o + l * k, ?_, h2, fun i hi j u hu => ?_⟩
  · simp only [Option.map_some, Addr.add]
    split
    · rename_i e; rw [e]; rfl
    · rfl
  · rw [show o + l * k + i * k + j = o + (l + i) * k + j from by rw [Nat.add_mul]; omega]
    exact h3 (l + i) (by omega) j u hu

theorem Bk.lt (h : Bk w g t cs) : g < w.heap.size := by
  rcases Nat.lt_or_ge g w.heap.size with hlt | hge
  · exact hlt
  · unfold Bk at h; rw [Array.getElem?_eq_none hge] at h; cases h
theorem Bk.cell (h : Bk w g t cs) {i : Nat} {u : Value} (hu : cs[i]? = some u) : w.cell? ⟨g, i, none⟩ = some u := by
  unfold Bk at h
  simp [World.cell?, h, hu]
theorem Bk.frozen (h : Bk w g t cs) (i : Nat) : w.frozen? ⟨g, i, none⟩ = false := by
  unfold Bk at h
  simp [World.frozen?, h]
theorem Bk.keep (h : Bk w g t cs) (hg : w.grownBy w' row) (hne : row ≠ some g) : Bk w' g t cs := (hg.block g h.lt (fun e => hne e.symm)).trans h
theorem Bk.below (h : Bk w g t cs) (hb : Below w.heap.size w w') : Bk w' g t cs := (hb.block g h.lt).trans h
theorem Bk.heap (h : Bk w g t cs) (hh : w'.heap = w.heap) : Bk w' g t cs := by unfold Bk at *; rw [hh]; exact h
theorem Bk.ne_new (h : Bk w g t cs) : g ≠ w.heap.size := Nat.ne_of_lt h.lt
/-- a whole block read as a row -/
theorem Bk.toRow {m : Nat} (h : Bk w g t cs) (off : Nat) (hcs : ∀ i, i < m → ∀ j u, (enc (f i))[j]? = some u → cs[off + i * k + j]? = some u) : RowOf enc k w (some ⟨g, off, none⟩) m f := fun _ =>
  ⟨g, off, rfl, h.lt, fun i hi j u hu => h.cell (hcs i hi j u hu)⟩
theorem below_of_grown (hg : w.grownBy w' none) : Below w.heap.size w w' := ⟨hg.os, hg.tape, hg.output, hg.size, fun k hk => hg.block k hk (by simp)⟩
theorem grown_of_below (h : Below w.heap.size w w') (row : Option Nat) : w.grownBy w' row := ⟨h.os, h.tape, h.output, h.size, fun k hk _ => h.block k hk⟩
theorem _root_.Go.RowKit.Below.gr {w0 : World} (h : Below B w0 w) (hg : w.grownBy w' row) (hB : B ≤ w.heap.size) (hr : ∀ k, row = some k → B ≤ k) : Below B w0 w' := h.grown hg hB hr
/-- from the beginning on -/
theorem _root_.Go.RowKit.Below.gr0 {w0 : World} (h : Below w0.heap.size w0 w) (hg : w.grownBy w' row) (hr : ∀ k, row = some k → w0.heap.size ≤ k) : Below w0.heap.size w0 w' := h.grown hg h.size hr
theorem _root_.Go.RowKit.Below.tr {w0 : World} (h : Below w0.heap.size w0 w) (k : Below w.heap.size w w') : Below w0.heap.size w0 w' := h.trans (k.mono h.size)
end

section
variable {P : Program} {ops : Array Oper} {K : Env → World → Prop} {N : Nat} {E : Env} {rest : List Oper} {w w' : World} {op : Op} {t : TypeId} {pos : String} {after : Array Edge} {d : Nat}
  {pos2 : String} {after2 : Array Edge} {t2 : TypeId} {x y i : Operand} {v u z : Value} {e xt : TypeId} {agg : Bool} {sz bytes : Nat}

theorem heap_alloc_new' (w : World) (cs : Array Value) (e : TypeId) : Bk (w.alloc (.cells cs e)) w.heap.size e cs.toList := heap_alloc_new w _

theorem OpV.alloc (ty : Ty P e agg sz bytes z) : OpV P (.alloc e) t E w (.pointer (some ⟨w.heap.size, 0, none⟩)) (w.alloc (.cells z.cells e)) := fun ρ hρ _ _ _ _ => by
  simp [execOp, go_sem, Instr.alloc, ty.zero, newVar, newRow]
theorem WL.alloc (ty : Ty P e agg sz bytes z) (hd : Nat.blt d N = true)
    (h : ∀ w', w.grownBy w' none → Bk w' w.heap.size e z.cells.toList → w'.heap.size = w.heap.size + 1 → WL P ops K N ((d, .pointer (some ⟨w.heap.size, 0, none⟩)) :: E) rest w') : WL P ops K N E (⟨some d, .alloc e, t, pos, after, none⟩ :: rest) w :=
  WL.step (OpV.alloc ty) hd (h _ (World.grownBy_alloc w _ none) (heap_alloc_new' w _ _) (by simp))

theorem grownBy_setCell (w : World) (g j : Nat) (u : Value) : w.grownBy (w.setCell ⟨g, j, none⟩ u) (some g) :=
  ⟨rfl, rfl, rfl, by simp [World.setCell], fun k _ hne => Below.heap_setCell w ⟨g, j, none⟩ u k (fun e => hne (by rw [e]))⟩
theorem Bk.set_ {g : Nat} {cs : List Value} (h : Bk w g e cs) (j : Nat) (u : Value) : Bk (w.setCell ⟨g, j, none⟩ u) g e (cs.set j u) := by
  unfold Bk at h ⊢
  simp [World.setCell, Array.getElem?_modify, h]
theorem size_setCell (w : World) (a : Addr) (u : Value) : (w.setCell a u).heap.size = w.heap.size := by simp [World.setCell]
theorem grownBy_tr {a b c : World} {row : Option Nat} (h : a.grownBy b row) (k : b.grownBy c row) : a.grownBy c row :=
  ⟨k.os.trans h.os, k.tape.trans h.tape, k.output.trans h.output, Nat.le_trans h.size k.size, fun i hi hne => (k.block i (Nat.lt_of_lt_of_le hi h.size) hne).trans (h.block i hi hne)⟩
theorem grownBy_rf (w : World) (row : Option Nat) : w.grownBy w row := World.grownBy.refl w row

/-- cells stored one behind the other -/
def putAt (cs : List Value) (j : Nat) : List Value → List Value
  | [] => cs
  | u :: r => putAt (cs.set j u) (j + 1) r
theorem run_storeCells_bk {g : Nat} : ∀ (vs : List Value) (i o : Nat) (cs : List Value) (w : World), Bk w g e cs → (∀ u ∈ vs, u.oneCell' = true) → o + i + vs.length ≤ cs.length →
    ∃ w', (storeCells ⟨g, o, none⟩ vs i).run P w = .ok () w' ∧ w.grownBy w' (some g) ∧ Bk w' g e (putAt cs (o + i) vs) ∧ w'.heap.size = w.heap.size := by
  intro vs
  induction vs with
  | nil => intro i o cs w h _ _; exact ⟨w, by simp [storeCells], grownBy_rf _ _, h, rfl⟩
  | cons u r ih =>
    intro i o cs w h h1 hl
    simp only [List.length_cons] at hl
    have hc : w.cell? ⟨g, o + i, none⟩ = some (cs[o + i]'(by omega)) := h.cell (List.getElem?_eq_getElem (by omega))
    obtain ⟨w', a1, a2, a3, a4⟩ := ih (i + 1) o (cs.set (o + i) u) (w.setCell ⟨g, o + i, none⟩ u) (h.set_ _ _) (fun v hv => h1 v (List.mem_cons_of_mem _ hv)) (by simp; omega)
    refine ⟨w', ?_, grownBy_tr (grownBy_setCell w g (o + i) u) a2, a3, by rw [a4, size_setCell]⟩
    have hadd : (⟨g, o, none⟩ : Addr).add i = ⟨g, o + i, none⟩ := by
      unfold Addr.add; split
      · rename_i e; simp [e]
      · rfl
    simp only [storeCells, hadd]
    rw [Sem.run_bind, run_store P w ⟨g, o + i, none⟩ u .plain (h1 u List.mem_cons_self)]
    simp [stored, hc, h.frozen, a1]
theorem WL.store {g o : Nat} {cs : List Value} (ty : Ty P e agg sz bytes z) (hx : evE E x = some (.pointer (some ⟨g, o, none⟩))) (hy : evE E y = some v) (hs : v.cells.size = sz) (h1 : ∀ u ∈ v.cells.toList, u.oneCell' = true)
    {te : TypeId} (hb : Bk w g te cs) (hl : o + sz ≤ cs.length) (h : ∀ w', w.grownBy w' (some g) → Bk w' g te (putAt cs o v.cells.toList) → w'.heap.size = w.heap.size → WL P ops K N E rest w') :
    WL P ops K N E (⟨none, .store e x y, t, pos, after, none⟩ :: rest) w := by
  obtain ⟨w', a1, a2, a3, a4⟩ := run_storeCells_bk (P := P) v.cells.toList 0 o cs w hb h1 (by simp; omega)
  rw [Nat.add_zero] at a3
  refine WL.act (w' := w') (fun ρ hρ _ _ _ _ => ?_) (h w' a2 a3 a4)
  have hsv : (storeVar e ⟨g, o, none⟩ v).run P w = .ok () w' := by
    unfold storeVar
    rw [Sem.run_bind, ty.size]
    simp only [Result.andThen_ok, hs, ne_eq, not_true_eq_false, if_false]
    exact a1
  simp [execOp, hρ _ _ hx, hρ _ _ hy, Instr.storeAt, Instr.sureAddr, hsv]
/-- a variable made and filled at once -/
theorem WL.box (ty : Ty P e agg sz bytes z) (hd : Nat.blt d N = true) (hy : evE ((d, .pointer (some ⟨w.heap.size, 0, none⟩)) :: E) y = some v) (hs : v.cells.size = sz) (h1 : ∀ u ∈ v.cells.toList, u.oneCell' = true)
    (h : ∀ w', w.grownBy w' none → Bk w' w.heap.size e (putAt z.cells.toList 0 v.cells.toList) → w'.heap.size = w.heap.size + 1 → WL P ops K N ((d, .pointer (some ⟨w.heap.size, 0, none⟩)) :: E) rest w') :
    WL P ops K N E (⟨some d, .alloc e, t, pos, after, none⟩ :: ⟨none, .store e (.tmp d) y, t2, pos2, after2, none⟩ :: rest) w := by
  refine WL.alloc ty hd fun w1 hg1 hb1 hz1 => ?_
  refine WL.store (z := z) (g := w.heap.size) (o := 0) ty (by simp [evE, look]) hy hs h1 hb1 (by have := ty.zsz; simp; omega) fun w2 hg2 hb2 hz2 => ?_
  exact h w2 ⟨hg2.os.trans hg1.os, hg2.tape.trans hg1.tape, hg2.output.trans hg1.output, by omega, fun k hk _ => (hg2.block k (by omega) (by simp; omega)).trans (hg1.block k hk (by simp))⟩ hb2 (by omega)
theorem OpV.boxOp (ty : Ty P e agg sz bytes z) (hx : evE E x = some v) : OpV P (.box e x) t E w (.pointer (some ⟨w.heap.size, 0, none⟩)) (w.alloc (.cells v.cells e)) := fun ρ hρ _ _ _ _ => by
  simp [execOp, go_sem, hρ _ _ hx, Instr.box, newVar, newRow]
theorem WL.boxOp (hx : evE E x = some v) (hd : Nat.blt d N = true)
    (h : ∀ w', w.grownBy w' none → Bk w' w.heap.size e v.cells.toList → w'.heap.size = w.heap.size + 1 → WL P ops K N ((d, .pointer (some ⟨w.heap.size, 0, none⟩)) :: E) rest w') : WL P ops K N E (⟨some d, .box e x, t, pos, after, none⟩ :: rest) w := by
  refine WL.step (w' := w.alloc (.cells v.cells e)) (v := .pointer (some ⟨w.heap.size, 0, none⟩)) (fun ρ hρ _ _ _ _ => ?_) hd (h _ (World.grownBy_alloc w _ none) (heap_alloc_new' w _ _) (by simp))
  simp [execOp, go_sem, hρ _ _ hx, Instr.box, newVar, newRow]
end
end Rk
