/- Plain law: what is wrong with a heap of trees. No program in sight. -/
import Derived.Test.YtagochiomonmhaaDoorBinP
namespace Rk.Bn
open Rk
def shapeE : Int → List BT → Nat
  | _, [] => 0
  | last, t :: h => if t.1 < 0 ∨ 5 < t.1 then 1 else if t.1 ≤ last ∨ t.2.length ≠ 2 ^ t.1.toNat then 3 else shapeE t.1 h
def itemsE : List BT → Nat
  | [] => 0
  | t :: h => if itemsErr t.2.length (lf t.2) ≠ 0 then itemsErr t.2.length (lf t.2) else itemsE h
def holT (t : BT) : Bool := holB t.1.toNat t.2
def binoE (h : List BT) : Nat := if shapeE (-1) h ≠ 0 then shapeE (-1) h else if itemsE h ≠ 0 then itemsE h else if 60 < sizeB h then 4 else if h.all holT = true then 0 else 3
theorem shape_all : ∀ {h : List BT} {last : Int}, shapeE last h = 0 → ∀ t ∈ h, 0 ≤ t.1 ∧ t.1 ≤ 5 ∧ t.2.length = 2 ^ t.1.toNat := by
  intro h
  induction h with
  | nil => intro last _ t ht; cases ht
  | cons u h ih =>
    intro last hs t ht
    simp only [shapeE] at hs
    split at hs
    · cases hs
    · split at hs
      · cases hs
      · rename_i h1 h2
        rcases List.mem_cons.1 ht with rfl | ht
        · exact ⟨by omega, by omega, Classical.byContradiction fun q => h2 (.inr q)⟩
        · exact ih hs t ht
theorem shape_len : ∀ {h : List BT} {last : Int}, shapeE last h = 0 → last ≤ 5 → (h.length : Int) ≤ 5 - last := by
  intro h
  induction h with
  | nil => intro last _ hl; simp; omega
  | cons u h ih =>
    intro last hs hl
    simp only [shapeE] at hs
    split at hs
    · cases hs
    · split at hs
      · cases hs
      · rename_i h1 h2
        have := ih hs (by omega)
        rw [List.length_cons]
        omega
theorem size_le {m : Nat} : ∀ {h : List BT}, (∀ t ∈ h, t.2.length ≤ m) → sizeB h ≤ h.length * m := by
  intro h
  induction h with
  | nil => intro _; simp [sizeB, itemsB]
  | cons t h ih =>
    intro ha
    have h1 := ih fun u hu => ha u (List.mem_cons_of_mem _ hu)
    have h2 := ha t List.mem_cons_self
    rw [sizeB_cons, List.length_cons, Nat.add_mul]
    omega
theorem len32 {t : BT} (h : 0 ≤ t.1 ∧ t.1 ≤ 5 ∧ t.2.length = 2 ^ t.1.toNat) : t.2.length ≤ 32 := by
  rw [h.2.2]
  exact (show (2 : Nat) ^ t.1.toNat ≤ 2 ^ 5 from Nat.pow_le_pow_right (by omega) (by omega))
theorem shape_size {h : List BT} (hs : shapeE (-1) h = 0) : sizeB h ≤ 200 ∧ h.length ≤ 6 := by
  have h1 := shape_len hs (by omega)
  have h2 := size_le (m := 32) fun t ht => len32 (shape_all hs t ht)
  have h3 : h.length * 32 ≤ 6 * 32 := Nat.mul_le_mul_right _ (by omega)
  omega
theorem asc_shape : ∀ {h : List BT} {r last : Int}, Asc 5 r h → last < r → shapeE last h = 0 := by
  intro h
  induction h with
  | nil => intro _ _ _ _; rfl
  | cons t h ih =>
    intro r last ha hl
    have h1 := ha.1
    have h2 := ha.2.1
    have h3 := ha.2.2.1
    simp only [shapeE]
    rw [if_neg (by have := h3.ge; omega), if_neg (by have := h3.len; omega)]
    exact ih ha.2.2.2 (by omega)
theorem GT.err {t : BT} (h : GT t) (hl : t.2.length ≤ 60) : itemsErr t.2.length (lf t.2) = 0 := by
  unfold itemsErr
  rw [if_neg (by omega), if_pos]
  rw [segL_lf, List.all_eq_true]
  exact h.ok
theorem items_zero : ∀ {h : List BT}, (∀ t ∈ h, itemsErr t.2.length (lf t.2) = 0) → itemsE h = 0 := by
  intro h
  induction h with
  | nil => intro _; rfl
  | cons t h ih =>
    intro ha
    simp only [itemsE]
    rw [if_neg (by rw [ha t List.mem_cons_self]; omega)]
    exact ih fun u hu => ha u (List.mem_cons_of_mem _ hu)
theorem HG.check {h : List BT} (hg : HG h) : binoE h = 0 := by
  have hs := asc_shape (last := -1) hg.asc (by omega)
  have ha := hg.asc.all
  have hi : itemsE h = 0 := items_zero fun t ht => (ha t ht).1.err (Nat.le_trans (two_le ht) hg.le)
  unfold binoE
  rw [if_neg (by omega), if_neg (by omega), if_neg (by have := hg.le; omega), if_pos]
  rw [List.all_eq_true]
  exact fun t ht => (ha t ht).1.hol
theorem alone_bad {x : It} (h : ¬ okIt x = true) : binoE [(0, [x])] = 1 := by
  have hs : shapeE (-1) [((0 : Int), [x])] = 0 := by simp [shapeE]
  have hi : itemsE [((0 : Int), [x])] = 1 := by
    have e : itemsErr 1 (lf [x]) = 1 := by
      unfold itemsErr
      rw [if_neg (by omega), if_neg]
      rw [show segL (lf [x]) 1 = [x] from rfl]
      simpa using h
    simp only [itemsE, List.length_singleton, e]
    simp
  unfold binoE
  rw [if_neg (by omega), if_pos (by omega), hi]
end Rk.Bn
