/- Plain law: what is above a place of a tree; a tree is right just if nothing is less than what is above it. No program in sight. -/
import Derived.Test.YtagochiomonmhaaDoorBinE
namespace Rk.Bn
open Rk
/-- the place above place p, of a tree with its root at 'root' and its parts, the greatest of rank k - 1, from place 'frm' on -/
def aboveG : Nat → Nat → Nat → Nat → Nat
  | 0, root, _, _ => root
  | k + 1, root, frm, p => if p < frm + 2 ^ k then (if p = frm then root else aboveG k frm (frm + 1) p) else aboveG k root (frm + 2 ^ k) p
def holG (L : List It) : Nat → Nat → Nat → Bool
  | 0, _, _ => true
  | k + 1, root, frm => decide ((lf L root).1 ≤ (lf L frm).1) && holG L k frm (frm + 1) && holG L k root (frm + 2 ^ k)
theorem aboveG_lt : ∀ (k root frm p : Nat), root < frm → frm ≤ p → p + 1 < frm + 2 ^ k → aboveG k root frm p < p := by
  intro k
  induction k with
  | zero => intro root frm p h1 h2 h3; rw [Nat.pow_zero] at h3; omega
  | succ k ih =>
    intro root frm p h1 h2 h3
    rw [Nat.pow_succ] at h3
    simp only [aboveG]
    split
    · split
      · omega
      · exact ih frm (frm + 1) p (by omega) (by omega) (by omega)
    · exact ih root (frm + 2 ^ k) p (by omega) (by omega) (by omega)
theorem holG_iff (L : List It) : ∀ (k root frm : Nat), holG L k root frm = true ↔ ∀ p, frm ≤ p → p + 1 < frm + 2 ^ k → (lf L (aboveG k root frm p)).1 ≤ (lf L p).1 := by
  intro k
  induction k with
  | zero =>
    intro root frm
    exact ⟨fun _ p h1 h2 => by rw [Nat.pow_zero] at h2; omega, fun _ => rfl⟩
  | succ k ih =>
    intro root frm
    have h0 := pow_pos k
    simp only [holG, Bool.and_eq_true, decide_eq_true_eq]
    rw [ih, ih, Nat.pow_succ]
    constructor
    · rintro ⟨⟨h1, h2⟩, h3⟩ p hp hq
      simp only [aboveG]
      split
      · split
        · rename_i e; subst e; exact h1
        · exact h2 p (by omega) (by omega)
      · exact h3 p (by omega) (by omega)
    · intro h
      refine ⟨⟨?_, fun p hp hq => ?_⟩, fun p hp hq => ?_⟩
      · have := h frm (by omega) (by omega)
        simp only [aboveG] at this
        rwa [if_pos (by omega), if_pos trivial] at this
      · have := h p (by omega) (by omega)
        simp only [aboveG] at this
        rwa [if_pos (by omega), if_neg (by omega)] at this
      · have := h p (by omega) (by omega)
        simp only [aboveG] at this
        rwa [if_neg (by omega)] at this
theorem hol_holG (L : List It) : ∀ (k root frm : Nat), frm + 2 ^ k ≤ L.length + 1 → holB k (lf L root :: (L.drop frm).take (2 ^ k - 1)) = holG L k root frm := by
  intro k
  induction k with
  | zero => intro root frm _; rfl
  | succ k ih =>
    intro root frm h
    have h0 := pow_pos k
    have e1 : 2 ^ (k + 1) - 1 = 2 ^ k + (2 ^ k - 1) := by rw [Nat.pow_succ]; omega
    rw [Nat.pow_succ] at h
    have hp : ((L.drop frm).take (2 ^ k)).length = 2 ^ k := by rw [List.length_take, List.length_drop]; omega
    rw [e1, List.take_add, List.drop_drop, hol_cons k _ _ _ hp]
    have e2 : (L.drop frm).take (2 ^ k) = lf L frm :: (L.drop (frm + 1)).take (2 ^ k - 1) := by
      rw [List.drop_eq_getElem_cons (show frm < L.length by omega), lf_get (show frm < L.length by omega)]
      obtain ⟨m, hm⟩ : ∃ m, 2 ^ k = m + 1 := ⟨2 ^ k - 1, by omega⟩
      rw [hm, List.take_succ_cons, Nat.add_sub_cancel]
    rw [e2, k0_cons, ih frm (frm + 1) (by omega), ih root (frm + 2 ^ k) (by omega)]
    rfl
theorem hol_is {l : List It} {k : Nat} (hl : l.length = 2 ^ k) : holB k l = true ↔ ∀ p, 1 ≤ p → p < l.length → (lf l (aboveG k 0 1 p)).1 ≤ (lf l p).1 := by
  have h0 := pow_pos k
  have e : l = lf l 0 :: (l.drop 1).take (2 ^ k - 1) := by
    cases l with
    | nil => simp at hl; omega
    | cons x t =>
      rw [List.drop_succ_cons, List.drop_zero, List.take_of_length_le (by simp at hl; omega)]
      rfl
  have h1 := hol_holG l k 0 1 (by omega)
  rw [← e] at h1
  rw [h1, holG_iff]
  exact ⟨fun h p h1 h2 => h p h1 (by omega), fun h p h1 h2 => h p h1 (by omega)⟩
end Rk.Bn
