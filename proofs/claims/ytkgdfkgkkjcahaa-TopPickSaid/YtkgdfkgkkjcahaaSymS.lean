/- Plain law: two blocks of places in each other's place; a rotation by such steps. -/
import Derived.Test.YtkgdfkgkkjcahaaSymR
namespace Rk
/-- [a, a + m) and [b, b + m) in each other's place -/
def swapR (f : Nat → It) (a b m : Nat) : Nat → It := fun j => if a ≤ j ∧ j < a + m then f (b + (j - a)) else if b ≤ j ∧ j < b + m then f (a + (j - b)) else f j
theorem swapR_zero (f : Nat → It) (a b : Nat) : swapR f a b 0 = f := by
  funext j; simp only [swapR]; rw [if_neg (by omega), if_neg (by omega)]
theorem swapR_succ (f : Nat → It) {a b m : Nat} (h : a + m < b) : swapF (swapR f a b m) (a + m) (b + m) = swapR f a b (m + 1) := by
  funext j
  simp only [swapF, swapR]
  repeat' split
  all_goals first | rfl | (exfalso; omega) | (congr 1; omega)
theorem swapR_l (f : Nat → It) {a b m j : Nat} (h : a ≤ j ∧ j < a + m) : swapR f a b m j = f (b + (j - a)) := by simp only [swapR]; rw [if_pos h]
theorem swapR_r (f : Nat → It) {a b m j : Nat} (h1 : a + m ≤ b) (h : b ≤ j ∧ j < b + m) : swapR f a b m j = f (a + (j - b)) := by simp only [swapR]; rw [if_neg (by omega), if_pos h]
theorem swapR_o (f : Nat → It) {a b m j : Nat} (h1 : ¬ (a ≤ j ∧ j < a + m)) (h : ¬ (b ≤ j ∧ j < b + m)) : swapR f a b m j = f j := by simp only [swapR]; rw [if_neg h1, if_neg h]
theorem rot_gt {f g : Nat → It} {i j m : Nat} (hij : j < i) (him : i ≤ m) (h : Rotated (swapR f (m - i) m j) g (m - (i - j)) m (m + j)) : Rotated f g (m - i) m (m + j) := by
  obtain ⟨h1, h2, h3⟩ := h
  refine ⟨fun t ht => ?_, fun t ht => ?_, fun t ht => ?_⟩
  · rw [h3 _ (by omega), swapR_l f (by omega)]; congr 1; omega
  · by_cases c : t < j
    · have := h1 t (by omega)
      rw [show m - (i - j) + t = m - i + (m + j - m) + t from by omega, swapR_r f (by omega) (by omega)] at this
      rw [this]; congr 1; omega
    · have := h2 (t - j) (by omega)
      rw [show m - (i - j) + (m + j - m) + (t - j) = m - i + (m + j - m) + t from by omega, show m - (i - j) + (t - j) = m - i + t from by omega] at this
      rw [this, swapR_o f (by omega) (by omega)]
  · rw [h3 _ (by omega), swapR_o f (by omega) (by omega)]
theorem rot_lt {f g : Nat → It} {i j m : Nat} (hij : i < j) (him : i ≤ m) (h : Rotated (swapR f (m - i) (m + j - i) i) g (m - i) m (m + (j - i))) : Rotated f g (m - i) m (m + j) := by
  obtain ⟨h1, h2, h3⟩ := h
  refine ⟨fun t ht => ?_, fun t ht => ?_, fun t ht => ?_⟩
  · by_cases c : t < j - i
    · rw [h1 t (by omega), swapR_o f (by omega) (by omega)]
    · have := h2 (t - (j - i)) (by omega)
      rw [show m - i + (m + (j - i) - m) + (t - (j - i)) = m - i + t from by omega, swapR_l f (by omega)] at this
      rw [this]; congr 1; omega
  · rw [h3 _ (by omega), swapR_r f (by omega) (by omega)]; congr 1; omega
  · rw [h3 _ (by omega), swapR_o f (by omega) (by omega)]
theorem rot_eq (f : Nat → It) {i m : Nat} (him : i ≤ m) : Rotated f (swapR f (m - i) m i) (m - i) m (m + i) := by
  refine ⟨fun t ht => ?_, fun t ht => ?_, fun t ht => ?_⟩
  · rw [swapR_l f (by omega)]; congr 1; omega
  · rw [swapR_r f (by omega) (by omega)]; congr 1; omega
  · rw [swapR_o f (by omega) (by omega)]
theorem rot_none_l (f : Nat → It) (m e : Nat) : Rotated f f m m e := ⟨fun _ _ => rfl, fun i hi => by omega, fun _ _ => rfl⟩
theorem rot_none_r (f : Nat → It) (s m : Nat) : Rotated f f s m m := ⟨fun i hi => by omega, fun i _ => by rw [show s + (m - m) + i = s + i from by omega], fun _ _ => rfl⟩
/-- what is sorted ahead of the recursion -/
theorem rot_sorted {f f' : Nat → It} {a s m e b mid : Nat} (hmid : mid + m = s + e) (has : a ≤ s) (hsm : s ≤ m) (hme : m ≤ e) (heb : e ≤ b) (h1 : SortedSeg f a m) (h2 : SortedSeg f m b) (hr : Rotated f f' s m e) :
    SortedSeg f' a s ∧ SortedSeg f' s mid ∧ SortedSeg f' mid e ∧ SortedSeg f' e b := by
  obtain ⟨r1, r2, r3⟩ := hr
  refine ⟨(h1.sub (Nat.le_refl _) hsm).congr fun i _ hi => r3 i (Or.inl hi), ?_, ?_, (h2.sub hme (Nat.le_refl _)).congr fun i hi _ => r3 i (Or.inr hi)⟩
  · have := SortedSeg.shift (f := f) (g := f') (a := m) (c := s) (n := e - m) (h2.sub (Nat.le_refl _) (by omega)) fun i hi => r1 i hi
    exact this.sub (Nat.le_refl _) (by omega)
  · have := SortedSeg.shift (f := f) (g := f') (a := s) (c := mid) (n := m - s) (h1.sub has (by omega)) fun i hi => by
      have := r2 i hi
      rw [show s + (e - m) = mid from by omega] at this
      exact this
    exact this.sub (Nat.le_refl _) (by omega)
theorem SortedSeg.tiny (f : Nat → It) {a b : Nat} (h : b ≤ a + 1) : SortedSeg f a b := fun i j hi hij hj => by omega
end Rk
