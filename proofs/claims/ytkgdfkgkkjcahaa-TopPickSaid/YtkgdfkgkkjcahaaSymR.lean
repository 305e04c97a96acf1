/- One item moved step by step: what a row of swaps with the neighbour makes. -/
import Derived.Test.YtkgdfkgkkjcahaaSym
import Derived.Test.YtkgdfkgkkjcahaaHeapP
namespace Rk
theorem rot_nil (f : Nat → It) (m : Nat) : Rotated f f m m (m + 1) := by
  refine ⟨fun i hi => rfl, fun i hi => by omega, fun i _ => rfl⟩
theorem rot_left {f f' : Nat → It} {j m : Nat} (h : Rotated f f' j m (m + 1)) (hj : 1 ≤ j) (hm : j ≤ m) : Rotated f (swapF f' j (j - 1)) (j - 1) m (m + 1) := by
  obtain ⟨h1, h2, h3⟩ := h
  refine ⟨fun i hi => ?_, fun i hi => ?_, fun i hi => ?_⟩
  · obtain rfl : i = 0 := by omega
    simp only [swapF, Nat.add_zero]
    rw [if_neg (by omega), if_pos (by trivial)]
    have := h1 0 (by omega); simpa using this
  · rw [show j - 1 + (m + 1 - m) + i = j + i from by omega]
    simp only [swapF]
    by_cases e : i = 0
    · subst e
      rw [if_pos (by omega), h3 (j - 1) (by omega)]; rfl
    · rw [if_neg (by omega), if_neg (by omega)]
      have := h2 (i - 1) (by omega)
      rw [show j + (m + 1 - m) + (i - 1) = j + i from by omega, show j + (i - 1) = j - 1 + i from by omega] at this
      exact this
  · simp only [swapF]
    rw [if_neg (by omega), if_neg (by omega)]
    exact h3 i (by omega)
theorem rot_one (f : Nat → It) (a : Nat) : Rotated f f a (a + 1) (a + 1) := by
  refine ⟨fun i hi => by omega, fun i hi => by rw [show a + (a + 1 - (a + 1)) + i = a + i from by omega], fun i _ => rfl⟩
theorem rot_right {f f' : Nat → It} {a k : Nat} (h : Rotated f f' a (a + 1) (k + 1)) (hk : a ≤ k) : Rotated f (swapF f' k (k + 1)) a (a + 1) (k + 2) := by
  obtain ⟨h1, h2, h3⟩ := h
  refine ⟨fun i hi => ?_, fun i hi => ?_, fun i hi => ?_⟩
  · simp only [swapF]
    by_cases e : a + i = k
    · rw [if_pos e, h3 (k + 1) (by omega)]; congr 1; omega
    · rw [if_neg e, if_neg (by omega)]; exact h1 i (by omega)
  · obtain rfl : i = 0 := by omega
    simp only [swapF]
    rw [if_neg (by omega), if_pos (by omega)]
    have := h2 0 (by omega)
    rw [show a + (k + 1 - (a + 1)) + 0 = k from by omega] at this
    exact this
  · simp only [swapF]
    rw [if_neg (by omega), if_neg (by omega)]
    exact h3 i (by omega)
end Rk
