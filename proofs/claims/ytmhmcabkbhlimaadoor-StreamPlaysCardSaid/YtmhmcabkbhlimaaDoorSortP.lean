/- Plain: how many of a list are below, and above, what stands at a place when it is sorted. -/
import Derived.Test.YtmhmcabkbhlimaaDoorSort
import Derived.Test.YtmhmcabkbhlimaaDoorOwn
namespace Rk
theorem countP_le_len {α : Type} (p : α → Bool) (l : List α) : l.countP p ≤ l.length := List.countP_le_length
theorem sorted_at {S : List It} (hs : SortedK S) {i j : Nat} (hij : i ≤ j) (hj : j < S.length) : (S[i]'(by omega)).1 ≤ S[j].1 := by
  rcases Nat.lt_or_eq_of_le hij with h | h
  · exact (List.pairwise_iff_getElem.1 hs) i j (by omega) hj h
  · subst h; exact Int.le_refl _
theorem below_le {S : List It} (hs : SortedK S) {j : Nat} (hj : j < S.length) : S.countP (fun x => decide (x.1 < S[j].1)) ≤ j := by
  have h : S.countP (fun x => decide (x.1 < S[j].1)) = (S.take j).countP (fun x => decide (x.1 < S[j].1)) + (S.drop j).countP (fun x => decide (x.1 < S[j].1)) := by
    rw [← List.countP_append, List.take_append_drop]
  have h0 : (S.drop j).countP (fun x => decide (x.1 < S[j].1)) = 0 := by
    refine List.countP_eq_zero.2 fun x hx => ?_
    obtain ⟨i, hi, rfl⟩ := List.mem_iff_getElem.1 hx
    rw [List.length_drop] at hi
    have := sorted_at hs (i := j) (j := j + i) (by omega) (by omega)
    simp only [List.getElem_drop, decide_eq_true_eq]
    omega
  have h1 := countP_le_len (fun x => decide (x.1 < S[j].1)) (S.take j)
  rw [List.length_take] at h1
  omega
theorem above_lt {S : List It} (hs : SortedK S) {j : Nat} (hj : j < S.length) : S.countP (fun x => decide (S[j].1 < x.1)) < S.length - j := by
  have h : S.countP (fun x => decide (S[j].1 < x.1)) = (S.take (j + 1)).countP (fun x => decide (S[j].1 < x.1)) + (S.drop (j + 1)).countP (fun x => decide (S[j].1 < x.1)) := by
    rw [← List.countP_append, List.take_append_drop]
  have h0 : (S.take (j + 1)).countP (fun x => decide (S[j].1 < x.1)) = 0 := by
    refine List.countP_eq_zero.2 fun x hx => ?_
    obtain ⟨i, hi, rfl⟩ := List.mem_iff_getElem.1 hx
    rw [List.length_take] at hi
    have := sorted_at hs (i := i) (j := j) (by omega) hj
    simp only [List.getElem_take, decide_eq_true_eq]
    omega
  have h1 := countP_le_len (fun x => decide (S[j].1 < x.1)) (S.drop (j + 1))
  rw [List.length_drop] at h1
  omega
theorem at_below {l : List It} {j : Nat} (hj : j < l.length) : l.countP (fun x => decide (x.1 < (lf (sortK l) j).1)) ≤ j := by
  have hj' : j < (sortK l).length := by rw [sortK_length]; exact hj
  rw [← (sortK_stab l).perm.countP_eq, lf_get hj']
  exact below_le (sortK_sorted l) hj'
theorem at_above {l : List It} {j : Nat} (hj : j < l.length) : l.countP (fun x => decide ((lf (sortK l) j).1 < x.1)) < l.length - j := by
  have hj' : j < (sortK l).length := by rw [sortK_length]; exact hj
  rw [← (sortK_stab l).perm.countP_eq, lf_get hj']
  have := above_lt (sortK_sorted l) hj'
  rwa [sortK_length] at this
theorem at_mem {l : List It} {j : Nat} (hj : j < l.length) : lf (sortK l) j ∈ l := by
  have hj' : j < (sortK l).length := by rw [sortK_length]; exact hj
  rw [lf_get hj']
  exact (sortK_stab l).mem.1 (List.getElem_mem _)
end Rk
