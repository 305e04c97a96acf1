/- Plain: two sorted lists of the same items have the same keys. -/
import Derived.Test.YtlocmbnbfjonbaaDoorSort
namespace Rk
theorem keys_uniq {a b : List It} (ha : SortedK a) (hb : SortedK b) (hp : a.Perm b) : a.map (·.1) = b.map (·.1) := by
  have h1 : ∀ l : List It, SortedK l → SortedK (l.map fun x => (x.1, (0 : Int))) := fun l h => by
    unfold SortedK at *
    rw [List.pairwise_map]
    exact h
  have h2 : ∀ (l : List It) (k : Int), keyF k (l.map fun x => (x.1, (0 : Int))) = List.replicate (l.countP fun x => decide (x.1 = k)) (k, 0) := by
    intro l k
    induction l with
    | nil => rfl
    | cons x r ih =>
      rw [List.map_cons, List.countP_cons]
      by_cases e : x.1 = k
      · simp only [keyF, List.filter_cons, e, decide_true, if_true] at ih ⊢
        rw [List.replicate_succ]; congr 1
      · simp only [keyF, List.filter_cons, e, decide_false] at ih ⊢
        simpa using ih
  have h3 := sorted_uniq (h1 a ha) (h1 b hb) fun k => by rw [h2, h2, hp.countP_eq]
  have h4 := congrArg (List.map (·.1)) h3
  rw [List.map_map, List.map_map] at h4
  exact h4
end Rk
