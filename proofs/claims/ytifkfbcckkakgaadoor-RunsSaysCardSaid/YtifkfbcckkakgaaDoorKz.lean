/- Numbers as things with a key; sorted numbers. -/
import Derived.Test.YtifkfbcckkakgaaDoorSort
import Derived.Test.YtifkfbcckkakgaaDoorSl
namespace Rk
open Go Go.RowKit Go.Proofs
def kz (k : Int) : It := (k, 0)
theorem stab_of_perm {a b : List Int} (h : a.Perm b) : Stab (a.map kz) (b.map kz) := by
  intro k
  have h2 : (keyF k (a.map kz)).Perm (keyF k (b.map kz)) := (h.map kz).filter _
  have e : ∀ l : List Int, keyF k (l.map kz) = List.replicate (keyF k (l.map kz)).length (k, 0) := by
    intro l
    rw [List.eq_replicate_iff]
    refine ⟨rfl, fun x hx => ?_⟩
    obtain ⟨h1, h3⟩ := List.mem_filter.1 hx
    obtain ⟨y, _, rfl⟩ := List.mem_map.1 h1
    have h4 := of_decide_eq_true h3
    simp only [kz] at h4 ⊢
    rw [h4]
  rw [e a, e b, h2.length_eq]
theorem sortK_kz {a l : List Int} (hp : a.Perm l) (hs : a.Pairwise (· ≤ ·)) : sortK (l.map kz) = a.map kz := by
  refine (sortK_eq ?_ (stab_of_perm hp)).symm
  unfold SortedK
  rw [List.pairwise_map]
  exact hs
theorem lf_kz {a : List Int} {i : Nat} (h : i < a.length) : (lf (a.map kz) i).1 = lf a i := by
  rw [lf_get h, lf_get (by rw [List.length_map]; exact h), List.getElem_map]; rfl
end Rk
