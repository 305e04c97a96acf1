/- Plain: the middle, and the least of the last ones, as the document's answer has them: what stands at a place when all is sorted. -/
import Derived.Test.YtmhmcabkbhlimaaDoorRefN
import Derived.Test.YtmhmcabkbhlimaaDoorSortP
import Derived.Test.YtmhmcabkbhlimaaDoorStreamP
namespace Rk
theorem srt_at {al : List Int} {j : Nat} (hj : j < al.length) : al.countP (fun x => decide (x < lf (intsS al) j)) ≤ j ∧ al.countP (fun x => decide (lf (intsS al) j < x)) < al.length - j ∧ lf (intsS al) j ∈ al := by
  have hl : (al.map fun a => (a, (0 : Int))).length = al.length := List.length_map _
  have e : lf (intsS al) j = (lf (sortK (al.map fun a => (a, (0 : Int)))) j).1 := by
    rw [lf_get (by rw [intsS_len]; exact hj), lf_get (by rw [sortK_length, hl]; exact hj)]
    simp [intsS]
  have h1 := at_below (l := al.map fun a => (a, (0 : Int))) (j := j) (by omega)
  have h2 := at_above (l := al.map fun a => (a, (0 : Int))) (j := j) (by omega)
  have h3 := at_mem (l := al.map fun a => (a, (0 : Int))) (j := j) (by omega)
  rw [List.countP_map] at h1 h2
  rw [hl] at h2
  rw [e]
  refine ⟨h1, h2, ?_⟩
  obtain ⟨a, ha, ea⟩ := List.mem_map.1 h3
  rw [← ea]; exact ha
theorem cnt_not {al : List Int} (t : Int) : al.countP (fun x => decide (x ≤ t)) + al.countP (fun x => decide (t < x)) = al.length := by
  induction al with
  | nil => rfl
  | cons a l ih =>
    rw [List.countP_cons, List.countP_cons, List.length_cons]
    by_cases h : a ≤ t
    · rw [if_pos (by simpa using h), if_neg (by simpa using h)]; omega
    · rw [if_neg (by simpa using h), if_pos (by simp; omega)]; omega
theorem at_uniq {al : List Int} {t m : Int} {j : Nat} (h1 : al.countP (fun x => decide (x < t)) ≤ j) (h2 : al.countP (fun x => decide (t < x)) < al.length - j)
    (h3 : al.countP (fun x => decide (x < m)) ≤ j) (h4 : al.countP (fun x => decide (m < x)) < al.length - j) : t = m := by
  have key : ∀ a b : Int, al.countP (fun x => decide (a < x)) < al.length - j → al.countP (fun x => decide (x < b)) ≤ j → ¬ a < b := fun a b ha hb hab => by
    have := cnt_not (al := al) a
    have h := List.countP_mono_left (l := al) (p := fun x => decide (x ≤ a)) (q := fun x => decide (x < b)) (fun x _ hx => by simp at hx ⊢; omega)
    omega
  have := key t m h2 h3
  have := key m t h4 h1
  omega
theorem mid_at {al L H : List Int} {m : Int} (h : Stm.Med al (m :: L) H) (hm : ∀ a ∈ L, a ≤ m) : lf (intsS al) ((al.length - 1) / 2) = m := by
  have hlen := h.perm.length_eq
  simp at hlen
  have he := h.even
  simp only [List.length_cons] at he
  have h1 : al.countP (fun x => decide (x < m)) ≤ L.length := by
    rw [← Stm.count_perm h.perm, List.countP_append, List.countP_cons]
    have hH : H.countP (fun x => decide (x < m)) = 0 := List.countP_eq_zero.2 fun b hb => by have := h.split m (by simp) b hb; simp; omega
    have hL := List.countP_le_length (p := fun x => decide (x < m)) (l := L)
    rw [hH]; simp; omega
  have h2 : al.countP (fun x => decide (m < x)) ≤ H.length := by
    rw [← Stm.count_perm h.perm, List.countP_append]
    have hL : (m :: L).countP (fun x => decide (m < x)) = 0 := List.countP_eq_zero.2 fun a ha => by
      rcases List.mem_cons.1 ha with rfl | ha
      · simp
      · have := hm a ha; simp; omega
    have hH := List.countP_le_length (p := fun x => decide (m < x)) (l := H)
    rw [hL]; omega
  have hj : (al.length - 1) / 2 = L.length := by omega
  rw [hj]
  obtain ⟨a1, a2, _⟩ := srt_at (al := al) (j := L.length) (by omega)
  exact at_uniq a1 a2 h1 (by omega)
theorem least_at {al D : List Int} {x : Nat × Int} {d : Nat} (hD : D = al.drop d) (h1 : ∀ j, d ≤ j → ∀ v, al[j]? = some v → x.2 ≤ v) (h2 : al[x.1]? = some x.2) (hd : d ≤ x.1) : lf (intsS D) 0 = x.2 := by
  subst hD
  have hx : x.1 < al.length := (List.getElem?_eq_some_iff.1 h2).1
  have hm : x.2 ∈ al.drop d := List.mem_iff_getElem?.2 ⟨x.1 - d, by rw [List.getElem?_drop, show d + (x.1 - d) = x.1 from by omega]; exact h2⟩
  obtain ⟨a1, _, a3⟩ := srt_at (al := al.drop d) (j := 0) (by rw [List.length_drop]; omega)
  obtain ⟨q, hq⟩ := List.mem_iff_getElem?.1 a3
  rw [List.getElem?_drop] at hq
  have hge := h1 (d + q) (by omega) _ hq
  have hz := List.countP_eq_zero.1 (Nat.le_zero.1 a1) x.2 hm
  simp at hz
  omega
end Rk
