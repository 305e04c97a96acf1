/- Plain law: the middle of what came by two halves; the least of the last ones by a list of those that none later undercuts. No program in sight. -/
import Derived.Test.YtkgdfkgkkjcahaaEng
namespace Rk.Stm
/-- two halves -/
structure Med (all L H : List Int) : Prop where
  perm : (L ++ H).Perm all
  split : ∀ a ∈ L, ∀ b ∈ H, a ≤ b
  even : L.length = H.length ∨ L.length = H.length + 1
theorem med_nil : Med [] [] [] := ⟨List.Perm.refl _, fun a h => by simp at h, .inl rfl⟩
section
variable {all L H L' H' : List Int} {n m : Int}
theorem count_perm {p : Int → Bool} {a b : List Int} (h : a.Perm b) : a.countP p = b.countP p := h.countP_eq p
/-- the greatest of the lesser half is the middle -/
theorem Med.middle (h : Med all (m :: L) H) (hm : ∀ a ∈ L, a ≤ m) : m ∈ all ∧ 2 * all.countP (fun x => decide (x < m)) ≤ all.length ∧ 2 * all.countP (fun x => decide (m < x)) ≤ all.length ∧
    all.countP (fun x => decide (x < m)) + all.countP (fun x => decide (m < x)) < all.length := by
  have hlen := h.perm.length_eq
  simp at hlen
  have he := h.even
  simp only [List.length_cons] at he
  have h1 : all.countP (fun x => decide (x < m)) ≤ L.length := by
    rw [← count_perm h.perm, List.countP_append, List.countP_cons]
    have hH : H.countP (fun x => decide (x < m)) = 0 := List.countP_eq_zero.2 fun b hb => by have := h.split m (by simp) b hb; simp; omega
    have hL := List.countP_le_length (p := fun x => decide (x < m)) (l := L)
    rw [hH]; simp; omega
  have h2 : all.countP (fun x => decide (m < x)) ≤ H.length := by
    rw [← count_perm h.perm, List.countP_append]
    have hL : (m :: L).countP (fun x => decide (m < x)) = 0 := List.countP_eq_zero.2 fun a ha => by
      rcases List.mem_cons.1 ha with rfl | ha
      · simp
      · have := hm a ha; simp; omega
    have hH := List.countP_le_length (p := fun x => decide (m < x)) (l := H)
    rw [hL]; omega
  exact ⟨h.perm.mem_iff.1 (by simp), by omega, by omega, by omega⟩
theorem Med.permL (h : Med all L H) (p : L'.Perm L) : Med all L' H := ⟨(p.append_right H).trans h.perm, fun a ha => h.split a (p.mem_iff.1 ha), by rw [p.length_eq]; exact h.even⟩
theorem Med.permH (h : Med all L H) (p : H'.Perm H) : Med all L H' := ⟨(p.append_left L).trans h.perm, fun a ha b hb => h.split a ha b (p.mem_iff.1 hb), by rw [p.length_eq]; exact h.even⟩
/-- one more, on its way: the halves may be out of step -/
structure Half (all L H : List Int) : Prop where
  perm : (L ++ H).Perm all
  split : ∀ a ∈ L, ∀ b ∈ H, a ≤ b
theorem Half.permL (h : Half all L H) (p : L'.Perm L) : Half all L' H := ⟨(p.append_right H).trans h.perm, fun a ha => h.split a (p.mem_iff.1 ha)⟩
theorem Half.permH (h : Half all L H) (p : H'.Perm H) : Half all L H' := ⟨(p.append_left L).trans h.perm, fun a ha b hb => h.split a ha b (p.mem_iff.1 hb)⟩
theorem Med.low (h : Med all L H) (hn : L = [] ∨ ∃ a ∈ L, n ≤ a) : Half (all ++ [n]) (n :: L) H := by
  refine ⟨?_, fun a ha b hb => ?_⟩
  · exact (List.Perm.cons n h.perm).trans (List.perm_append_comm (l₁ := [n]))
  · rcases List.mem_cons.1 ha with rfl | ha
    · rcases hn with rfl | ⟨c, hc, hnc⟩
      · have he := h.even
        have : H = [] := List.eq_nil_of_length_eq_zero (by simp at he; omega)
        subst this; cases hb
      · have := h.split c hc b hb; omega
    · exact h.split a ha b hb
theorem Med.high (h : Med all L H) (hn : ∀ a ∈ L, a < n) : Half (all ++ [n]) L (n :: H) := by
  refine ⟨?_, fun a ha b hb => ?_⟩
  · exact List.perm_middle.trans ((List.Perm.cons n h.perm).trans (List.perm_append_comm (l₁ := [n])))
  · rcases List.mem_cons.1 hb with rfl | hb
    · have := hn a ha; omega
    · exact h.split a ha b hb
/-- the greatest of the lesser half goes over -/
theorem Half.over (h : Half all (m :: L) H) (hm : ∀ a ∈ L, a ≤ m) : Half all L (m :: H) :=
  ⟨List.perm_middle.trans h.perm, fun a ha b hb => by
    rcases List.mem_cons.1 hb with rfl | hb
    · exact hm a ha
    · exact h.split a (by simp [ha]) b hb⟩
/-- the least of the greater half comes back -/
theorem Half.back (h : Half all L (m :: H)) (hm : ∀ b ∈ H, m ≤ b) : Half all (m :: L) H :=
  ⟨List.perm_middle.symm.trans h.perm, fun a ha b hb => by
    rcases List.mem_cons.1 ha with rfl | ha
    · exact hm b hb
    · exact h.split a ha b (by simp [hb])⟩
theorem Half.med (h : Half all L H) (e : L.length = H.length ∨ L.length = H.length + 1) : Med all L H := ⟨h.perm, h.split, e⟩
end
/-- those of the last ones that none later undercuts: the place, the number -/
structure Dq (all : List Int) (room : Nat) (D : List (Nat × Int)) : Prop where
  mem : ∀ x ∈ D, x.1 < all.length ∧ all.length ≤ x.1 + room ∧ all[x.1]? = some x.2
  inc : D.Pairwise (fun a b => a.1 < b.1 ∧ a.2 ≤ b.2)
  cover : ∀ j v, all[j]? = some v → all.length ≤ j + room → ∃ x ∈ D, j ≤ x.1 ∧ x.2 ≤ v
theorem dq_nil (room : Nat) : Dq [] room [] := ⟨fun x h => by simp at h, List.Pairwise.nil, fun j v h => by simp at h⟩
section
variable {all : List Int} {room : Nat} {D D1 D2 : List (Nat × Int)} {n : Int}
/-- the first one is the least of the last ones -/
theorem Dq.least {x : Nat × Int} (h : Dq all room (x :: D)) : (∀ j v, all[j]? = some v → all.length ≤ j + room → x.2 ≤ v) ∧ all[x.1]? = some x.2 ∧ all.length ≤ x.1 + room := by
  refine ⟨fun j v hj hr => ?_, (h.mem x (by simp)).2.2, (h.mem x (by simp)).2.1⟩
  obtain ⟨y, hy, _, h2⟩ := h.cover j v hj hr
  rcases List.mem_cons.1 hy with rfl | hy
  · exact h2
  · have := ((List.pairwise_cons.1 h.inc).1 y hy).2; omega
theorem get_snoc {j : Nat} {v : Int} (h : (all ++ [n])[j]? = some v) : (j < all.length ∧ all[j]? = some v) ∨ (j = all.length ∧ v = n) := by
  rcases Nat.lt_or_ge j all.length with hj | hj
  · exact .inl ⟨hj, by rwa [List.getElem?_append_left hj] at h⟩
  · right
    rw [List.getElem?_append_right hj] at h
    have : j - all.length = 0 := by
      rcases Nat.eq_zero_or_pos (j - all.length) with e | e
      · exact e
      · rw [List.getElem?_eq_none (by simp; omega)] at h; cases h
    rw [this] at h
    exact ⟨by omega, by simpa using h.symm⟩
/-- one more came: what it undercuts is gone; then the first one, if it is no more among the last ones -/
theorem Dq.put (h : Dq all room (D1 ++ D2)) (hroom : 1 ≤ room) (h1 : ∀ x ∈ D1, x.2 ≤ n) (h2 : ∀ x ∈ D2, n < x.2) :
    (∀ x r, D1 ++ [(all.length, n)] = x :: r → ((x.1 + room < all.length + 1 → r ≠ [] ∧ Dq (all ++ [n]) room r) ∧ (¬ x.1 + room < all.length + 1 → Dq (all ++ [n]) room (x :: r)))) := by
  intro x r e
  have hin := List.pairwise_append.1 h.inc
  have hE : (D1 ++ [(all.length, n)]).Pairwise (fun a b => a.1 < b.1 ∧ a.2 ≤ b.2) := by
    rw [List.pairwise_append]
    refine ⟨hin.1, by simp, fun a ha b hb => ?_⟩
    obtain rfl := List.mem_singleton.1 hb
    exact ⟨(h.mem a (by simp [ha])).1, h1 a ha⟩
  have hcov : ∀ j v, (all ++ [n])[j]? = some v → (all ++ [n]).length ≤ j + room → ∃ y ∈ D1 ++ [(all.length, n)], j ≤ y.1 ∧ y.2 ≤ v := by
    intro j v hj hr
    rcases get_snoc hj with ⟨hlt, hj'⟩ | ⟨rfl, rfl⟩
    · obtain ⟨y, hy, a, b⟩ := h.cover j v hj' (by simp at hr; omega)
      rcases List.mem_append.1 hy with hy | hy
      · exact ⟨y, by simp [hy], a, b⟩
      · exact ⟨(all.length, n), by simp, by simp; omega, by have := h2 y hy; simp; omega⟩
    · exact ⟨_, List.mem_append_right _ (List.mem_singleton.2 rfl), Nat.le_refl _, Int.le_refl _⟩
  have hmem : ∀ y ∈ D1 ++ [(all.length, n)], y.1 < all.length + 1 ∧ (all ++ [n])[y.1]? = some y.2 := by
    intro y hy
    rcases List.mem_append.1 hy with hy | hy
    · obtain ⟨a, _, c⟩ := h.mem y (by simp [hy])
      exact ⟨by omega, by rw [List.getElem?_append_left a]; exact c⟩
    · obtain rfl := List.mem_singleton.1 hy
      exact ⟨by simp, by simp⟩
  have hroomD : ∀ y ∈ D1, all.length ≤ y.1 + room := fun y hy => (h.mem y (by simp [hy])).2.1
  have hxmem : x ∈ D1 ++ [(all.length, n)] := by rw [e]; simp
  rw [e] at hE hcov hmem
  obtain ⟨hE1, hE2⟩ := List.pairwise_cons.1 hE
  have hx : all.length ≤ x.1 + room := by
    rcases List.mem_append.1 hxmem with hy | hy
    · exact hroomD x hy
    · obtain rfl := List.mem_singleton.1 hy; simp
  constructor
  · intro hlt
    have hr0 : r ≠ [] := by
      rintro rfl
      have : (all.length, n) ∈ [x] := by rw [← e]; simp
      have := List.mem_singleton.1 this
      rw [← this] at hlt
      simp at hlt; omega
    refine ⟨hr0, fun y hy => ?_, hE2, fun j v hj hr => ?_⟩
    · have a := hmem y (by simp [hy])
      have b := (hE1 y hy).1
      exact ⟨by simpa using a.1, by simp; omega, a.2⟩
    · obtain ⟨y, hy, a, b⟩ := hcov j v hj hr
      rcases List.mem_cons.1 hy with rfl | hy
      · exfalso; simp at hr; omega
      · exact ⟨y, hy, a, b⟩
  · intro hge
    refine ⟨fun y hy => ?_, hE, hcov⟩
    have a := hmem y hy
    refine ⟨by simpa using a.1, ?_, a.2⟩
    rcases List.mem_cons.1 hy with rfl | hy
    · simp; omega
    · have b := (hE1 y hy).1; simp; omega
end
end Rk.Stm
