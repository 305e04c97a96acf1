/- Plain law: how many pairs stand the wrong way round; merging counts them. No program in sight. -/
import Derived.Test.YtflbanfdkhjkmaaDoorSort
namespace Rk
/-- pairs that stand the wrong way round -/
def inv : List It → Nat
  | [] => 0
  | x :: r => r.countP (fun y => decide (y.1 < x.1)) + inv r
/-- pairs of which the one is in a, the other in b, the wrong way round -/
def cross (a b : List It) : Nat := (a.map fun x => b.countP fun y => decide (y.1 < x.1)).sum
/-- pairs whose keys are unlike -/
def unlike : List It → Nat
  | [] => 0
  | x :: r => r.countP (fun y => decide (y.1 ≠ x.1)) + unlike r

theorem cross_nil_right (a : List It) : cross a [] = 0 := by
  induction a with
  | nil => rfl
  | cons x r ih => simp only [cross, List.map_cons, List.sum_cons, List.countP_nil] at *; omega
theorem cross_cons (x : It) (a b : List It) : cross (x :: a) b = b.countP (fun y => decide (y.1 < x.1)) + cross a b := by simp [cross]
theorem cross_append_left (a a' b : List It) : cross (a ++ a') b = cross a b + cross a' b := by simp [cross]
theorem cross_append_right (a b b' : List It) : cross a (b ++ b') = cross a b + cross a b' := by
  induction a with
  | nil => rfl
  | cons x r ih => rw [cross_cons, cross_cons, cross_cons, ih, List.countP_append]; omega
theorem inv_append (a b : List It) : inv (a ++ b) = inv a + inv b + cross a b := by
  induction a with
  | nil => simp [inv, cross]
  | cons x r ih => rw [List.cons_append, inv, inv, cross_cons, ih, List.countP_append]; omega
theorem cross_perm {a a' b b' : List It} (h : a.Perm a') (g : b.Perm b') : cross a b = cross a' b' := by
  have e : ∀ x : It, b.countP (fun y => decide (y.1 < x.1)) = b'.countP (fun y => decide (y.1 < x.1)) := fun x => g.countP_eq _
  have : cross a b = cross a b' := by unfold cross; congr 1; exact List.map_congr_left fun x _ => e x
  rw [this]
  unfold cross
  exact (h.map _).sum_nat
theorem countP_lt_sorted {x : It} {b : List It} (h : ∀ y ∈ b, x.1 ≤ y.1) : b.countP (fun y => decide (y.1 < x.1)) = 0 := by
  rw [List.countP_eq_zero]
  intro y hy
  have := h y hy
  simp; omega
theorem cross_one_right (a : List It) (y : It) : cross a [y] = a.countP (fun x => decide (y.1 < x.1)) := by
  induction a with
  | nil => rfl
  | cons x r ih =>
    rw [cross_cons, ih, List.countP_cons, List.countP_cons]
    simp [Nat.add_comm]
theorem inv_snoc (a : List It) (y : It) : inv (a ++ [y]) = inv a + a.countP (fun x => decide (y.1 < x.1)) := by
  rw [inv_append, cross_one_right]; simp [inv]

/-- merged: of one key those of a ahead -/
def mergeK : List It → List It → List It
  | [], b => b
  | a, [] => a
  | x :: a, y :: b => if y.1 < x.1 then y :: mergeK (x :: a) b else x :: mergeK a (y :: b)
termination_by a b => a.length + b.length
theorem mergeK_nil_left (b : List It) : mergeK [] b = b := by rw [mergeK]
theorem mergeK_nil_right (a : List It) : mergeK a [] = a := by cases a <;> simp [mergeK]
theorem mergeK_cons (x y : It) (a b : List It) : mergeK (x :: a) (y :: b) = if y.1 < x.1 then y :: mergeK (x :: a) b else x :: mergeK a (y :: b) := by rw [mergeK]
theorem mergeK_perm : ∀ (n : Nat) (a b : List It), a.length + b.length ≤ n → (mergeK a b).Perm (a ++ b) := by
  intro n
  induction n with
  | zero =>
    intro a b h
    have : a = [] := List.eq_nil_of_length_eq_zero (by omega)
    subst this; rw [mergeK_nil_left]; exact List.Perm.refl _
  | succ n ih =>
    intro a b h
    cases a with
    | nil => rw [mergeK_nil_left]; exact List.Perm.refl _
    | cons x a =>
      cases b with
      | nil => rw [mergeK_nil_right]; simp
      | cons y b =>
        rw [mergeK_cons]
        simp only [List.length_cons] at h
        split
        · exact (List.Perm.cons _ (ih (x :: a) b (by simp; omega))).trans List.perm_middle.symm
        · exact List.Perm.cons _ (ih a (y :: b) (by simp; omega))
theorem mergeK_sorted : ∀ (n : Nat) (a b : List It), a.length + b.length ≤ n → SortedK a → SortedK b → SortedK (mergeK a b) := by
  intro n
  induction n with
  | zero =>
    intro a b h _ hb
    have : a = [] := List.eq_nil_of_length_eq_zero (by omega)
    subst this; rw [mergeK_nil_left]; exact hb
  | succ n ih =>
    intro a b h ha hb
    cases a with
    | nil => rw [mergeK_nil_left]; exact hb
    | cons x a =>
      cases b with
      | nil => rw [mergeK_nil_right]; exact ha
      | cons y b =>
        rw [mergeK_cons]
        have ha' := List.pairwise_cons.1 ha
        have hb' := List.pairwise_cons.1 hb
        simp only [List.length_cons] at h
        split
        · rename_i hlt
          refine List.pairwise_cons.2 ⟨fun z hz => ?_, ih (x :: a) b (by simp; omega) ha hb'.2⟩
          rcases List.mem_append.1 ((mergeK_perm _ _ _ (Nat.le_refl _)).mem_iff.1 hz) with hm | hm
          · rcases List.mem_cons.1 hm with e | hm
            · rw [e]; omega
            · have := ha'.1 z hm; omega
          · exact hb'.1 z hm
        · rename_i hlt
          refine List.pairwise_cons.2 ⟨fun z hz => ?_, ih a (y :: b) (by simp; omega) ha'.2 hb⟩
          rcases List.mem_append.1 ((mergeK_perm _ _ _ (Nat.le_refl _)).mem_iff.1 hz) with hm | hm
          · exact ha'.1 z hm
          · rcases List.mem_cons.1 hm with e | hm
            · rw [e]; omega
            · have := hb'.1 z hm; omega
theorem mergeK_stab : ∀ (n : Nat) (a b : List It), a.length + b.length ≤ n → SortedK a → SortedK b → Stab (mergeK a b) (a ++ b) := by
  intro n
  induction n with
  | zero =>
    intro a b h _ hb
    have : a = [] := List.eq_nil_of_length_eq_zero (by omega)
    subst this; rw [mergeK_nil_left]; exact Stab.refl _
  | succ n ih =>
    intro a b h ha hb k
    cases a with
    | nil => rw [mergeK_nil_left]; rfl
    | cons x a =>
      cases b with
      | nil => rw [mergeK_nil_right]; simp
      | cons y b =>
        rw [mergeK_cons]
        have ha' := List.pairwise_cons.1 ha
        have hb' := List.pairwise_cons.1 hb
        simp only [List.length_cons] at h
        split
        · rename_i hlt
          have h1 := ih (x :: a) b (by simp; omega) ha hb'.2 k
          by_cases hy : y.1 = k
          · have hnone : keyF k (x :: a) = [] := by
              refine List.eq_nil_iff_forall_not_mem.2 fun z hz => ?_
              have hz' := mem_keyF.1 hz
              rcases List.mem_cons.1 hz'.1 with e | hm
              · rw [e] at hz'; omega
              · have := ha'.1 z hm; omega
            rw [keyF_append, hnone] at h1
            rw [keyF_append, hnone]
            simp only [keyF, List.filter_cons, hy, decide_true, if_true, List.nil_append] at *
            rw [h1]
          · rw [keyF_append] at h1 ⊢
            have e1 : ∀ l, keyF k (y :: l) = keyF k l := fun l => by simp [keyF, hy]
            rw [e1, e1, h1]
        · have h1 := ih a (y :: b) (by simp; omega) ha'.2 hb k
          simp only [keyF, List.cons_append, List.filter_cons] at *
          rw [h1]
theorem mergeK_eq {a b : List It} (ha : SortedK a) (hb : SortedK b) : mergeK a b = sortK (a ++ b) :=
  sortK_eq (mergeK_sorted _ a b (Nat.le_refl _) ha hb) (mergeK_stab _ a b (Nat.le_refl _) ha hb)
theorem cross_step_right {x y : It} {a b : List It} (ha : SortedK (x :: a)) (h : y.1 < x.1) : cross (x :: a) (y :: b) = (x :: a).length + cross (x :: a) b := by
  have e : y :: b = [y] ++ b := rfl
  rw [e, cross_append_right, cross_one_right]
  congr 1
  rw [List.countP_eq_length]
  intro z hz
  rcases List.mem_cons.1 hz with e | hm
  · rw [e]; simpa using h
  · have := (List.pairwise_cons.1 ha).1 z hm
    simp; omega
theorem cross_step_left {x y : It} {a b : List It} (hb : SortedK (y :: b)) (h : ¬ y.1 < x.1) : cross (x :: a) (y :: b) = cross a (y :: b) := by
  rw [cross_cons, countP_lt_sorted, Nat.zero_add]
  intro z hz
  rcases List.mem_cons.1 hz with e | hm
  · rw [e]; omega
  · have := (List.pairwise_cons.1 hb).1 z hm; omega
theorem cross_sort (a b : List It) : cross (sortK a) (sortK b) = cross a b := cross_perm (sortK_stab a).perm (sortK_stab b).perm

theorem inv_zero {l : List It} : inv l = 0 ↔ SortedK l := by
  induction l with
  | nil => simp [inv, SortedK]
  | cons x r ih =>
    unfold SortedK at *
    rw [List.pairwise_cons, ← ih, inv]
    constructor
    · intro h
      have h0 : r.countP (fun y => decide (y.1 < x.1)) = 0 := by omega
      rw [List.countP_eq_zero] at h0
      exact ⟨fun y hy => by have := h0 y hy; simp at this; omega, by omega⟩
    · rintro ⟨h1, h2⟩
      rw [countP_lt_sorted h1, h2]

theorem unlike_append_one (a : List It) (y : It) : unlike (a ++ [y]) = unlike a + a.countP (fun x => decide (x.1 ≠ y.1)) := by
  induction a with
  | nil => simp [unlike]
  | cons x r ih =>
    rw [List.cons_append, unlike, unlike, ih, List.countP_append, List.countP_cons (l := r)]
    simp only [List.countP_cons, List.countP_nil]
    have e : (decide (y.1 ≠ x.1)) = decide (x.1 ≠ y.1) := by
      by_cases h : y.1 = x.1
      · simp [h]
      · have : ¬ x.1 = y.1 := fun e => h e.symm
        simp [h, this]
    rw [e]
    omega
theorem inv_reverse (l : List It) : inv l + inv l.reverse = unlike l := by
  induction l with
  | nil => rfl
  | cons x r ih =>
    rw [List.reverse_cons, inv_snoc, inv, unlike, ← ih, (List.reverse_perm r).countP_eq]
    have : r.countP (fun y => decide (y.1 ≠ x.1)) = r.countP (fun y => decide (y.1 < x.1)) + r.countP (fun y => decide (x.1 < y.1)) := by
      clear ih
      induction r with
      | nil => rfl
      | cons z r ih =>
        rw [List.countP_cons, List.countP_cons, List.countP_cons, ih]
        rcases Int.lt_trichotomy z.1 x.1 with h | h | h
        · have h1 : ¬ z.1 = x.1 := by omega
          have h2 : ¬ x.1 < z.1 := by omega
          simp [h, h1, h2]; omega
        · have h1 : ¬ z.1 < x.1 := by omega
          have h2 : ¬ x.1 < z.1 := by omega
          simp [h, h1, h2]
        · have h1 : ¬ z.1 = x.1 := by omega
          have h2 : ¬ z.1 < x.1 := by omega
          simp [h, h1, h2]; omega
    omega
/-- neighbours in each other's place -/
theorem inv_swap (a b : List It) (x y : It) : inv (a ++ y :: x :: b) + (if y.1 < x.1 then 1 else 0) = inv (a ++ x :: y :: b) + (if x.1 < y.1 then 1 else 0) := by
  rw [inv_append, inv_append, cross_perm (List.Perm.refl a) (List.Perm.swap x y b)]
  simp only [inv, List.countP_cons]
  simp only [decide_eq_true_eq]
  omega
end Rk
