/- Plain law: items sorted by key, stably; such an order is unique. No program in sight. -/
import Derived.Below
namespace Rk
abbrev It := Int × Int

/-- of the items those of one key, in order -/
def keyF (k : Int) (l : List It) : List It := l.filter fun x => decide (x.1 = k)
/-- no key falls -/
def SortedK (l : List It) : Prop := l.Pairwise fun a b => a.1 ≤ b.1
/-- as many of each key, in the same order -/
def Stab (a b : List It) : Prop := ∀ k, keyF k a = keyF k b

theorem Stab.refl (a : List It) : Stab a a := fun _ => rfl
theorem Stab.symm {a b : List It} (h : Stab a b) : Stab b a := fun k => (h k).symm
theorem Stab.trans {a b c : List It} (h : Stab a b) (g : Stab b c) : Stab a c := fun k => (h k).trans (g k)
theorem keyF_append (k : Int) (a b : List It) : keyF k (a ++ b) = keyF k a ++ keyF k b := by simp [keyF]
theorem Stab.append {a b c d : List It} (h : Stab a b) (g : Stab c d) : Stab (a ++ c) (b ++ d) := fun k => by
  rw [keyF_append, keyF_append, h k, g k]
theorem mem_keyF {x : It} {k : Int} {l : List It} : x ∈ keyF k l ↔ x ∈ l ∧ x.1 = k := by simp [keyF]
theorem Stab.mem {a b : List It} (h : Stab a b) {x : It} : x ∈ a ↔ x ∈ b := by
  have := h x.1
  constructor <;> intro hx
  · have : x ∈ keyF x.1 a := mem_keyF.2 ⟨hx, rfl⟩
    rw [h x.1] at this
    exact (mem_keyF.1 this).1
  · have : x ∈ keyF x.1 b := mem_keyF.2 ⟨hx, rfl⟩
    rw [← h x.1] at this
    exact (mem_keyF.1 this).1
theorem keyF_count (x : It) (l : List It) : (keyF x.1 l).count x = l.count x := by
  induction l with
  | nil => rfl
  | cons y r ih =>
    simp only [keyF] at *
    by_cases h : y.1 = x.1
    · simp [h, List.count_cons, ih]
    · have : y ≠ x := fun e => h (by rw [e])
      simp [h, ih, this]
theorem Stab.count {a b : List It} (h : Stab a b) (x : It) : a.count x = b.count x := by
  rw [← keyF_count x a, ← keyF_count x b, h x.1]
theorem Stab.perm {a b : List It} (h : Stab a b) : a.Perm b := List.perm_iff_count.2 h.count
theorem Stab.length {a b : List It} (h : Stab a b) : a.length = b.length := h.perm.length_eq

/-- there is just one such order -/
theorem sorted_uniq : ∀ {a b : List It}, SortedK a → SortedK b → Stab a b → a = b := by
  intro a
  induction a with
  | nil =>
    intro b _ _ h
    cases b with
    | nil => rfl
    | cons y r => exact absurd (h.mem.2 (List.mem_cons_self)) (by simp)
  | cons x a ih =>
    intro b ha hb h
    cases b with
    | nil => exact absurd (h.mem.1 (List.mem_cons_self)) (by simp)
    | cons y b =>
      have h1 : y.1 ≤ x.1 := by
        have : x ∈ y :: b := h.mem.1 List.mem_cons_self
        rcases List.mem_cons.1 this with e | hm
        · rw [e]; exact Int.le_refl _
        · exact (List.pairwise_cons.1 hb).1 x hm
      have h2 : x.1 ≤ y.1 := by
        have : y ∈ x :: a := h.mem.2 List.mem_cons_self
        rcases List.mem_cons.1 this with e | hm
        · rw [e]; exact Int.le_refl _
        · exact (List.pairwise_cons.1 ha).1 y hm
      have hk : x.1 = y.1 := Int.le_antisymm h2 h1
      have hx := h x.1
      simp only [keyF, List.filter_cons, hk, decide_true, if_true, List.cons.injEq] at hx
      obtain ⟨hxy, _⟩ := hx
      subst hxy
      have : Stab a b := fun k => by
        have := h k
        simp only [keyF, List.filter_cons] at this
        by_cases e : x.1 = k
        · simpa [e, keyF] using this
        · simpa [e, keyF] using this
      rw [ih (List.pairwise_cons.1 ha).2 (List.pairwise_cons.1 hb).2 this]

/-- put in behind those that are not above it -/
def insK (x : It) : List It → List It
  | [] => [x]
  | y :: r => if y.1 ≤ x.1 then y :: insK x r else x :: y :: r
def sortK (l : List It) : List It := l.foldl (fun acc x => insK x acc) []

theorem mem_insK {x z : It} {l : List It} : z ∈ insK x l ↔ z = x ∨ z ∈ l := by
  induction l with
  | nil => simp [insK]
  | cons y r ih =>
    simp only [insK]
    split
    · simp only [List.mem_cons, ih]; constructor <;> (intro h; rcases h with h | h | h <;> simp [h])
    · simp only [List.mem_cons]
theorem insK_sorted {x : It} {l : List It} (h : SortedK l) : SortedK (insK x l) := by
  induction l with
  | nil => simp [insK, SortedK]
  | cons y r ih =>
    have h' := List.pairwise_cons.1 h
    simp only [insK]
    split
    · rename_i hyx
      refine List.pairwise_cons.2 ⟨fun z hz => ?_, ih h'.2⟩
      rcases mem_insK.1 hz with e | hm
      · rw [e]; exact hyx
      · exact h'.1 z hm
    · rename_i hyx
      refine List.pairwise_cons.2 ⟨fun z hz => ?_, h⟩
      rcases List.mem_cons.1 hz with e | hm
      · rw [e]; omega
      · have := h'.1 z hm; omega
theorem insK_keyF {x : It} {l : List It} (h : SortedK l) (k : Int) : keyF k (insK x l) = keyF k (l ++ [x]) := by
  induction l with
  | nil => simp [insK]
  | cons y r ih =>
    have h' := List.pairwise_cons.1 h
    simp only [insK]
    split
    · have := ih h'.2
      simp only [keyF, List.cons_append, List.filter_cons] at *
      rw [this]
    · rename_i hyx
      by_cases hk : x.1 = k
      · have hnone : ∀ z ∈ y :: r, ¬ z.1 = k := by
          intro z hz
          rcases List.mem_cons.1 hz with e | hm
          · rw [e]; omega
          · have := h'.1 z hm; omega
        have e1 : keyF k (y :: r) = [] := by
          simp only [keyF, List.filter_eq_nil_iff, decide_eq_true_eq]; exact hnone
        rw [keyF_append, e1]
        have : keyF k (x :: y :: r) = [x] ++ keyF k (y :: r) := by simp [keyF, hk]
        rw [this, e1]
        simp [keyF, hk]
      · rw [keyF_append]
        simp [keyF, hk]
theorem foldl_ins (l acc : List It) (h : SortedK acc) : SortedK (l.foldl (fun acc x => insK x acc) acc) ∧ Stab (l.foldl (fun acc x => insK x acc) acc) (acc ++ l) := by
  induction l generalizing acc with
  | nil => exact ⟨h, by simpa using Stab.refl acc⟩
  | cons x r ih =>
    obtain ⟨h1, h2⟩ := ih (insK x acc) (insK_sorted h)
    refine ⟨h1, h2.trans fun k => ?_⟩
    rw [keyF_append, insK_keyF h k, ← keyF_append]
    simp
theorem sortK_sorted (l : List It) : SortedK (sortK l) := (foldl_ins l [] (by simp [SortedK])).1
theorem sortK_stab (l : List It) : Stab (sortK l) l := by simpa [sortK] using (foldl_ins l [] (by simp [SortedK])).2
theorem sortK_eq {a l : List It} (h : SortedK a) (hs : Stab a l) : a = sortK l :=
  sorted_uniq h (sortK_sorted l) (hs.trans (sortK_stab l).symm)
theorem sortK_length (l : List It) : (sortK l).length = l.length := (sortK_stab l).length
theorem sortK_of_sorted {l : List It} (h : SortedK l) : sortK l = l := (sortK_eq h (Stab.refl l)).symm

/-- by neighbours -/
theorem sortedK_iff (l : List It) : SortedK l ↔ ∀ i, (h : i + 1 < l.length) → (l[i]).1 ≤ (l[i + 1]).1 := by
  constructor
  · intro h i hi
    exact List.pairwise_iff_getElem.1 h i (i + 1) (by omega) hi (by omega)
  · intro h
    refine List.pairwise_iff_getElem.2 fun i j hi hj hij => ?_
    induction j with
    | zero => omega
    | succ j ih =>
      by_cases e : i = j
      · subst e; exact h i hj
      · exact Int.le_trans (ih (by omega) (by omega)) (h j hj)
theorem sortedK_at {l : List It} (h : SortedK l) {i j : Nat} (hj : j < l.length) (hij : i ≤ j) : (l[i]'(by omega)).1 ≤ (l[j]).1 := by
  by_cases e : i = j
  · subst e; exact Int.le_refl _
  · exact List.pairwise_iff_getElem.1 h i j (by omega) hj (by omega)
end Rk
