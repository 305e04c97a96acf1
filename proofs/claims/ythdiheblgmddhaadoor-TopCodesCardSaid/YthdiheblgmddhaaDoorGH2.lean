/- Plain law: heaps in a list of things that have a key: what a push and a pop leave. No program in sight. -/
import Derived.Test.YthdiheblgmddhaaDoorGH
import Derived.Test.YthdiheblgmddhaaDoorOwn
namespace Rk.G
section
variable {α : Type}
theorem swapF_def (f : Nat → α) (i c : Nat) (hne : i ≠ c) : (fun j => if j = c then f i else (fun j => if j = i then f c else f j) j) = swapF f i c := by
  funext j
  simp only [swapF]
  by_cases h1 : j = c
  · subst h1; simp [Ne.symm hne]
  · simp [h1]
theorem segL_seg (f : Nat → α) (n : Nat) : segL f n = seg f 0 n := by simp [segL, seg, List.range_eq_range']
theorem segL_cons (f : Nat → α) (m : Nat) : segL f (m + 1) = f 0 :: segL (fun i => f (i + 1)) m := by
  simp [segL, List.range_succ_eq_map, Function.comp_def]
def put (f : Nat → α) (n : Nat) (x : α) : Nat → α := fun i => if i = n then x else f i
theorem segL_put (f : Nat → α) (n : Nat) (x : α) : segL f n ++ [x] = segL (put f n x) (n + 1) := by
  rw [segL_succ]
  have e1 : segL (put f n x) n = segL f n := segL_congr fun i hi => if_neg (by omega)
  rw [e1]; simp [put]
variable [Key α]
theorem HeapF.congr {f g : Nat → α} {n : Nat} (h : HeapF f n) (e : ∀ i, i < n → g i = f i) : HeapF g n := fun i h0 hi => by rw [e i hi, e _ (by omega)]; exact h i h0 hi
def pushG (f : Nat → α) (n : Nat) (x : α) : Nat → α := riseF (n + 1) n (put f n x)
theorem push_heap {f : Nat → α} {n : Nat} {x : α} (h : HeapF f n) : HeapF (pushG f n x) (n + 1) := by
  refine riseF_heap (n + 1) (n + 1) n (put f n x) (by omega) (by omega) (fun i h0 hi hne => ?_) (fun i h0 hi he hp => by omega)
  have e1 : put f n x i = f i := if_neg hne
  have e2 : put f n x ((i - 1) / 2) = f ((i - 1) / 2) := if_neg (by omega)
  rw [e1, e2]
  exact h i h0 (by omega)
theorem push_perm (f : Nat → α) (n : Nat) (x : α) : (segL (pushG f n x) (n + 1)).Perm (x :: segL f n) := by
  rw [segL_seg]
  refine (riseF_perm (n + 1) (n + 1) n (put f n x) (by omega)).trans ?_
  rw [← segL_seg, ← segL_put]
  exact List.perm_append_comm
def popG (f : Nat → α) (n : Nat) : Nat → α := sinkF (n - 1) (n - 1) 0 (fun j => if j = 0 then f (n - 1) else f j)
theorem pop_heap {f : Nat → α} {n : Nat} (h : HeapF f n) : HeapF (popG f n) (n - 1) := by
  rcases Nat.eq_zero_or_pos (n - 1) with e | hp
  · intro i _ hi; omega
  · refine heapF_of_from (sinkF_heap (n - 1) 0 (n - 1) 0 _ (by omega) (Nat.le_refl _) hp (fun i h0 hi _ hne => ?_) (fun i _ _ _ h00 => by omega))
    rw [if_neg (by omega : ¬ i = 0), if_neg hne]
    exact h i h0 (by omega)
theorem pop_perm (f : Nat → α) {n : Nat} (hn : 0 < n) : (segL f n).Perm (f 0 :: segL (popG f n) (n - 1)) := by
  rcases Nat.eq_zero_or_pos (n - 1) with e | hp
  · obtain rfl : n = 1 := by omega
    simp [segL]
  · have h1 : (segL (popG f n) (n - 1)).Perm (segL (fun j => if j = 0 then f (n - 1) else f j) (n - 1)) := by
      rw [segL_seg, segL_seg]; exact sinkF_perm _ _ _ _ hp
    refine List.Perm.trans ?_ (List.Perm.cons _ h1.symm)
    obtain ⟨m, rfl⟩ : ∃ m, n = m + 2 := ⟨n - 2, by omega⟩
    have e1 : segL f (m + 2) = f 0 :: (segL (fun i => f (i + 1)) m ++ [f (m + 1)]) := by rw [segL_cons, segL_succ]
    have e2 : segL (fun j => if j = 0 then f (m + 2 - 1) else f j) (m + 2 - 1) = f (m + 1) :: segL (fun i => f (i + 1)) m := by
      rw [show m + 2 - 1 = m + 1 from by omega, segL_cons]; rfl
    rw [e1, e2]
    exact List.Perm.cons _ List.perm_append_comm
theorem pop_least {f : Nat → α} {n : Nat} (h : HeapF f n) (hn : 0 < n) : ∀ y ∈ segL (popG f n) (n - 1), Key.key (f 0) ≤ Key.key y := by
  intro y hy
  have : y ∈ segL f n := (pop_perm f hn).mem_iff.2 (List.mem_cons_of_mem _ hy)
  simp only [segL, List.mem_map, List.mem_range] at this
  obtain ⟨i, hi, rfl⟩ := this
  exact heap_least h i hi
variable [Inhabited α]
theorem HeapF.list {f : Nat → α} {n : Nat} (h : HeapF f n) : HeapF (lf (segL f n)) (segL f n).length := by
  rw [segL_length]; exact h.congr fun i hi => lf_segL f hi
end
end Rk.G
