/- Plain law: a heap of trees popped: the tree with the least root falls into trees. No program in sight. -/
import Derived.Test.YtagochiomonmhaaDoorBinE
namespace Rk.Bn
open Rk
theorem asc_of : ∀ {h : List BT} {last : Int}, shapeE last h = 0 → itemsE h = 0 → h.all holT = true → Asc 5 (last + 1) h := by
  intro h
  induction h with
  | nil => intro _ _ _ _; trivial
  | cons t h ih =>
    intro last hs hi hh
    have ha := shape_all hs t List.mem_cons_self
    simp only [shapeE] at hs
    split at hs
    · cases hs
    · split at hs
      · cases hs
      · rename_i h1 h2
        simp only [itemsE] at hi
        split at hi
        · rename_i h3; exact absurd hi h3
        · rename_i h3
          rw [List.all_cons, Bool.and_eq_true] at hh
          refine ⟨by omega, by omega, ⟨ha.1, ha.2.2, hh.1, ?_⟩, ih hs hi hh.2⟩
          have h4 : itemsErr t.2.length (lf t.2) = 0 := Classical.byContradiction h3
          unfold itemsErr at h4
          split at h4
          · cases h4
          · split at h4
            · rename_i h5
              rw [segL_lf, List.all_eq_true] at h5
              exact h5
            · cases h4
theorem HG.of {h : List BT} (hb : binoE h = 0) : HG h := by
  unfold binoE at hb
  split at hb
  · rename_i h1; exact absurd hb h1
  · rename_i h1
    split at hb
    · rename_i h2; exact absurd hb h2
    · rename_i h2
      split at hb
      · cases hb
      · rename_i h3
        split at hb
        · rename_i h4
          exact ⟨(asc_of (Classical.byContradiction h1) (Classical.byContradiction h2) h4).weaken (by omega), by omega⟩
        · cases hb
/-- a tree without its root -/
def partsB : Nat → List It → List BT
  | 0, _ => []
  | k + 1, l => partsB k (l.take 1 ++ l.drop (1 + 2 ^ k)) ++ [((k : Int), (l.drop 1).take (2 ^ k))]
theorem asc_snoc {M r : Int} {h : List BT} {t : BT} (ha : Asc M r h) (hl : ∀ u ∈ h, u.1 < t.1) (ht : GT t) (h1 : r ≤ t.1) (h2 : t.1 ≤ M) : Asc M r (h ++ [t]) := by
  induction h generalizing r with
  | nil => exact ⟨h1, h2, ht, trivial⟩
  | cons u h ih =>
    exact ⟨ha.1, ha.2.1, ha.2.2.1, ih ha.2.2.2 (fun v hv => hl v (List.mem_cons_of_mem _ hv)) (by have := hl u List.mem_cons_self; omega)⟩
theorem parts_ok : ∀ (k : Nat) (l : List It), k ≤ 6 → l.length = 2 ^ k → holB k l = true → (∀ x ∈ l, okIt x = true) → Asc 5 0 (partsB k l) ∧ (∀ u ∈ partsB k l, u.1 < k) ∧ (itemsB (partsB k l)).Perm (l.drop 1) := by
  intro k
  induction k with
  | zero =>
    intro l _ hl _ _
    refine ⟨trivial, fun u hu => (by cases hu), ?_⟩
    rw [List.drop_eq_nil_of_le (by rw [hl]; exact Nat.le_refl _)]
    exact List.Perm.refl _
  | succ k ih =>
    intro l hk hl hh hok
    obtain ⟨x, p, q, rfl, hp, hq⟩ := cut hl
    rw [hol_cons k x p q hp] at hh
    simp only [Bool.and_eq_true, decide_eq_true_eq] at hh
    have e1 : (x :: (p ++ q)).take 1 ++ (x :: (p ++ q)).drop (1 + 2 ^ k) = x :: q := by
      rw [Nat.add_comm, List.drop_succ_cons, ← hp]; simp
    have e2 : ((x :: (p ++ q)).drop 1).take (2 ^ k) = p := by rw [List.drop_succ_cons, List.drop_zero, ← hp]; simp
    obtain ⟨h1, h2, h3⟩ := ih (x :: q) (by omega) hq hh.2 (fun y hy => hok y (by
      rcases List.mem_cons.1 hy with rfl | hy
      · exact List.mem_cons_self
      · exact List.mem_cons_of_mem _ (List.mem_append.2 (.inr hy))))
    simp only [partsB, e1, e2]
    refine ⟨asc_snoc h1 h2 ⟨by omega, by simpa using hp, by simpa using hh.1.2, fun y hy => hok y (List.mem_cons_of_mem _ (List.mem_append.2 (.inl hy)))⟩ (by omega) (by show (k : Int) ≤ 5; omega), fun u hu => ?_, ?_⟩
    · rcases List.mem_append.1 hu with hu | hu
      · have := h2 u hu; omega
      · simp at hu; subst hu; show (k : Int) < ((k + 1 : Nat) : Int); omega
    · rw [itemsB_app]
      have e3 : itemsB [((k : Int), p)] = p := by simp [itemsB]
      rw [e3]
      exact ((List.Perm.append_right p h3).trans List.perm_append_comm)
/-- where the least root is -/
def leastB (h : List BT) : Nat → Nat
  | 0 => 0
  | n + 1 => if k0 (lf h n).2 < k0 (lf h (leastB h n)).2 then n else leastB h n
theorem leastB_lt (h : List BT) : ∀ n, 0 < h.length → n ≤ h.length → leastB h n < h.length := by
  intro n h0
  induction n with
  | zero => intro _; exact h0
  | succ n ih =>
    intro hn
    simp only [leastB]
    split
    · omega
    · exact ih (by omega)
theorem leastB_min (h : List BT) : ∀ n i, i < n → k0 (lf h (leastB h n)).2 ≤ k0 (lf h i).2 := by
  intro n
  induction n with
  | zero => intro i hi; omega
  | succ n ih =>
    intro i hi
    simp only [leastB]
    split
    · rename_i hlt
      rcases Nat.lt_succ_iff_lt_or_eq.1 hi with h1 | rfl
      · have := ih i h1; omega
      · exact Int.le_refl _
    · rename_i hlt
      rcases Nat.lt_succ_iff_lt_or_eq.1 hi with h1 | rfl
      · exact ih i h1
      · omega
theorem asc_drop {M : Int} : ∀ {h : List BT} {r : Int} (i : Nat), Asc M r h → i < h.length → Asc M ((lf h i).1 + 1) (h.drop (i + 1)) := by
  intro h
  induction h with
  | nil => intro r i _ hi; simp at hi
  | cons t h ih =>
    intro r i ha hi
    cases i with
    | zero => exact ha.2.2.2
    | succ i => exact ih i ha.2.2.2 (by simp at hi; omega)
theorem asc_erase {M : Int} : ∀ {h : List BT} {r : Int} (i : Nat), Asc M r h → Asc M r (h.take i ++ h.drop (i + 1)) := by
  intro h
  induction h with
  | nil => intro r i _; simp; trivial
  | cons t h ih =>
    intro r i ha
    cases i with
    | zero => exact ha.2.2.2.weaken (by have := ha.1; omega)
    | succ i => exact ⟨ha.1, ha.2.1, ha.2.2.1, ih i ha.2.2.2⟩
theorem items_erase : ∀ (h : List BT) (i : Nat), i < h.length → (itemsB h).Perm ((lf h i).2 ++ itemsB (h.take i ++ h.drop (i + 1))) := by
  intro h
  induction h with
  | nil => intro i hi; simp at hi
  | cons t h ih =>
    intro i hi
    cases i with
    | zero => exact List.Perm.refl _
    | succ i =>
      have h1 := ih i (by simp at hi; omega)
      rw [itemsB_cons]
      show (t.2 ++ itemsB h).Perm ((lf h i).2 ++ itemsB (t :: (h.take i ++ h.drop (i + 1))))
      rw [itemsB_cons]
      refine (List.Perm.append_left _ h1).trans ?_
      rw [← List.append_assoc, ← List.append_assoc]
      exact List.Perm.append_right _ List.perm_append_comm
def atB (h : List BT) : Nat := leastB h h.length
def topB (h : List BT) : It := lf (lf h (atB h)).2 0
def restB (h : List BT) : List BT := h.take (atB h) ++ h.drop (atB h + 1)
def popB (h : List BT) : List BT := meldB 8 0 (restB h) (partsB (lf h (atB h)).1.toNat (lf h (atB h)).2) []
theorem HG.at_ {h : List BT} (hg : HG h) (hne : h ≠ []) : atB h < h.length ∧ GT (lf h (atB h)) ∧ (lf h (atB h)).1 ≤ 5 := by
  have h0 := leastB_lt h h.length (List.length_pos_iff.2 hne) (Nat.le_refl _)
  have h1 := hg.asc.all (lf h (atB h)) (by unfold atB; rw [lf_get h0]; exact List.getElem_mem _)
  exact ⟨h0, h1.1, h1.2.2⟩
theorem HG.parts {h : List BT} (hg : HG h) (hne : h ≠ []) : Asc 5 0 (partsB (lf h (atB h)).1.toNat (lf h (atB h)).2) ∧ (topB h :: itemsB (partsB (lf h (atB h)).1.toNat (lf h (atB h)).2)).Perm (lf h (atB h)).2 := by
  obtain ⟨_, h1, h2⟩ := hg.at_ hne
  obtain ⟨p1, _, p3⟩ := parts_ok (lf h (atB h)).1.toNat (lf h (atB h)).2 (by omega) h1.len h1.hol h1.ok
  refine ⟨p1, ?_⟩
  unfold topB
  have h3 := h1.ne
  generalize (lf h (atB h)).2 = l at p3 h3
  cases l with
  | nil => simp at h3
  | cons x t => exact List.Perm.cons _ p3
theorem HG.pop {h : List BT} (hg : HG h) (hne : h ≠ []) : HG (popB h) ∧ (topB h :: itemsB (popB h)).Perm (itemsB h) ∧ ∀ y ∈ itemsB h, (topB h).1 ≤ y.1 := by
  obtain ⟨h0, h1, h2⟩ := hg.at_ hne
  obtain ⟨p1, p2⟩ := hg.parts hne
  have hr := asc_erase (atB h) hg.asc
  have hi := items_erase h (atB h) h0
  obtain ⟨m1, m2⟩ := meldB_ok 8 0 (restB h) (partsB (lf h (atB h)).1.toNat (lf h (atB h)).2) [] (by omega) (by omega) hr p1 (.inl rfl)
  have m3 : (itemsB (popB h)).Perm (itemsB (restB h) ++ itemsB (partsB (lf h (atB h)).1.toNat (lf h (atB h)).2)) := by simpa [itemsB, popB] using m2
  have hp : (topB h :: itemsB (popB h)).Perm (itemsB h) := by
    refine (List.Perm.cons _ m3).trans (List.Perm.trans ?_ hi.symm)
    refine List.perm_middle.symm.trans ?_
    exact (List.Perm.append_left _ p2).trans List.perm_append_comm
  have hl := hp.length_eq
  have hle : sizeB (popB h) ≤ 60 := by
    have := hg.le
    unfold sizeB at *
    rw [List.length_cons] at hl
    omega
  refine ⟨⟨m1.lower fun t ht => Nat.le_trans (two_le ht) hle, hle⟩, hp, fun y hy => ?_⟩
  obtain ⟨t, ht, hyt⟩ := List.mem_flatMap.1 hy
  obtain ⟨i, hi', rfl⟩ := List.getElem_of_mem ht
  have h3 := leastB_min h h.length i hi'
  rw [lf_get hi'] at h3
  have h4 := (hg.asc.all h[i] ht).1
  have h5 := hol_least _ _ h4.len h4.hol y hyt
  exact Int.le_trans h3 h5
/-- a heap has the digits of its size -/
theorem size_asc : ∀ {h : List BT} {r : Nat}, Asc 5 r h → ∃ q, sizeB h = q * 2 ^ r := by
  intro h
  induction h with
  | nil => intro r _; exact ⟨0, by simp [sizeB, itemsB]⟩
  | cons t h ih =>
    intro r ha
    obtain ⟨k, hk⟩ : ∃ k : Nat, t.1 = k := ⟨t.1.toNat, by have := ha.2.2.1.ge; omega⟩
    have h1 := ha.1
    have h2 := ha.2.2.2
    rw [hk, show (k : Int) + 1 = ((k + 1 : Nat) : Int) from by omega] at h2
    obtain ⟨q, hq⟩ := ih h2
    have h3 := ha.2.2.1.len
    rw [hk, Int.toNat_natCast] at h3
    obtain ⟨d, rfl⟩ : ∃ d, k = r + d := ⟨k - r, by omega⟩
    rw [sizeB_cons, hq, h3]
    refine ⟨2 ^ d + q * (2 ^ d * 2), ?_⟩
    rw [Nat.pow_succ, Nat.pow_add, Nat.add_mul, Nat.mul_comm (2 ^ d) (2 ^ r)]
    congr 1
    simp only [Nat.mul_assoc, Nat.mul_comm, Nat.mul_left_comm]
theorem digit_yes {r : Nat} {t : BT} {h : List BT} (ha : Asc 5 r (t :: h)) (he : t.1 = r) : ∃ q, sizeB (t :: h) = 2 ^ r * (2 * q + 1) := by
  have h2 := ha.2.2.2
  rw [he, show (r : Int) + 1 = ((r + 1 : Nat) : Int) from by omega] at h2
  obtain ⟨q, hq⟩ := size_asc h2
  have h3 := ha.2.2.1.len
  rw [he, Int.toNat_natCast] at h3
  refine ⟨q, ?_⟩
  rw [sizeB_cons, hq, h3, Nat.pow_succ, Nat.mul_add, Nat.mul_one, Nat.add_comm]
  congr 1
  simp only [Nat.mul_assoc, Nat.mul_comm, Nat.mul_left_comm]
theorem digit_no {r : Nat} {h : List BT} (ha : Asc 5 ((r + 1 : Nat) : Int) h) : ∃ q, sizeB h = 2 ^ r * (2 * q) := by
  obtain ⟨q, hq⟩ := size_asc ha
  refine ⟨q, ?_⟩
  rw [hq, Nat.pow_succ]
  simp only [Nat.mul_assoc, Nat.mul_comm, Nat.mul_left_comm]
theorem asc_next {M : Int} {r : Int} {h : List BT} (ha : Asc M r h) (hn : ∀ t h', h = t :: h' → t.1 ≠ r) : Asc M (r + 1) h := by
  cases h with
  | nil => trivial
  | cons t h => exact ⟨by have := ha.1; have := hn t h rfl; omega, ha.2⟩
theorem digit_step {r : Nat} {h : List BT} (ha : Asc 5 r h) {n : Nat} (hs : sizeB h = n * 2 ^ r) :
    (∃ t h', h = t :: h' ∧ t.1 = r ∧ t.2.length = 2 ^ r ∧ n % 2 = 1 ∧ Asc 5 ((r + 1 : Nat) : Int) h' ∧ sizeB h' = n / 2 * 2 ^ (r + 1)) ∨ (n % 2 = 0 ∧ Asc 5 ((r + 1 : Nat) : Int) h ∧ sizeB h = n / 2 * 2 ^ (r + 1)) := by
  have hp := pow_pos r
  have hcast : ((r + 1 : Nat) : Int) = (r : Int) + 1 := by omega
  by_cases hh : ∃ t h', h = t :: h' ∧ t.1 = r
  · obtain ⟨t, h', rfl, he⟩ := hh
    left
    have h2 := ha.2.2.2
    rw [he, ← hcast] at h2
    have h3 := ha.2.2.1.len
    rw [he, Int.toNat_natCast] at h3
    obtain ⟨q, hq⟩ := size_asc h2
    rw [sizeB_cons, h3, hq, Nat.pow_succ] at hs
    have hn : n = 2 * q + 1 := by
      refine Nat.eq_of_mul_eq_mul_right hp ?_
      rw [← hs, Nat.add_mul, Nat.one_mul, Nat.add_comm]
      congr 1
      simp only [Nat.mul_assoc, Nat.mul_comm, Nat.mul_left_comm]
    exact ⟨t, h', rfl, he, h3, by omega, h2, by rw [hq, hn]; congr 1; omega⟩
  · right
    have h2 : Asc 5 ((r + 1 : Nat) : Int) h := by rw [hcast]; exact asc_next ha fun t h' e e2 => hh ⟨t, h', e, e2⟩
    obtain ⟨q, hq⟩ := size_asc h2
    have hn : n = 2 * q := by
      refine Nat.eq_of_mul_eq_mul_right hp ?_
      rw [← hs, hq, Nat.pow_succ]
      simp only [Nat.mul_assoc, Nat.mul_comm, Nat.mul_left_comm]
    exact ⟨by omega, h2, by rw [hq, hn]; congr 1; omega⟩
end Rk.Bn
