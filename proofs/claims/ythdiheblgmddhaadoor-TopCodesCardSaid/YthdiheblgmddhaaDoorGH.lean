/- Plain law: heaps in a list of things that have a key, places counted from 0 on: sinking, raising, what is least. No program in sight. -/
import Derived.Test.YthdiheblgmddhaaDoorEng
namespace Rk.G
/-- what comes first goes by a key -/
class Key (α : Type) where
  key : α → Int
section
variable {α : Type}
def seg (f : Nat → α) (a b : Nat) : List α := (List.range' a (b - a)).map f
theorem seg_split (f : Nat → α) {a m b : Nat} (h1 : a ≤ m) (h2 : m ≤ b) : seg f a b = seg f a m ++ seg f m b := by
  unfold seg
  have e : b - a = (m - a) + (b - m) := by omega
  rw [e, ← List.map_append]
  congr 1
  have := List.range'_append (s := a) (m := m - a) (n := b - m) (step := 1)
  rw [← this]
  congr 2
  omega
theorem seg_congr {f g : Nat → α} {a b : Nat} (h : ∀ i, a ≤ i → i < b → f i = g i) : seg f a b = seg g a b := by
  unfold seg
  refine List.map_congr_left fun i hi => ?_
  have := List.mem_range'_1.1 hi
  exact h i (by omega) (by omega)
theorem mem_seg {f : Nat → α} {a b : Nat} {x : α} : x ∈ seg f a b ↔ ∃ i, a ≤ i ∧ i < b ∧ f i = x := by
  unfold seg
  simp only [List.mem_map, List.mem_range'_1]
  constructor
  · rintro ⟨i, hi, e⟩; exact ⟨i, by omega, by omega, e⟩
  · rintro ⟨i, h1, h2, e⟩; exact ⟨i, by omega, e⟩
theorem seg_empty (f : Nat → α) {a b : Nat} (h : b ≤ a) : seg f a b = [] := by
  unfold seg
  rw [show b - a = 0 from by omega]; rfl
theorem seg_one (f : Nat → α) (a : Nat) : seg f a (a + 1) = [f a] := by
  unfold seg
  rw [show a + 1 - a = 1 from by omega]; rfl
theorem seg_length (f : Nat → α) (a b : Nat) : (seg f a b).length = b - a := by simp [seg]

def swapF (f : Nat → α) (i j : Nat) : Nat → α := fun k => if k = i then f j else if k = j then f i else f k
theorem swapF_ne (f : Nat → α) {i j k : Nat} (h1 : k ≠ i) (h2 : k ≠ j) : swapF f i j k = f k := by simp [swapF, h1, h2]
theorem swapF_perm (f : Nat → α) {n i j : Nat} (hi : i < n) (hj : j < n) : (seg (swapF f i j) 0 n).Perm (seg f 0 n) := by
  rcases Nat.lt_trichotomy i j with h | h | h
  · have key : ∀ (i j : Nat), i < j → j < n → (seg (swapF f i j) 0 n).Perm (seg f 0 n) := by
      intro i j h hj
      rw [seg_split _ (Nat.zero_le i) (by omega : i ≤ n), seg_split _ (by omega : i ≤ i + 1) (by omega : i + 1 ≤ n), seg_split _ (by omega : i + 1 ≤ j) (by omega : j ≤ n), seg_split _ (by omega : j ≤ j + 1) (by omega : j + 1 ≤ n)]
      rw [seg_split f (Nat.zero_le i) (by omega : i ≤ n), seg_split f (by omega : i ≤ i + 1) (by omega : i + 1 ≤ n), seg_split f (by omega : i + 1 ≤ j) (by omega : j ≤ n), seg_split f (by omega : j ≤ j + 1) (by omega : j + 1 ≤ n)]
      rw [seg_one, seg_one, seg_one, seg_one]
      have e0 : swapF f i j i = f j := by simp [swapF]
      have e1 : swapF f i j j = f i := by simp [swapF]; intro h; rw [h]
      rw [e0, e1, seg_congr (f := swapF f i j) (g := f) (a := 0) (b := i) fun k _ hk => swapF_ne f (by omega) (by omega),
        seg_congr (f := swapF f i j) (g := f) (a := i + 1) (b := j) fun k hk' hk => swapF_ne f (by omega) (by omega),
        seg_congr (f := swapF f i j) (g := f) (a := j + 1) (b := n) fun k hk' hk => swapF_ne f (by omega) (by omega)]
      refine List.Perm.append_left _ ?_
      have p1 : ([f j] ++ (seg f (i + 1) j ++ ([f i] ++ seg f (j + 1) n))).Perm ([f i] ++ ([f j] ++ (seg f (i + 1) j ++ seg f (j + 1) n))) := by
        simp only [List.singleton_append]
        refine (List.Perm.cons _ List.perm_middle).trans (List.Perm.swap _ _ _)
      refine p1.trans ?_
      simp only [List.singleton_append]
      refine List.Perm.cons _ List.perm_middle.symm
    exact key i j h hj
  · subst h
    rw [seg_congr (f := swapF f i i) (g := f) fun k _ _ => by simp only [swapF]; split <;> simp_all]
  · have key : swapF f i j = swapF f j i := by
      funext k; simp only [swapF]; split <;> split <;> simp_all
    rw [key]
    rw [seg_split _ (Nat.zero_le j) (by omega : j ≤ n), seg_split _ (by omega : j ≤ j + 1) (by omega : j + 1 ≤ n), seg_split _ (by omega : j + 1 ≤ i) (by omega : i ≤ n), seg_split _ (by omega : i ≤ i + 1) (by omega : i + 1 ≤ n)]
    rw [seg_split f (Nat.zero_le j) (by omega : j ≤ n), seg_split f (by omega : j ≤ j + 1) (by omega : j + 1 ≤ n), seg_split f (by omega : j + 1 ≤ i) (by omega : i ≤ n), seg_split f (by omega : i ≤ i + 1) (by omega : i + 1 ≤ n)]
    rw [seg_one, seg_one, seg_one, seg_one]
    have e0 : swapF f j i j = f i := by simp [swapF]
    have e1 : swapF f j i i = f j := by simp [swapF]; intro h; rw [h]
    rw [e0, e1, seg_congr (f := swapF f j i) (g := f) (a := 0) (b := j) fun k _ hk => swapF_ne f (by omega) (by omega),
      seg_congr (f := swapF f j i) (g := f) (a := j + 1) (b := i) fun k hk' hk => swapF_ne f (by omega) (by omega),
      seg_congr (f := swapF f j i) (g := f) (a := i + 1) (b := n) fun k hk' hk => swapF_ne f (by omega) (by omega)]
    refine List.Perm.append_left _ ?_
    have p1 : ([f i] ++ (seg f (j + 1) i ++ ([f j] ++ seg f (i + 1) n))).Perm ([f j] ++ ([f i] ++ (seg f (j + 1) i ++ seg f (i + 1) n))) := by
      simp only [List.singleton_append]
      refine (List.Perm.cons _ List.perm_middle).trans (List.Perm.swap _ _ _)
    refine p1.trans ?_
    simp only [List.singleton_append]
    refine List.Perm.cons _ List.perm_middle.symm

variable [Key α]
/-- a heap: no key below is less than the one above it -/
def HeapF (f : Nat → α) (n : Nat) : Prop := ∀ i, 0 < i → i < n → (Key.key (f ((i - 1) / 2))) ≤ (Key.key (f i))
/-- a heap, but for what stands at place p, or above the places below p -/
def HeapBut (f : Nat → α) (n s p : Nat) : Prop :=
  (∀ i, 0 < i → i < n → s ≤ (i - 1) / 2 → (i - 1) / 2 ≠ p → (Key.key (f ((i - 1) / 2))) ≤ (Key.key (f i)))
/-- from place s on it is a heap -/
def HeapFrom (f : Nat → α) (n s : Nat) : Prop := ∀ i, 0 < i → i < n → s ≤ (i - 1) / 2 → (Key.key (f ((i - 1) / 2))) ≤ (Key.key (f i))

def kid (f : Nat → α) (n i : Nat) : Nat := if 2 * i + 2 < n ∧ (Key.key (f (2 * i + 2))) < (Key.key (f (2 * i + 1))) then 2 * i + 2 else 2 * i + 1
def sinkF (n : Nat) : Nat → Nat → (Nat → α) → (Nat → α)
  | 0, _, f => f
  | k + 1, i, f => if n ≤ 2 * i + 1 then f else if (Key.key (f i)) ≤ (Key.key (f (kid f n i))) then f else sinkF n k (kid f n i) (swapF f i (kid f n i))

theorem kid_lt {f : Nat → α} {n i : Nat} (h : 2 * i + 1 < n) : kid f n i < n := by unfold kid; split <;> omega
theorem kid_gt (f : Nat → α) (n i : Nat) : i < kid f n i := by unfold kid; split <;> omega
theorem kid_up (f : Nat → α) (n i : Nat) : (kid f n i - 1) / 2 = i := by unfold kid; split <;> omega
/-- more rounds than places: no matter how many -/
theorem sinkF_fuel (n : Nat) : ∀ (k m i : Nat) (f : Nat → α), n ≤ i + k → n ≤ i + m → sinkF n k i f = sinkF n m i f := by
  intro k
  induction k with
  | zero =>
    intro m i f h _
    cases m with
    | zero => rfl
    | succ m => simp only [sinkF]; rw [if_pos (by omega)]
  | succ k ih =>
    intro m i f h h'
    cases m with
    | zero => simp only [sinkF]; rw [if_pos (by omega)]
    | succ m =>
      simp only [sinkF]
      have := kid_gt f n i
      rw [ih m (kid f n i) _ (by omega) (by omega)]
theorem sinkF_perm (n : Nat) : ∀ (k i : Nat) (f : Nat → α), i < n → (seg (sinkF n k i f) 0 n).Perm (seg f 0 n) := by
  intro k
  induction k with
  | zero => intro i f _; exact List.Perm.refl _
  | succ k ih =>
    intro i f hi
    simp only [sinkF]
    split
    · exact List.Perm.refl _
    · split
      · exact List.Perm.refl _
      · have := kid_lt (f := f) (n := n) (i := i) (by omega)
        exact (ih _ _ this).trans (swapF_perm f hi this)
/-- what is below s is not touched; nor anything outside the list -/
theorem sinkF_out (n : Nat) : ∀ (k i : Nat) (f : Nat → α) (j : Nat), i < n → (j < i ∨ n ≤ j) → sinkF n k i f j = f j := by
  intro k
  induction k with
  | zero => intro i f j _ _; rfl
  | succ k ih =>
    intro i f j hi h
    simp only [sinkF]
    split
    · rfl
    · split
      · rfl
      · have h1 := kid_gt f n i
        have h2 := kid_lt (f := f) (n := n) (i := i) (by omega)
        rw [ih _ _ _ h2 (by omega)]
        simp only [swapF]
        rw [if_neg (by omega), if_neg (by omega)]

/-- SINKING MENDS: a heap from s on but at p, where what stands below p is not less than what stands above p. -/
theorem sinkF_heap (n s : Nat) : ∀ (k p : Nat) (f : Nat → α), n ≤ p + k → s ≤ p → p < n → HeapBut f n s p →
    (∀ i, 0 < i → i < n → (i - 1) / 2 = p → 0 < p → s ≤ (p - 1) / 2 → (Key.key (f ((p - 1) / 2))) ≤ (Key.key (f i))) → HeapFrom (sinkF n k p f) n s := by
  intro k
  induction k with
  | zero => intro p f h _ hp _ _; omega
  | succ k ih =>
    intro p f h hs hp hb hg
    simp only [sinkF]
    split
    · intro i hi hin his
      by_cases e : (i - 1) / 2 = p
      · omega
      · exact hb i hi hin his e
    · rename_i hnl
      have hk1 := kid_gt f n p
      have hk2 := kid_lt (f := f) (n := n) (i := p) (by omega)
      have hk3 := kid_up f n p
      have hmin : ∀ i, 0 < i → i < n → (i - 1) / 2 = p → (Key.key (f (kid f n p))) ≤ (Key.key (f i)) := by
        intro i hi hin e
        have hi' : i = 2 * p + 1 ∨ i = 2 * p + 2 := by omega
        unfold kid
        split
        · rename_i hc
          rcases hi' with rfl | rfl
          · omega
          · exact Int.le_refl _
        · rename_i hc
          rcases hi' with rfl | rfl
          · exact Int.le_refl _
          · by_cases h2 : (Key.key (f (2 * p + 2))) < (Key.key (f (2 * p + 1)))
            · exact absurd ⟨hin, h2⟩ hc
            · omega
      split
      · rename_i hle
        intro i hi hin his
        by_cases e : (i - 1) / 2 = p
        · have := hmin i hi hin e
          rw [e]; omega
        · exact hb i hi hin his e
      · rename_i hle
        generalize hkid : kid f n p = c at *
        refine ih c (swapF f p c) (by omega) (by omega) hk2 ?_ ?_
        · intro i hi hin his hne
          by_cases e1 : (i - 1) / 2 = p
          · by_cases e2 : i = c
            · rw [e1, e2]; simp only [swapF]; simp; rw [if_neg (by omega)]; omega
            · rw [e1]; simp only [swapF]; simp; rw [if_neg (by omega), if_neg e2]; exact hmin i hi hin e1
          · by_cases e2 : i = p
            · have := hg c (by omega) hk2 hk3 (by omega) (by rw [← e2]; exact his)
              rw [e2] at e1 hne ⊢
              simp only [swapF]; simp
              rw [if_neg (by omega), if_neg (by omega)]
              exact this
            · by_cases e3 : i = c
              · omega
              · simp only [swapF]
                rw [if_neg e1, if_neg hne, if_neg e2, if_neg e3]
                exact hb i hi hin his e1
        · intro i hi hin e hc0 _
          rw [hk3]
          simp only [swapF]; simp
          rw [if_neg (by omega), if_neg (by omega)]
          have := hb i hi hin (by omega) (by omega)
          rw [e] at this
          exact this

/-- made of any list: sunk from the last place that has one below it down to 0 -/
def makeF (n : Nat) : Nat → (Nat → α) → (Nat → α)
  | 0, f => f
  | i + 1, f => makeF n i (sinkF n n i f)
theorem makeF_heap (n : Nat) : ∀ (i : Nat) (f : Nat → α), i ≤ n → HeapFrom f n i → HeapFrom (makeF n i f) n 0 := by
  intro i
  induction i with
  | zero => intro f _ h; exact h
  | succ i ih =>
    intro f hi h
    refine ih _ (by omega) (sinkF_heap n i n i f (by omega) (Nat.le_refl _) (by omega) (fun j hj hjn hs hne => h j hj hjn (by omega)) (fun j _ _ _ _ hs => by omega))
theorem makeF_perm (n : Nat) : ∀ (i : Nat) (f : Nat → α), i ≤ n → (seg (makeF n i f) 0 n).Perm (seg f 0 n) := by
  intro i
  induction i with
  | zero => intro f _; exact List.Perm.refl _
  | succ i ih => intro f hi; exact (ih _ (by omega)).trans (sinkF_perm n n i f (by omega))
theorem heapF_of_from {f : Nat → α} {n : Nat} (h : HeapFrom f n 0) : HeapF f n := fun i hi hn => h i hi hn (Nat.zero_le _)
theorem heapFrom_half (f : Nat → α) (n i : Nat) (h : n ≤ 2 * i + 1) : HeapFrom f n i := fun j hj hn hs => by omega

/-- the first one is least -/
theorem heap_least {f : Nat → α} {n : Nat} (h : HeapF f n) : ∀ i, i < n → (Key.key (f 0)) ≤ (Key.key (f i)) := by
  intro i
  induction i using Nat.strongRecOn with
  | _ i ih =>
    intro hi
    by_cases e : i = 0
    · subst e; exact Int.le_refl _
    · exact Int.le_trans (ih ((i - 1) / 2) (by omega) (by omega)) (h i (by omega) hi)

/-- raised from place i -/
def riseF : Nat → Nat → (Nat → α) → (Nat → α)
  | 0, _, f => f
  | k + 1, i, f => if 0 < i ∧ (Key.key (f i)) < (Key.key (f ((i - 1) / 2))) then riseF k ((i - 1) / 2) (swapF f i ((i - 1) / 2)) else f
theorem riseF_perm (n : Nat) : ∀ (k i : Nat) (f : Nat → α), i < n → (seg (riseF k i f) 0 n).Perm (seg f 0 n) := by
  intro k
  induction k with
  | zero => intro i f _; exact List.Perm.refl _
  | succ k ih =>
    intro i f hi
    simp only [riseF]
    split
    · exact (ih _ _ (by omega)).trans (swapF_perm f hi (by omega))
    · exact List.Perm.refl _
theorem riseF_out (n : Nat) : ∀ (k i : Nat) (f : Nat → α) (j : Nat), i < n → n ≤ j → riseF k i f j = f j := by
  intro k
  induction k with
  | zero => intro i f j _ _; rfl
  | succ k ih =>
    intro i f j hi h
    simp only [riseF]
    split
    · rw [ih _ _ _ (by omega) h]
      simp only [swapF]
      rw [if_neg (by omega), if_neg (by omega)]
    · rfl
/-- RAISING MENDS -/
theorem riseF_heap (n : Nat) : ∀ (k p : Nat) (f : Nat → α), p < k → p < n → (∀ i, 0 < i → i < n → i ≠ p → (Key.key (f ((i - 1) / 2))) ≤ (Key.key (f i))) →
    (∀ i, 0 < i → i < n → (i - 1) / 2 = p → 0 < p → (Key.key (f ((p - 1) / 2))) ≤ (Key.key (f i))) → HeapF (riseF k p f) n := by
  intro k
  induction k with
  | zero => intro p f h; omega
  | succ k ih =>
    intro p f hk hp hb hg
    simp only [riseF]
    split
    · rename_i hc
      generalize hq : (p - 1) / 2 = q at *
      have hqp : q < p := by omega
      refine ih q (swapF f p q) (by omega) (by omega) ?_ ?_
      · intro i hi hin hne
        by_cases e1 : i = p
        · rw [e1, hq]; simp only [swapF]; simp; rw [if_neg (by omega)]; omega
        · by_cases e2 : (i - 1) / 2 = p
          · rw [e2]; simp only [swapF]; simp; rw [if_neg e1, if_neg hne]; exact hg i hi hin e2 hc.1
          · by_cases e3 : (i - 1) / 2 = q
            · rw [e3]; simp only [swapF]; simp; rw [if_neg (by omega), if_neg e1, if_neg hne]
              have := hb i hi hin e1
              rw [e3] at this
              omega
            · simp only [swapF]; rw [if_neg e2, if_neg e3, if_neg e1, if_neg hne]; exact hb i hi hin e1
      · intro i hi hin e hq0
        have hqq : (Key.key (f ((q - 1) / 2))) ≤ (Key.key (f q)) := hb q hq0 (by omega) (by omega)
        have hgo : swapF f p q ((q - 1) / 2) = f ((q - 1) / 2) := by
          simp only [swapF]; rw [if_neg (by omega), if_neg (by omega)]
        rw [hgo]
        by_cases e1 : i = p
        · rw [e1]; simp only [swapF]; simp; exact hqq
        · simp only [swapF]; rw [if_neg e1, if_neg (by omega)]
          have := hb i hi hin e1
          rw [e] at this
          omega
    · rename_i hc
      intro i hi hin
      by_cases e : i = p
      · rw [e]
        by_cases h0 : (Key.key (f p)) < (Key.key (f ((p - 1) / 2)))
        · exact absurd ⟨by omega, h0⟩ hc
        · omega
      · exact hb i hi hin e
end
end Rk.G
