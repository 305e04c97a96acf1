/- The plain law of soft heaps: about how many they are wrong, and where they are right. -/
import Derived.Test.YtkkbmbkfjfdleaaDoorSoftQ
namespace Sf
theorem cap_pow {n : Nat} {ts : List T} (h : Cap n ts) (k : Nat) : 2 ^ k * cntF k ts ≤ n := by
  obtain ⟨c, c0, ck⟩ := h
  have : ∀ k, 2 ^ k * c k ≤ n := by
    intro k
    induction k with
    | zero => simpa using c0
    | succ k ih =>
      have := (ck k).2
      refine Nat.le_trans ?_ ih
      rw [Nat.pow_succ, Nat.mul_assoc]
      exact Nat.mul_le_mul_left _ (by omega)
  exact Nat.le_trans (Nat.mul_le_mul_left _ (ck k).1) (this k)
/-- no node is of a higher rank -/
def AllR (m : Nat) : T → Prop
  | .nil => True
  | .node _ rk _ _ l r => rk ≤ m ∧ AllR m l ∧ AllR m r
theorem allR_of {m : Nat} : ∀ {t : T}, (∀ k, m < k → cnt k t = 0) → AllR m t := by
  intro t
  induction t with
  | nil => intro _; trivial
  | node k rk wt its l r hl hr =>
    intro h
    refine ⟨?_, hl fun j hj => ?_, hr fun j hj => ?_⟩
    · refine Nat.le_of_not_lt fun h1 => ?_
      have := h rk h1
      simp [cnt] at this
    · have := h j hj; simp only [cnt] at this; omega
    · have := h j hj; simp only [cnt] at this; omega
theorem cnt_le (k : Nat) : ∀ {ts : List T} {t : T}, t ∈ ts → cnt k t ≤ cntF k ts := by
  intro ts
  induction ts with
  | nil => intro t ht; cases ht
  | cons u r ih =>
    intro t ht
    rcases List.mem_cons.1 ht with rfl | ht
    · simp only [cntF]; omega
    · have := ih ht; simp only [cntF]; omega
theorem St.ranks {R n m : Nat} {ts : List T} (h : St R n ts) (hn : n < 2 ^ (m + 1)) : ∀ t ∈ ts, AllR m t := fun t ht => allR_of fun k hk => by
  have h1 := cap_pow h.cap k
  have h2 := cnt_le k ht
  have h3 : 2 ^ (m + 1) ≤ 2 ^ k := Nat.pow_le_pow_right (by omega) (by omega)
  rcases Nat.eq_zero_or_pos (cnt k t) with h4 | h4
  · exact h4
  · have : 2 ^ k * 1 ≤ 2 ^ k * cntF k ts := Nat.mul_le_mul_left _ (by omega)
    omega
def sumTo (f : Nat → Nat) : Nat → Nat
  | 0 => 0
  | k + 1 => sumTo f k + f k
theorem sumTo_add (f g : Nat → Nat) (m : Nat) : sumTo (fun k => f k + g k) m = sumTo f m + sumTo g m := by
  induction m with
  | zero => rfl
  | succ m ih => simp only [sumTo, ih]; omega
theorem sumTo_one (a : Nat → Nat) (rk m : Nat) : sumTo (fun k => a k * (if rk = k then 1 else 0)) m = if rk < m then a rk else 0 := by
  induction m with
  | zero => rfl
  | succ m ih =>
    simp only [sumTo, ih]
    by_cases h : rk = m
    · subst h; simp
    · rw [if_neg h]
      by_cases h1 : rk < m
      · rw [if_pos h1, if_pos (by omega)]; simp
      · rw [if_neg h1, if_neg (by omega)]; simp
/-- how many items a node of a rank may be wrong about -/
def gW (R k : Nat) : Nat := if k ≤ R then 0 else 3 * sF R k
theorem wrong_le {R m : Nat} : ∀ {t : T}, Sz R t → AllR m t → t.wrong ≤ sumTo (fun k => gW R k * cnt k t) (m + 1) := by
  intro t
  induction t with
  | nil => intro _ _; exact Nat.zero_le _
  | node k rk wt its l r hl hr =>
    intro hs ha
    obtain ⟨s1, s2, s3, s4, s5⟩ := hs
    obtain ⟨a1, a2, a3⟩ := ha
    have i1 := hl s4 a2
    have i2 := hr s5 a3
    have e : (fun j => gW R j * cnt j (T.node k rk wt its l r)) = fun j => gW R j * (if rk = j then 1 else 0) + (gW R j * cnt j l + gW R j * cnt j r) := by
      funext j; simp only [cnt, Nat.mul_add]
    rw [e, sumTo_add, sumTo_add, sumTo_one, if_pos (by omega)]
    have : (its.filter fun x => decide (x.1 ≠ k)).length ≤ gW R rk := by
      unfold gW
      by_cases h : rk ≤ R
      · rw [if_pos h]
        have : (its.filter fun x => decide (x.1 ≠ k)) = [] := List.filter_eq_nil_iff.2 fun x hx => by simp [(s2 h).2 x hx]
        rw [this]; exact Nat.le_refl _
      · rw [if_neg h]; exact Nat.le_trans (List.length_filter_le _ _) s3
    simp only [T.wrong]
    omega
theorem wrongF_le {R m : Nat} : ∀ {ts : List T}, (∀ t ∈ ts, Sz R t ∧ AllR m t) → wrongF ts ≤ sumTo (fun k => gW R k * cntF k ts) (m + 1) := by
  intro ts
  induction ts with
  | nil => intro _; exact Nat.zero_le _
  | cons t r ih =>
    intro h
    have i1 := ih fun u hu => h u (by simp [hu])
    have i2 := wrong_le (h t (by simp)).1 (h t (by simp)).2
    have e : (fun j => gW R j * cntF j (t :: r)) = fun j => gW R j * cnt j t + gW R j * cntF j r := by
      funext j; simp only [cntF, Nat.mul_add]
    rw [e, sumTo_add]
    simp only [wrongF]
    omega
/-- OF A HEAP OF RANK 5 AND n MORE NEVER WRONG ABOUT MORE THAN ONE IN 2 TO n -/
theorem few {R n : Nat} {ts : List T} (h : St R n ts) (hn : n ≤ 400) (h5 : 5 ≤ R) (h8 : R ≤ 8) : wrongF ts * 2 ^ (R - 5) ≤ n := by
  have hr := h.ranks (m := 8) (by omega)
  have hw := wrongF_le (R := R) (m := 8) fun t ht => ⟨(h.good t ht).2.2, hr t ht⟩
  have p6 := cap_pow h.cap 6
  have p7 := cap_pow h.cap 7
  have p8 := cap_pow h.cap 8
  have hR : R = 5 ∨ R = 6 ∨ R = 7 ∨ R = 8 := by omega
  rcases hR with rfl | rfl | rfl | rfl
  all_goals
    simp [sumTo, gW, sF] at hw
    omega
theorem wrong_le_all : ∀ (t : T), t.wrong ≤ t.all.length := by
  intro t
  induction t with
  | nil => exact Nat.le_refl _
  | node k rk wt its l r hl hr =>
    simp only [T.wrong, T.all, List.length_append]
    have := List.length_filter_le (fun x : It => decide (x.1 ≠ k)) its
    omega
theorem wrongF_le_all : ∀ (ts : List T), wrongF ts ≤ (allF ts).length := by
  intro ts
  induction ts with
  | nil => exact Nat.le_refl _
  | cons t r ih =>
    have := wrong_le_all t
    have e : allF (t :: r) = t.all ++ allF r := rfl
    rw [e, List.length_append]
    simp only [wrongF]
    omega
/-- a tree of no more than the heap's rank -/
theorem right_tree {R : Nat} : ∀ {t : T}, Ok t → Sz R t → AllR R t → t.wrong = 0 ∧ ∀ x ∈ t.all, t.key ≤ x.1 := by
  intro t
  induction t with
  | nil => intro _ _ _; exact ⟨rfl, fun x hx => by cases hx⟩
  | node k rk wt its l r hl hr =>
    intro ho hs ha
    obtain ⟨o1, o2, o3, o4, o5, o6, o7⟩ := ho
    obtain ⟨s1, s2, s3, s4, s5⟩ := hs
    obtain ⟨a1, a2, a3⟩ := ha
    obtain ⟨l1, l2⟩ := hl o6 s4 a2
    obtain ⟨r1, r2⟩ := hr o7 s5 a3
    have hk := (s2 a1).2
    refine ⟨?_, fun x hx => ?_⟩
    · have : (its.filter fun x => decide (x.1 ≠ k)) = [] := List.filter_eq_nil_iff.2 fun x hx => by simp [hk x hx]
      simp only [T.wrong, this, l1, r1]; rfl
    · simp only [T.all] at hx
      show k ≤ x.1
      rcases List.mem_append.1 hx with hx | hx
      · rw [hk x hx]; exact Int.le_refl _
      · rcases List.mem_append.1 hx with hx | hx
        · rcases o4 with rfl | o4
          · cases hx
          · exact Int.le_trans o4.1 (l2 x hx)
        · rcases o5 with rfl | o5
          · cases hx
          · exact Int.le_trans o5.1 (r2 x hx)
theorem right_head {R : Nat} {t : T} {x : It} (hg : Good R t) (ha : AllR R t) (hx : t.items.head? = some x) : x.1 = t.key := by
  cases t with
  | nil => exact absurd rfl hg.2.1
  | node k rk wt its l r => exact (hg.2.2.2.1 ha.1).2 x (List.mem_of_mem_head? hx)
theorem leastT_lt (f : Nat → T) (n : Nat) : ∀ i, i ≤ n → 0 < n → leastT f i < n := by
  intro i
  induction i with
  | zero => intro _ h; exact h
  | succ i ih =>
    intro h h0
    simp only [leastT]
    split
    · omega
    · exact ih (by omega) h0
theorem leastT_min (f : Nat → T) : ∀ i j, j < i → (f (leastT f i)).key ≤ (f j).key := by
  intro i
  induction i with
  | zero => intro j h; omega
  | succ i ih =>
    intro j h
    simp only [leastT]
    split
    · rename_i hlt
      rcases Nat.lt_succ_iff_lt_or_eq.1 h with h | rfl
      · have := ih j h; omega
      · exact Int.le_refl _
    · rename_i hlt
      rcases Nat.lt_succ_iff_lt_or_eq.1 h with h | rfl
      · exact ih j h
      · omega
/-- AS LONG AS FEW WERE PUSHED: of none it is wrong, and the least key is the least of all -/
theorem right {R n : Nat} {ts : List T} (h : St R n ts) (hn : n < 2 ^ (R + 1)) : wrongF ts = 0 := by
  have hr := h.ranks (m := R) hn
  have : ∀ (us : List T), (∀ u ∈ us, u ∈ ts) → wrongF us = 0 := by
    intro us
    induction us with
    | nil => intro _; rfl
    | cons u us ih =>
      intro hu
      have hg := h.good u (hu u (by simp))
      have := (right_tree hg.1 hg.2.2 (hr u (hu u (by simp)))).1
      have := ih fun v hv => hu v (by simp [hv])
      simp only [wrongF]; omega
  exact this ts fun u hu => hu
theorem right_least {R n : Nat} {ts : List T} (h : St R n ts) (hn : n < 2 ^ (R + 1)) (f : Nat → T) (hf : ∀ i (hi : i < ts.length), f i = ts[i]) : ∀ x ∈ allF ts, (f (leastT f ts.length)).key ≤ x.1 := by
  intro x hx
  obtain ⟨t, ht, hxt⟩ := List.mem_flatMap.1 hx
  obtain ⟨i, hi, rfl⟩ := List.getElem_of_mem ht
  have hg := h.good _ ht
  have := (right_tree hg.1 hg.2.2 (h.ranks (m := R) hn _ ht)).2 x hxt
  have h1 := leastT_min f ts.length i hi
  rw [hf i hi] at h1
  omega
end Sf
