/- Plain law: sorted block by block. -/
import Derived.Test.YtkgdfkgkkjcahaaSymS
namespace Rk
def Blk (f : Nat → It) (bs n : Nat) : Prop := ∀ t, SortedSeg f (t * bs) (min (t * bs + bs) n)
def Mid (f : Nat → It) (bs n a : Nat) : Prop := ∃ T, a = T * (2 * bs) ∧ (∀ t, t < T → SortedSeg f (t * (2 * bs)) (t * (2 * bs) + 2 * bs)) ∧ ∀ t, 2 * T ≤ t → SortedSeg f (t * bs) (min (t * bs + bs) n)
theorem mid_start {f : Nat → It} {bs n : Nat} (h : Blk f bs n) : Mid f bs n 0 := ⟨0, by simp, fun t ht => by omega, fun t _ => h t⟩
theorem two_mul' (T bs : Nat) : T * (2 * bs) = 2 * T * bs := by rw [Nat.mul_comm 2 T, Nat.mul_assoc]
theorem succ_le {t T : Nat} (bs : Nat) (h : t < T) : t * bs + bs ≤ T * bs := by
  have := Nat.mul_le_mul_right bs (show t + 1 ≤ T from h)
  rw [Nat.add_mul, Nat.one_mul] at this; exact this
theorem mid_pre {f : Nat → It} {bs n a : Nat} (h : Mid f bs n a) (hn : a + 2 * bs ≤ n) : SortedSeg f a (a + bs) ∧ SortedSeg f (a + bs) (a + 2 * bs) := by
  obtain ⟨T, rfl, _, h2⟩ := h
  have e := two_mul' T bs
  have q1 := h2 (2 * T) (by omega)
  have q2 := h2 (2 * T + 1) (by omega)
  rw [Nat.add_mul, Nat.one_mul] at q2
  rw [← e] at q1 q2
  exact ⟨q1.sub (Nat.le_refl _) (by omega), q2.sub (Nat.le_refl _) (by omega)⟩
theorem mid_step {f f' : Nat → It} {bs n a : Nat} (h : Mid f bs n a) (hs : SortedSeg f' a (a + 2 * bs)) (ho : ∀ i, (i < a ∨ a + 2 * bs ≤ i) → f' i = f i) : Mid f' bs n (a + 2 * bs) := by
  obtain ⟨T, rfl, h1, h2⟩ := h
  have e := two_mul' T bs
  refine ⟨T + 1, by rw [Nat.add_mul, Nat.one_mul], fun t ht => ?_, fun t ht => ?_⟩
  · by_cases c : t = T
    · subst c; exact hs
    · have := succ_le (2 * bs) (show t < T by omega)
      exact (h1 t (by omega)).congr fun i _ hi => ho i (Or.inl (by omega))
  · have := Nat.mul_le_mul_right bs ht
    rw [show 2 * (T + 1) * bs = 2 * T * bs + 2 * bs from by rw [Nat.mul_add, Nat.add_mul]] at this
    exact (h2 t (by omega)).congr fun i hi _ => ho i (Or.inr (by omega))
theorem mid_end {f : Nat → It} {bs n a : Nat} (h : Mid f bs n a) (hn : n < a + 2 * bs) (hm : a + bs < n) : SortedSeg f a (a + bs) ∧ SortedSeg f (a + bs) n := by
  obtain ⟨T, rfl, _, h2⟩ := h
  have e := two_mul' T bs
  have q1 := h2 (2 * T) (by omega)
  have q2 := h2 (2 * T + 1) (by omega)
  rw [Nat.add_mul, Nat.one_mul] at q2
  rw [← e] at q1 q2
  exact ⟨q1.sub (Nat.le_refl _) (by omega), q2.sub (Nat.le_refl _) (by omega)⟩
theorem mid_last {f : Nat → It} {bs n a : Nat} (h : Mid f bs n a) (hm : n ≤ a + bs) : SortedSeg f a n := by
  obtain ⟨T, rfl, _, h2⟩ := h
  have e := two_mul' T bs
  have q1 := h2 (2 * T) (by omega)
  rw [← e] at q1
  exact q1.sub (Nat.le_refl _) (by omega)
theorem mid_fin {f f' : Nat → It} {bs n a : Nat} (h : Mid f bs n a) (hn : n < a + 2 * bs) (ha : a ≤ n) (hs : SortedSeg f' a n) (ho : ∀ i, i < a → f' i = f i) : Blk f' (2 * bs) n := by
  obtain ⟨T, rfl, h1, h2⟩ := h
  intro t
  rcases Nat.lt_trichotomy t T with c | c | c
  · have := succ_le (2 * bs) c
    exact ((h1 t c).congr fun i _ hi => ho i (by omega)).sub (Nat.le_refl _) (by omega)
  · subst c; exact hs.sub (Nat.le_refl _) (by omega)
  · have := succ_le (2 * bs) c
    intro i j hi hij hj; omega
theorem blk_one {f : Nat → It} {bs n : Nat} (h : Blk f bs n) (hn : n ≤ bs) : SortedSeg f 0 n := by
  have := h 0
  rw [Nat.zero_mul] at this
  exact this.sub (Nat.le_refl _) (by omega)
def First (f : Nat → It) (a : Nat) : Prop := ∃ T, a = T * 20 ∧ ∀ t, t < T → SortedSeg f (t * 20) (t * 20 + 20)
theorem first_start (f : Nat → It) : First f 0 := ⟨0, rfl, fun t ht => by omega⟩
theorem first_step {f f' : Nat → It} {a : Nat} (h : First f a) (hs : SortedSeg f' a (a + 20)) (ho : ∀ i, i < a → f' i = f i) : First f' (a + 20) := by
  obtain ⟨T, rfl, h1⟩ := h
  refine ⟨T + 1, by omega, fun t ht => ?_⟩
  by_cases c : t = T
  · subst c; exact hs
  · exact (h1 t (by omega)).congr fun i _ hi => ho i (by omega)
theorem first_fin {f f' : Nat → It} {n a : Nat} (h : First f a) (hn : n < a + 20) (ha : a ≤ n) (hs : SortedSeg f' a n) (ho : ∀ i, i < a → f' i = f i) : Blk f' 20 n := by
  obtain ⟨T, rfl, h1⟩ := h
  intro t
  rcases Nat.lt_trichotomy t T with c | c | c
  · exact ((h1 t c).congr fun i _ hi => ho i (by omega)).sub (Nat.le_refl _) (by omega)
  · subst c; exact hs.sub (Nat.le_refl _) (by omega)
  · intro i j hi hij hj; omega
end Rk
