/- Plain law: merging two sorted stretches in place by rotating (SymMerge), and putting one in by neighbours: what comes is sorted, and what has one key stays in its order. No program in sight. -/
import Derived.Test.YtkgdfkgkkjcahaaSort
namespace Rk
/-- a stretch of places -/
def seg (f : Nat → It) (a b : Nat) : List It := (List.range' a (b - a)).map f
def SortedSeg (f : Nat → It) (a b : Nat) : Prop := ∀ i j, a ≤ i → i < j → j < b → (f i).1 ≤ (f j).1

theorem seg_split (f : Nat → It) {a m b : Nat} (h1 : a ≤ m) (h2 : m ≤ b) : seg f a b = seg f a m ++ seg f m b := by
  unfold seg
  have e : b - a = (m - a) + (b - m) := by omega
  rw [e, ← List.map_append]
  congr 1
  have := List.range'_append (s := a) (m := m - a) (n := b - m) (step := 1)
  rw [← this]
  congr 2
  omega
theorem seg_congr {f g : Nat → It} {a b : Nat} (h : ∀ i, a ≤ i → i < b → f i = g i) : seg f a b = seg g a b := by
  unfold seg
  refine List.map_congr_left fun i hi => ?_
  have := List.mem_range'_1.1 hi
  exact h i (by omega) (by omega)
theorem seg_shift {f g : Nat → It} {a c : Nat} (n : Nat) (h : ∀ i, i < n → f (a + i) = g (c + i)) : seg f a (a + n) = seg g c (c + n) := by
  unfold seg
  have e1 : a + n - a = n := by omega
  have e2 : c + n - c = n := by omega
  rw [e1, e2]
  refine List.ext_getElem (by simp) fun i h1 h2 => ?_
  simp at h1
  simp only [List.getElem_map, List.getElem_range']
  simpa using h i h1
theorem mem_seg {f : Nat → It} {a b : Nat} {x : It} : x ∈ seg f a b ↔ ∃ i, a ≤ i ∧ i < b ∧ f i = x := by
  unfold seg
  simp only [List.mem_map, List.mem_range'_1]
  constructor
  · rintro ⟨i, hi, e⟩; exact ⟨i, by omega, by omega, e⟩
  · rintro ⟨i, h1, h2, e⟩; exact ⟨i, by omega, e⟩
theorem seg_empty (f : Nat → It) {a b : Nat} (h : b ≤ a) : seg f a b = [] := by
  unfold seg
  rw [show b - a = 0 from by omega]; rfl
theorem seg_one (f : Nat → It) (a : Nat) : seg f a (a + 1) = [f a] := by
  unfold seg
  rw [show a + 1 - a = 1 from by omega]; rfl
theorem seg_length (f : Nat → It) (a b : Nat) : (seg f a b).length = b - a := by simp [seg]

theorem stab_swap {A B : List It} (h : ∀ x ∈ A, ∀ y ∈ B, y.1 < x.1) : Stab (B ++ A) (A ++ B) := fun k => by
  rw [keyF_append, keyF_append]
  by_cases hA : keyF k A = []
  · rw [hA]; simp
  · have hB : keyF k B = [] := by
      obtain ⟨x, hx⟩ := List.exists_mem_of_ne_nil _ hA
      have hx' := mem_keyF.1 hx
      refine List.eq_nil_iff_forall_not_mem.2 fun y hy => ?_
      have hy' := mem_keyF.1 hy
      have := h x hx'.1 y hy'.1
      omega
    rw [hB]; simp

theorem SortedSeg.sub {f : Nat → It} {a b c d : Nat} (h : SortedSeg f a b) (h1 : a ≤ c) (h2 : d ≤ b) : SortedSeg f c d :=
  fun i j hi hij hj => h i j (by omega) hij (by omega)
theorem SortedSeg.congr {f g : Nat → It} {a b : Nat} (h : SortedSeg f a b) (e : ∀ i, a ≤ i → i < b → g i = f i) : SortedSeg g a b :=
  fun i j hi hij hj => by rw [e i hi (by omega), e j (by omega) hj]; exact h i j hi hij hj
theorem SortedSeg.shift {f g : Nat → It} {a c n : Nat} (h : SortedSeg f a (a + n)) (e : ∀ i, i < n → g (c + i) = f (a + i)) : SortedSeg g c (c + n) := by
  intro i j hi hij hj
  obtain ⟨i', rfl⟩ : ∃ i', i = c + i' := ⟨i - c, by omega⟩
  obtain ⟨j', rfl⟩ : ∃ j', j = c + j' := ⟨j - c, by omega⟩
  rw [e i' (by omega), e j' (by omega)]
  exact h (a + i') (a + j') (by omega) (by omega) (by omega)
theorem SortedSeg.le {f : Nat → It} {a b : Nat} (h : SortedSeg f a b) {i j : Nat} (h1 : a ≤ i) (h2 : i ≤ j) (h3 : j < b) : (f i).1 ≤ (f j).1 := by
  by_cases e : i = j
  · subst e; exact Int.le_refl _
  · exact h i j h1 (by omega) h3
theorem sortedK_seg {f : Nat → It} {a b : Nat} : SortedK (seg f a b) ↔ SortedSeg f a b := by
  unfold SortedK seg SortedSeg
  rw [List.pairwise_iff_getElem]
  constructor
  · intro h i j hi hij hj
    have := h (i - a) (j - a) (by simp; omega) (by simp; omega) (by omega)
    simp only [List.getElem_map, List.getElem_range'] at this
    rw [show a + 1 * (i - a) = i from by omega, show a + 1 * (j - a) = j from by omega] at this
    exact this
  · intro h i j hi hj hij
    simp only [List.getElem_map, List.getElem_range']
    simp at hi hj
    exact h _ _ (by omega) (by omega) (by omega)
/-- what has one key on two stretches that follow each other: sorted as a whole -/
theorem SortedSeg.join {g : Nat → It} {a mid b : Nat} (h1 : SortedSeg g a mid) (h2 : SortedSeg g mid b) (hx : ∀ x ∈ seg g a mid, ∀ y ∈ seg g mid b, x.1 ≤ y.1) : SortedSeg g a b := by
  intro i j hi hij hj
  by_cases c1 : j < mid
  · exact h1 i j hi hij c1
  · by_cases c2 : mid ≤ i
    · exact h2 i j c2 hij hj
    · exact hx _ (mem_seg.2 ⟨i, hi, by omega, rfl⟩) _ (mem_seg.2 ⟨j, by omega, hj, rfl⟩)

/-- f' is f with [s, m) and [m, e) in each other's place -/
def Rotated (f f' : Nat → It) (s m e : Nat) : Prop :=
  (∀ i, i < e - m → f' (s + i) = f (m + i)) ∧ (∀ i, i < m - s → f' (s + (e - m) + i) = f (s + i)) ∧ ∀ i, (i < s ∨ e ≤ i) → f' i = f i
/-- g is f, but for [a, b), where it has the same, stably -/
def Within (f g : Nat → It) (a b : Nat) : Prop := Stab (seg g a b) (seg f a b) ∧ ∀ i, (i < a ∨ b ≤ i) → g i = f i
theorem Within.refl (f : Nat → It) (a b : Nat) : Within f f a b := ⟨Stab.refl _, fun _ _ => rfl⟩
theorem Within.trans {f g h : Nat → It} {a b : Nat} (x : Within f g a b) (y : Within g h a b) : Within f h a b :=
  ⟨y.1.trans x.1, fun i hi => (y.2 i hi).trans (x.2 i hi)⟩
theorem Within.widen {f g : Nat → It} {a b c d : Nat} (x : Within f g a b) (h1 : c ≤ a) (h2 : a ≤ b) (h3 : b ≤ d) : Within f g c d := by
  refine ⟨?_, fun i hi => x.2 i (by omega)⟩
  rw [seg_split g h1 (by omega : a ≤ d), seg_split g h2 h3, seg_split f h1 (by omega : a ≤ d), seg_split f h2 h3]
  rw [seg_congr (f := g) (g := f) (a := c) (b := a) fun i _ hi => x.2 i (by omega)]
  rw [seg_congr (f := g) (g := f) (a := b) (b := d) fun i hi _ => x.2 i (by omega)]
  exact Stab.append (Stab.refl _) (Stab.append x.1 (Stab.refl _))
theorem Rotated.segs {f f' : Nat → It} {s m e : Nat} (h : Rotated f f' s m e) (h1 : s ≤ m) (h2 : m ≤ e) :
    seg f' s (s + (e - m)) = seg f m e ∧ seg f' (s + (e - m)) e = seg f s m := by
  constructor
  · have := seg_shift (f := f') (g := f) (a := s) (c := m) (e - m) (fun i hi => h.1 i hi)
    rw [this]; congr 1; omega
  · have := seg_shift (f := f') (g := f) (a := s + (e - m)) (c := s) (m - s) (fun i hi => h.2.1 i hi)
    rw [show s + (e - m) + (m - s) = e from by omega, show s + (m - s) = m from by omega] at this
    exact this
theorem Rotated.within {f f' : Nat → It} {s m e : Nat} (h : Rotated f f' s m e) (h1 : s ≤ m) (h2 : m ≤ e)
    (hlt : s < m → m < e → (f (e - 1)).1 < (f s).1) (hs : SortedSeg f s m) (hm : SortedSeg f m e) : Within f f' s e := by
  obtain ⟨e1, e2⟩ := h.segs h1 h2
  refine ⟨?_, h.2.2⟩
  rw [seg_split f' (show s ≤ s + (e - m) by omega) (show s + (e - m) ≤ e by omega), e1, e2, seg_split f h1 h2]
  refine stab_swap fun x hx y hy => ?_
  obtain ⟨i, hi1, hi2, rfl⟩ := mem_seg.1 hx
  obtain ⟨j, hj1, hj2, rfl⟩ := mem_seg.1 hy
  have := hlt (by omega) (by omega)
  have a1 := hs.le (i := s) (j := i) (by omega) hi1 hi2
  have a2 := hm.le (i := j) (j := e - 1) hj1 (by omega) (by omega)
  omega

/-- THE STEP: two sorted stretches [a, m), [m, b); turned about m from s to e, s + e = mid + m; then each half sorted stably: all is sorted, stably. -/
theorem sym_step {f f' g1 g : Nat → It} {a s m e mid b : Nat} (has : a ≤ s) (hsm : s ≤ m) (hme : m ≤ e) (heb : e ≤ b) (hmid : mid + m = s + e)
    (h1 : SortedSeg f a m) (h2 : SortedSeg f m b)
    (c1 : a < s → e < b → (f (s - 1)).1 ≤ (f e).1) (c2 : s < m → m < e → (f (e - 1)).1 < (f s).1)
    (hr : Rotated f f' s m e) (w1 : Within f' g1 a mid) (s1 : SortedSeg g1 a mid) (w2 : Within g1 g mid b) (s2 : SortedSeg g mid b) :
    SortedSeg g a b ∧ Within f g a b := by
  have hW : Within f f' s e := hr.within hsm hme c2 (h1.sub has (Nat.le_refl _)) (h2.sub (Nat.le_refl _) heb)
  have hA : Within f g1 a b := (hW.widen has (by omega) heb).trans (w1.widen (Nat.le_refl _) (by omega) (by omega))
  have hall : Within f g a b := hA.trans (w2.widen (by omega) (by omega) (Nat.le_refl _))
  refine ⟨?_, hall⟩
  have sg1 : SortedSeg g a mid := s1.congr fun i _ hi => w2.2 i (Or.inl hi)
  refine sg1.join s2 fun x hx y hy => ?_
  have hx' : x ∈ seg f' a mid := by
    have : x ∈ seg g1 a mid := by rw [seg_congr (f := g1) (g := g) fun i _ hi => (w2.2 i (Or.inl hi)).symm]; exact hx
    exact w1.1.mem.1 this
  have hy' : y ∈ seg f' mid b := by
    have : y ∈ seg g1 mid b := w2.1.mem.1 hy
    rw [seg_congr (f := g1) (g := f') fun i hi _ => w1.2 i (Or.inr hi)] at this
    exact this
  obtain ⟨e1, e2⟩ := hr.segs hsm hme
  have em : s + (e - m) = mid := by omega
  rw [em] at e1 e2
  rw [seg_split f' has (show s ≤ mid by omega), e1, List.mem_append] at hx'
  rw [seg_split f' (show mid ≤ e by omega) heb, e2, List.mem_append] at hy'
  rw [seg_congr (f := f') (g := f) (a := a) (b := s) fun i _ hi => hr.2.2 i (Or.inl hi)] at hx'
  rw [seg_congr (f := f') (g := f) (a := e) (b := b) fun i hi _ => hr.2.2 i (Or.inr hi)] at hy'
  rcases hx' with hx' | hx' <;> rcases hy' with hy' | hy' <;> obtain ⟨i, hi1, hi2, rfl⟩ := mem_seg.1 hx' <;> obtain ⟨j, hj1, hj2, rfl⟩ := mem_seg.1 hy'
  · exact h1.le hi1 (by omega) (by omega)
  · have q := c1 (by omega) (by omega)
    have a1 := h1.le (i := i) (j := s - 1) hi1 (by omega) (by omega)
    have a2 := h2.le (i := e) (j := j) (by omega) hj1 hj2
    omega
  · have q := c2 (by omega) (by omega)
    have a1 := h1.le (i := s) (j := j) (by omega) hj1 (by omega)
    have a2 := h2.le (i := i) (j := e - 1) hi1 (by omega) (by omega)
    omega
  · exact h2.le hi1 (by omega) (by omega)

/-- ONE PUT IN TO THE RIGHT: the first of [a, b) goes to place i - 1; [a + 1, b) is sorted. -/
theorem put_right {f g : Nat → It} {a i b : Nat} (hai : a < i) (hib : i ≤ b) (h : SortedSeg f (a + 1) b)
    (c1 : a + 1 < i → (f (i - 1)).1 < (f a).1) (c2 : i < b → (f a).1 ≤ (f i).1) (hr : Rotated f g a (a + 1) i) : SortedSeg g a b ∧ Within f g a b := by
  have hone : SortedSeg f a (a + 1) := fun x y hx hxy hy => by omega
  refine sym_step (s := a) (m := a + 1) (e := i) (mid := i - 1) (Nat.le_refl _) (by omega) (by omega) hib (by omega) hone h (fun h => by omega) (fun _ h2 => c1 h2) hr
    (Within.refl _ _ _) ?_ (Within.refl _ _ _) ?_
  · refine (SortedSeg.shift (f := f) (a := a + 1) (c := a) (n := i - 1 - a) (h.sub (Nat.le_refl _) (by omega)) fun j hj => ?_).sub (Nat.le_refl _) (by omega)
    exact hr.1 j (by omega)
  · intro x y hx hxy hy
    have hy' : g y = f y := hr.2.2 y (by omega)
    rw [hy']
    by_cases e : x = i - 1
    · have : g x = f a := by
        have := hr.2.1 0 (by omega)
        simp only [Nat.add_zero] at this
        rw [show a + (i - (a + 1)) = i - 1 from by omega] at this
        rw [e]; exact this
      rw [this]
      have := c2 (by omega)
      have := h.le (i := i) (j := y) (by omega) (by omega) hy
      omega
    · rw [hr.2.2 x (by omega)]
      exact h.le (by omega) (by omega) hy
/-- ONE PUT IN TO THE LEFT: the last of [a, b) goes to place i; [a, b - 1) is sorted. -/
theorem put_left {f g : Nat → It} {a i m : Nat} (hai : a ≤ i) (him : i ≤ m) (h : SortedSeg f a m)
    (c1 : a < i → (f (i - 1)).1 ≤ (f m).1) (c2 : i < m → (f m).1 < (f i).1) (hr : Rotated f g i m (m + 1)) : SortedSeg g a (m + 1) ∧ Within f g a (m + 1) := by
  have hone : SortedSeg f m (m + 1) := fun x y hx hxy hy => by omega
  refine sym_step (s := i) (m := m) (e := m + 1) (mid := i + 1) hai him (by omega) (Nat.le_refl _) (by omega) h hone (fun _ h => by omega) (fun h1 _ => by simpa using c2 h1) hr
    (Within.refl _ _ _) ?_ (Within.refl _ _ _) ?_
  · intro x y hx hxy hy
    have hx' : g x = f x := hr.2.2 x (by omega)
    rw [hx']
    by_cases e : y = i
    · have : g y = f m := by
        have := hr.1 0 (by omega)
        simp only [Nat.add_zero] at this
        rw [e]; exact this
      rw [this]
      have := c1 (by omega)
      have := h.le (i := x) (j := i - 1) (by omega) (by omega) (by omega)
      omega
    · rw [hr.2.2 y (by omega)]
      exact h.le (by omega) (by omega) (by omega)
  · have e1 : i + (m + 1 - m) = i + 1 := by omega
    have := SortedSeg.shift (f := f) (g := g) (a := i) (c := i + 1) (n := m - i) (h.sub hai (by omega)) fun j hj => by
      have := hr.2.1 j hj
      rw [e1] at this; exact this
    exact this.sub (Nat.le_refl _) (by omega)
end Rk
