/- Plain law: Huffman's lengths: no others that fit cost less (Kraft sums over 2 to M). No program in sight. -/
import Derived.Below
namespace Rk
/-- how much of 2 to M lengths take -/
def kraft (M : Nat) (l : List Nat) : Nat := (l.map fun n => 2 ^ (M - n)).sum
def cost (p : List (Nat × Nat)) : Nat := (p.map fun x => x.1 * x.2).sum
/-- weights put together two by two, the two lightest ones first: what it costs -/
inductive Huff : List Nat → Nat → Prop
  | one (w : Nat) : Huff [w] 0
  | two {W R : List Nat} {a b c : Nat} (hp : W.Perm (a :: b :: R)) (ha : ∀ x ∈ b :: R, a ≤ x) (hb : ∀ x ∈ R, b ≤ x) (h : Huff ((a + b) :: R) c) : Huff W (a + b + c)

theorem kraft_perm {M : Nat} {l m : List Nat} (h : l.Perm m) : kraft M l = kraft M m := (h.map _).sum_nat
theorem cost_perm {p q : List (Nat × Nat)} (h : p.Perm q) : cost p = cost q := (h.map _).sum_nat
theorem kraft_cons (M n : Nat) (l : List Nat) : kraft M (n :: l) = 2 ^ (M - n) + kraft M l := by simp [kraft]
theorem cost_cons (x : Nat × Nat) (p : List (Nat × Nat)) : cost (x :: p) = x.1 * x.2 + cost p := by simp [cost]
theorem kraft_append (M : Nat) (l m : List Nat) : kraft M (l ++ m) = kraft M l + kraft M m := by simp [kraft]

/-- the greatest one, and what is left -/
theorem exists_max_len : ∀ (p : List (Nat × Nat)), p ≠ [] → ∃ x r, p.Perm (x :: r) ∧ ∀ y ∈ r, y.2 ≤ x.2 := by
  intro p
  induction p with
  | nil => intro h; exact absurd rfl h
  | cons x r ih =>
    intro _
    by_cases hr : r = []
    · subst hr; exact ⟨x, [], List.Perm.refl _, by simp⟩
    · obtain ⟨y, s, hp, hm⟩ := ih hr
      by_cases h : y.2 ≤ x.2
      · refine ⟨x, y :: s, List.Perm.cons _ hp, fun z hz => ?_⟩
        rcases List.mem_cons.1 hz with e | hz
        · rw [e]; exact h
        · exact Nat.le_trans (hm z hz) h
      · refine ⟨y, x :: s, (List.Perm.cons _ hp).trans (List.Perm.swap _ _ _), fun z hz => ?_⟩
        rcases List.mem_cons.1 hz with e | hz
        · rw [e]; omega
        · exact hm z hz
theorem pow_even {k : Nat} (h : 0 < k) : 2 ∣ 2 ^ k := by
  obtain ⟨j, rfl⟩ : ∃ j, k = j + 1 := ⟨k - 1, by omega⟩
  exact ⟨2 ^ j, by rw [Nat.pow_succ, Nat.mul_comm]⟩
theorem kraft_dvd (M L : Nat) (l : List Nat) (h : ∀ n ∈ l, n < L) (hL : L ≤ M) : 2 ^ (M - L + 1) ∣ kraft M l := by
  induction l with
  | nil => simp [kraft]
  | cons n l ih =>
    rw [kraft_cons]
    have h1 := h n List.mem_cons_self
    refine Nat.dvd_add ?_ (ih fun k hk => h k (List.mem_cons_of_mem _ hk))
    exact Nat.pow_dvd_pow 2 (by omega)
/-- a longest one that is alone may be one shorter -/
theorem kraft_shorter {M L : Nat} {l : List Nat} (hL : 0 < L) (hM : L ≤ M) (h : ∀ n ∈ l, n < L) (hf : kraft M (L :: l) ≤ 2 ^ M) : kraft M ((L - 1) :: l) ≤ 2 ^ M := by
  rw [kraft_cons] at hf ⊢
  obtain ⟨q, hq⟩ := kraft_dvd M L l h hM
  obtain ⟨r, hr⟩ : 2 ^ (M - L + 1) ∣ 2 ^ M := Nat.pow_dvd_pow 2 (by omega)
  have e : M - (L - 1) = M - L + 1 := by omega
  rw [e]
  have hp : 2 ^ (M - L + 1) = 2 * 2 ^ (M - L) := by rw [Nat.pow_succ, Nat.mul_comm]
  have hpos : 0 < 2 ^ (M - L) := Nat.two_pow_pos _
  rw [hq, hr, hp] at hf
  rw [hq, hr, hp]
  generalize 2 ^ (M - L) = t at *
  have h1 : t * (1 + 2 * q) ≤ t * (2 * r) := by
    rw [Nat.mul_add, Nat.mul_one, ← Nat.mul_assoc, ← Nat.mul_assoc, Nat.mul_comm t 2]; exact hf
  have h2 : 1 + 2 * q ≤ 2 * r := Nat.le_of_mul_le_mul_left h1 hpos
  have h3 : 1 + q ≤ r := by omega
  have h4 := Nat.mul_le_mul_left (2 * t) h3
  rw [Nat.mul_add, Nat.mul_one] at h4
  exact h4

theorem swap_cost {a b x y : Nat} (h1 : a ≤ b) (h2 : x ≤ y) : a * y + b * x ≤ a * x + b * y := by
  obtain ⟨d, rfl⟩ : ∃ d, b = a + d := ⟨b - a, by omega⟩
  obtain ⟨e, rfl⟩ : ∃ e, y = x + e := ⟨y - x, by omega⟩
  simp only [Nat.add_mul, Nat.mul_add]
  have := Nat.zero_le (d * e)
  omega

/-- THE LIGHTEST GETS THE LONGEST: p is x and the rest, x as long as any; a weight that is least: it may have x's length. -/
theorem give_longest {p : List (Nat × Nat)} {W : List Nat} {a : Nat} (hw : (p.map (·.1)).Perm (a :: W)) (ha : ∀ y ∈ W, a ≤ y) {x : Nat × Nat} {r : List (Nat × Nat)}
    (hp : p.Perm (x :: r)) (hx : ∀ y ∈ r, y.2 ≤ x.2) :
    ∃ q, (q.map (·.1)).Perm W ∧ (x.2 :: q.map (·.2)).Perm (p.map (·.2)) ∧ a * x.2 + cost q ≤ cost p := by
  have hax : a ≤ x.1 := by
    have : x.1 ∈ a :: W := hw.mem_iff.1 (List.mem_map_of_mem (hp.mem_iff.2 List.mem_cons_self))
    rcases List.mem_cons.1 this with e | h
    · omega
    · exact ha _ h
  have hm : a ∈ p.map (·.1) := hw.mem_iff.2 List.mem_cons_self
  have hm' : a ∈ x.1 :: r.map (·.1) := by
    have := (hp.map (·.1)).mem_iff.1 hm
    simpa using this
  have hw' : (x.1 :: r.map (·.1)).Perm (a :: W) := by
    have := (hp.map (·.1)).symm.trans hw
    simpa using this
  rcases List.mem_cons.1 hm' with e | hr
  · refine ⟨r, ?_, ?_, ?_⟩
    · rw [← e] at hw'; exact hw'.cons_inv
    · have := (hp.map (·.2)).symm; simpa using this
    · rw [cost_perm hp, cost_cons, e]; omega
  · obtain ⟨z, hz, hza⟩ := List.mem_map.1 hr
    obtain ⟨r1, r2, rfl⟩ := List.append_of_mem hz
    have hzx := hx z hz
    refine ⟨(x.1, z.2) :: (r1 ++ r2), ?_, ?_, ?_⟩
    · have h1 : (x.1 :: (r1 ++ z :: r2).map (·.1)).Perm (a :: x.1 :: (r1 ++ r2).map (·.1)) := by
        rw [List.map_append, List.map_cons, hza, List.map_append]
        exact (List.Perm.cons _ List.perm_middle).trans (List.Perm.swap _ _ _)
      have := (h1.symm.trans hw').cons_inv
      simpa using this
    · have h1 : (p.map (·.2)).Perm (x.2 :: (r1 ++ z :: r2).map (·.2)) := by
        have := hp.map (·.2); simpa using this
      refine List.Perm.trans ?_ h1.symm
      refine List.Perm.cons _ ?_
      rw [List.map_append, List.map_cons]
      simp only [List.map_cons, List.map_append]
      exact List.perm_middle.symm
    · have e1 : cost p = x.1 * x.2 + (z.1 * z.2 + cost (r1 ++ r2)) := by
        rw [cost_perm hp, cost_cons, cost_perm List.perm_middle, cost_cons]
      rw [e1, cost_cons, hza]
      have := swap_cost hax hzx
      simp only
      omega

theorem le_sum_of_mem {x : Nat} : ∀ {l : List Nat}, x ∈ l → x ≤ l.sum := by
  intro l
  induction l with
  | nil => intro h; cases h
  | cons y r ih =>
    intro h
    rw [List.sum_cons]
    rcases List.mem_cons.1 h with e | h
    · omega
    · have := ih h; omega
theorem huff_len {W : List Nat} {c : Nat} (h : Huff W c) : 1 ≤ W.length := by
  cases h with
  | one => simp
  | two hp _ _ _ => rw [hp.length_eq]; simp

/-- NO LENGTHS THAT FIT COST LESS. -/
theorem huff_best (M : Nat) {W : List Nat} {c : Nat} (h : Huff W c) : ∀ (p : List (Nat × Nat)), (p.map (·.1)).Perm W → (∀ x ∈ p, x.2 ≤ M) → kraft M (p.map (·.2)) ≤ 2 ^ M → c ≤ cost p := by
  induction h with
  | one w => intro p _ _ _; exact Nat.zero_le _
  | @two W R a b c hp ha hb _ ih =>
    have key : ∀ (n : Nat) (p : List (Nat × Nat)), (p.map (·.2)).sum ≤ n → (p.map (·.1)).Perm W → (∀ x ∈ p, x.2 ≤ M) → kraft M (p.map (·.2)) ≤ 2 ^ M → a + b + c ≤ cost p := by
      intro n
      induction n with
      | zero =>
        intro p hs hw hM hf
        exfalso
        have hlen : 2 ≤ p.length := by
          have := (hw.trans hp).length_eq; simp at this; omega
        have h0 : ∀ x ∈ p.map (·.2), x = 0 := by
          intro x hx
          have := le_sum_of_mem hx
          omega
        match p, hlen, h0, hf with
        | x :: y :: r, _, h0, hf =>
          have e1 : x.2 = 0 := h0 _ (by simp)
          have e2 : y.2 = 0 := h0 _ (by simp)
          simp only [List.map_cons] at hf
          rw [kraft_cons, kraft_cons, e1, e2] at hf
          have : 0 < 2 ^ M := Nat.two_pow_pos _
          simp at hf
          omega
      | succ n ihn =>
        intro p hs hw hM hf
        have hlen : 2 ≤ p.length := by
          have := (hw.trans hp).length_eq; simp at this; omega
        obtain ⟨x, r, hpx, hx⟩ := exists_max_len p (by intro e; rw [e] at hlen; simp at hlen)
        by_cases halone : ∀ y ∈ r, y.2 < x.2
        · -- the longest one is alone: one shorter
          have hr : r ≠ [] := by
            intro e; have := hpx.length_eq; rw [e] at this; simp at this; omega
          obtain ⟨y, hy⟩ := List.exists_mem_of_ne_nil _ hr
          have hx0 : 0 < x.2 := Nat.lt_of_le_of_lt (Nat.zero_le _) (halone y hy)
          have hxM : x.2 ≤ M := hM x (hpx.mem_iff.2 List.mem_cons_self)
          have hf' : kraft M (x.2 :: r.map (·.2)) ≤ 2 ^ M := by
            have := kraft_perm (M := M) (hpx.map (·.2)); simp only [List.map_cons] at this; omega
          have hsum : (p.map (·.2)).sum = x.2 + (r.map (·.2)).sum := by
            have := (hpx.map (·.2)).sum_nat; simpa using this
          have hq := ihn ((x.1, x.2 - 1) :: r) (by simp; omega) (by
              have := (hpx.map (·.1)).symm.trans hw; simpa using this)
            (by
              intro z hz
              rcases List.mem_cons.1 hz with e | hz
              · rw [e]; simp; omega
              · exact hM z (hpx.mem_iff.2 (List.mem_cons_of_mem _ hz)))
            (by
              simp only [List.map_cons]
              exact kraft_shorter hx0 hxM (fun k hk => by obtain ⟨z, hz, e⟩ := List.mem_map.1 hk; rw [← e]; exact halone z hz) hf')
          rw [cost_perm hpx, cost_cons]
          rw [cost_cons] at hq
          simp only at hq
          have : x.1 * (x.2 - 1) ≤ x.1 * x.2 := Nat.mul_le_mul_left _ (by omega)
          omega
        · -- two longest ones: the two lightest get them
          have ⟨y, hy, hyx⟩ : ∃ y ∈ r, y.2 = x.2 := by
            apply Classical.byContradiction
            intro hn
            apply halone
            intro y hy
            have := hx y hy
            have : y.2 ≠ x.2 := fun e => hn ⟨y, hy, e⟩
            omega
          obtain ⟨q, hq1, hq2, hq3⟩ := give_longest (hw.trans hp) ha hpx hx
          have hmem : x.2 ∈ q.map (·.2) := by
            have h1 : (x.2 :: q.map (·.2)).Perm (x.2 :: r.map (·.2)) := hq2.trans (by have := hpx.map (·.2); simpa using this)
            exact h1.cons_inv.mem_iff.2 (List.mem_map.2 ⟨y, hy, hyx⟩)
          have hqx : ∀ z ∈ q, z.2 ≤ x.2 := by
            intro z hz
            have : z.2 ∈ p.map (·.2) := hq2.mem_iff.1 (List.mem_cons_of_mem _ (List.mem_map_of_mem hz))
            obtain ⟨u, hu, e⟩ := List.mem_map.1 this
            rcases List.mem_cons.1 (hpx.mem_iff.1 hu) with e' | hu
            · rw [← e, e']; exact Nat.le_refl _
            · rw [← e]; exact hx u hu
          obtain ⟨z, hz, hzx⟩ := List.mem_map.1 hmem
          obtain ⟨q1, q2, rfl⟩ := List.append_of_mem hz
          have hqp : (q1 ++ z :: q2).Perm (z :: (q1 ++ q2)) := List.perm_middle
          obtain ⟨s, hs1, hs2, hs3⟩ := give_longest hq1 hb hqp (fun u hu => by rw [hzx]; exact hqx u (hqp.mem_iff.2 (List.mem_cons_of_mem _ hu)))
          rw [hzx] at hs2 hs3
          have hxM : x.2 ≤ M := hM x (hpx.mem_iff.2 List.mem_cons_self)
          have hall : (x.2 :: x.2 :: s.map (·.2)).Perm (p.map (·.2)) := (List.Perm.cons _ hs2).trans hq2
          have hf' : 2 ^ (M - x.2) + (2 ^ (M - x.2) + kraft M (s.map (·.2))) ≤ 2 ^ M := by
            rw [← kraft_cons, ← kraft_cons, kraft_perm hall]; exact hf
          have hx0 : 0 < x.2 := by
            rcases Nat.eq_zero_or_pos x.2 with e | h
            · rw [e] at hf'
              have : 0 < 2 ^ M := Nat.two_pow_pos _
              simp at hf'; omega
            · exact h
          have hfin := ih ((a + b, x.2 - 1) :: s) (by simpa using hs1)
            (by
              intro u hu
              rcases List.mem_cons.1 hu with e | hu
              · rw [e]; simp; omega
              · have : u.2 ∈ p.map (·.2) := hall.mem_iff.1 (List.mem_cons_of_mem _ (List.mem_cons_of_mem _ (List.mem_map_of_mem hu)))
                obtain ⟨v, hv, e⟩ := List.mem_map.1 this
                rw [← e]; exact hM v hv)
            (by
              simp only [List.map_cons]
              rw [kraft_cons]
              have e : M - (x.2 - 1) = M - x.2 + 1 := by omega
              rw [e, Nat.pow_succ]
              omega)
          rw [cost_cons] at hfin
          simp only at hfin
          obtain ⟨m, hm⟩ : ∃ m, x.2 = m + 1 := ⟨x.2 - 1, by omega⟩
          rw [hm] at hfin hs3 hq3
          simp only [Nat.add_sub_cancel] at hfin
          have e1 : (a + b) * m = a * m + b * m := Nat.add_mul _ _ _
          have e2 : a * (m + 1) = a * m + a := Nat.mul_succ _ _
          have e3 : b * (m + 1) = b * m + b := Nat.mul_succ _ _
          omega
    intro p hw hM hf
    exact key _ p (Nat.le_refl _) hw hM hf
end Rk
