/- Plain law: codes given out in the order of their lengths: none begins another one; each fits its length. No program in sight. -/
import Derived.Test.YthdiheblgmddhaaDoorEng
namespace Rk.Code
theorem sum_single (f g : Nat → Nat) (i d : Nat) : ∀ n, i < n → (∀ k, k < n → k ≠ i → f k = g k) → f i = g i + d → ((List.range n).map f).sum = ((List.range n).map g).sum + d := by
  intro n
  induction n with
  | zero => intro h; omega
  | succ n ih =>
    intro hi h1 h2
    rw [List.range_succ, List.map_append, List.map_append, List.sum_append, List.sum_append]
    simp only [List.map_cons, List.map_nil, List.sum_cons, List.sum_nil, Nat.add_zero]
    by_cases e : i = n
    · subst e
      rw [h2]
      have : (List.range i).map f = (List.range i).map g := List.map_congr_left fun k hk => by
        have := List.mem_range.1 hk
        exact h1 k (by omega) (by omega)
      rw [this]; omega
    · rw [ih (by omega) (fun k hk hne => h1 k (by omega) hne) h2, h1 n (by omega) (fun h => e h.symm)]; omega
theorem sum_le (f g : Nat → Nat) (n : Nat) (h : ∀ k, k < n → f k ≤ g k) : ((List.range n).map f).sum ≤ ((List.range n).map g).sum := by
  induction n with
  | zero => simp
  | succ n ih =>
    rw [List.range_succ, List.map_append, List.map_append, List.sum_append, List.sum_append]
    simp only [List.map_cons, List.map_nil, List.sum_cons, List.sum_nil, Nat.add_zero]
    have := ih fun k hk => h k (by omega)
    have := h n (by omega)
    omega
theorem sum_eq (f g : Nat → Nat) (n : Nat) (h : ∀ k, k < n → f k = g k) : ((List.range n).map f).sum = ((List.range n).map g).sum := by
  congr 1
  exact List.map_congr_left fun k hk => h k (List.mem_range.1 hk)
theorem sum_mul (f : Nat → Nat) (c n : Nat) : ((List.range n).map fun k => f k * c).sum = ((List.range n).map f).sum * c := by
  induction n with
  | zero => simp
  | succ n ih =>
    rw [List.range_succ, List.map_append, List.map_append, List.sum_append, List.sum_append]
    simp only [List.map_cons, List.map_nil, List.sum_cons, List.sum_nil, Nat.add_zero]
    rw [ih, Nat.add_mul]
/-- is k given a code ahead of (L, i)? -/
def bef (l : Nat → Nat) (L i k : Nat) : Prop := 0 < l k ∧ (l k < L ∨ l k = L ∧ k < i)
instance (l : Nat → Nat) (L i k : Nat) : Decidable (bef l L i k) := by unfold bef; infer_instance
/-- the next code of L bits, ahead of symbol i -/
def nx (l : Nat → Nat) (n L i : Nat) : Nat := ((List.range n).map fun k => if bef l L i k then 2 ^ (L - l k) else 0).sum
/-- the code of symbol i -/
def val (l : Nat → Nat) (n i : Nat) : Nat := nx l n (l i) i
variable {l : Nat → Nat} {n : Nat}
theorem nx_zero (l : Nat → Nat) (n : Nat) : nx l n 1 0 = 0 := by
  unfold nx
  have : ((List.range n).map fun k => if bef l 1 0 k then 2 ^ (1 - l k) else 0).sum = ((List.range n).map fun k => (fun _ => 0) k * 0).sum := sum_eq _ _ n fun k _ => by
    rw [if_neg (by unfold bef; omega)]; rfl
  rw [this, sum_mul]; simp
theorem nx_level (L : Nat) : nx l n (L + 1) 0 = 2 * nx l n L n := by
  unfold nx
  rw [Nat.mul_comm, ← sum_mul]
  refine sum_eq _ _ n fun k hk => ?_
  by_cases h : bef l L n k
  · have h2 : bef l (L + 1) 0 k := by unfold bef at *; omega
    have h3 : l k ≤ L := by unfold bef at h; omega
    rw [if_pos h, if_pos h2, show L + 1 - l k = (L - l k) + 1 from by omega, Nat.pow_succ]
  · have h2 : ¬ bef l (L + 1) 0 k := by unfold bef at *; omega
    rw [if_neg h, if_neg h2]
theorem nx_step {L i : Nat} (hi : i < n) (hL : 0 < L) : nx l n L (i + 1) = nx l n L i + if l i = L then 1 else 0 := by
  unfold nx
  by_cases h : l i = L
  · rw [if_pos h]
    refine sum_single _ _ i 1 n hi (fun k hk hne => ?_) ?_
    · by_cases c : bef l L i k
      · rw [if_pos c, if_pos (by unfold bef at *; omega)]
      · rw [if_neg c, if_neg (by unfold bef at *; omega)]
    · rw [if_pos (by unfold bef; omega), if_neg (by unfold bef; omega), h, Nat.sub_self, Nat.pow_zero]
  · rw [if_neg h, Nat.add_zero]
    refine sum_eq _ _ n fun k hk => ?_
    by_cases c : bef l L i k
    · rw [if_pos c, if_pos (by unfold bef at *; omega)]
    · rw [if_neg c, if_neg (by
        unfold bef at *
        intro h2
        have : k ≠ i := fun e => by subst e; omega
        omega)]
theorem val_succ {i : Nat} (hi : i < n) (h0 : 0 < l i) : nx l n (l i) (i + 1) = val l n i + 1 := by rw [nx_step hi h0, if_pos rfl]; rfl
/-- later codes lie behind -/
theorem val_after {i j : Nat} (hi : i < n) (h0 : 0 < l i) (hij : l i < l j ∨ l i = l j ∧ i < j) : (val l n i + 1) * 2 ^ (l j - l i) ≤ val l n j := by
  rw [← val_succ hi h0]
  unfold val nx
  rw [← sum_mul]
  refine sum_le _ _ n fun k hk => ?_
  by_cases c : bef l (l i) (i + 1) k
  · have c2 : bef l (l j) j k := by unfold bef at *; omega
    have c3 : l k ≤ l i := by unfold bef at c; omega
    rw [if_pos c, if_pos c2, ← Nat.pow_add, show l i - l k + (l j - l i) = l j - l k from by omega]
    exact Nat.le_refl _
  · rw [if_neg c]; simp
/-- none begins another one -/
theorem val_free {i j : Nat} (hi : i < n) (hj : j < n) (hne : i ≠ j) (h0 : 0 < l i) (hij : l i ≤ l j) : val l n j / 2 ^ (l j - l i) ≠ val l n i := by
  by_cases c : l i < l j ∨ l i = l j ∧ i < j
  · have := val_after (n := n) hi h0 c
    have h2 : val l n i + 1 ≤ val l n j / 2 ^ (l j - l i) := (Nat.le_div_iff_mul_le (Nat.two_pow_pos _)).2 this
    omega
  · have e : l j = l i := by omega
    have := val_after (n := n) (i := j) (j := i) hj (by omega) (.inr ⟨e, by omega⟩)
    rw [e, Nat.sub_self] at *
    simp at *
    omega
/-- how much of 2 to 20 is taken -/
def room (l : Nat → Nat) (n M : Nat) : Nat := ((List.range n).map fun k => if 0 < l k then 2 ^ (M - l k) else 0).sum
theorem val_fits {i M : Nat} (hi : i < n) (h0 : 0 < l i) (hM : l i ≤ M) (hr : room l n M ≤ 2 ^ M) : val l n i < 2 ^ l i := by
  have h1 : (val l n i + 1) * 2 ^ (M - l i) ≤ room l n M := by
    rw [← val_succ hi h0]
    unfold nx room
    rw [← sum_mul]
    refine sum_le _ _ n fun k hk => ?_
    by_cases c : bef l (l i) (i + 1) k
    · have c3 : l k ≤ l i ∧ 0 < l k := by unfold bef at c; omega
      rw [if_pos c, if_pos c3.2, ← Nat.pow_add, show l i - l k + (M - l i) = M - l k from by omega]
      exact Nat.le_refl _
    · rw [if_neg c]; simp
  have h2 : (val l n i + 1) * 2 ^ (M - l i) ≤ 2 ^ l i * 2 ^ (M - l i) := by
    rw [← Nat.pow_add, show l i + (M - l i) = M from by omega]; omega
  have := Nat.le_of_mul_le_mul_right h2 (Nat.two_pow_pos _)
  omega
/-- a number written with so many bits -/
def bits (v L : Nat) : List Nat := (List.range L).map fun p => 48 + v / 2 ^ (L - 1 - p) % 2
theorem bits_len (v L : Nat) : (bits v L).length = L := by simp [bits]
theorem bits_inj {u v L M : Nat} (hv : v < 2 ^ L) (hu : u < 2 ^ M) (hLM : L ≤ M) (h : (bits u M).take L = bits v L) : u / 2 ^ (M - L) = v := by
  refine Nat.eq_of_testBit_eq fun q => ?_
  by_cases hq : q < L
  · have h1 := congrArg (fun x => x[L - 1 - q]?) h
    simp only [bits, List.getElem?_take, List.getElem?_map] at h1
    rw [if_pos (by omega), List.getElem?_range (by omega), List.getElem?_range (by omega)] at h1
    simp only [Option.map_some, Option.some.injEq] at h1
    rw [show M - 1 - (L - 1 - q) = (M - L) + q from by omega, show L - 1 - (L - 1 - q) = q from by omega] at h1
    rw [Nat.testBit_eq_decide_div_mod_eq, Nat.testBit_eq_decide_div_mod_eq, Nat.div_div_eq_div_mul, ← Nat.pow_add]
    have : u / 2 ^ (M - L + q) % 2 = v / 2 ^ q % 2 := by omega
    rw [this]
  · have h2 : u / 2 ^ (M - L) < 2 ^ L := by
      rw [Nat.div_lt_iff_lt_mul (Nat.two_pow_pos _), ← Nat.pow_add, show L + (M - L) = M from by omega]; exact hu
    rw [Nat.testBit_lt_two_pow (Nat.lt_of_lt_of_le h2 (Nat.pow_le_pow_right (by omega) (by omega))), Nat.testBit_lt_two_pow (Nat.lt_of_lt_of_le hv (Nat.pow_le_pow_right (by omega) (by omega)))]
/-- no text of one begins the text of another -/
theorem bits_free {i j M : Nat} (hi : i < n) (hj : j < n) (hne : i ≠ j) (h0 : 0 < l i) (hij : l i ≤ l j) (hM : ∀ k, k < n → l k ≤ M) (hr : room l n M ≤ 2 ^ M) : (bits (val l n j) (l j)).take (l i) ≠ bits (val l n i) (l i) := fun h =>
  val_free hi hj hne h0 hij (bits_inj (val_fits hi h0 (hM i hi) hr) (val_fits hj (by omega) (hM j hj) hr) hij h)
end Rk.Code
