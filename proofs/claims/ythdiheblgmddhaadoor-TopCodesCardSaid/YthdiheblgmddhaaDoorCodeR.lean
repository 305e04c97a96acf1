/- Plain law: how codes are given out, and what is wrong with their lengths. No program in sight. -/
import Derived.Test.YthdiheblgmddhaaDoorCodeQ
namespace Rk.Code
variable {l : Nat → Nat} {n : Nat}
theorem room_succ (l : Nat → Nat) (k M : Nat) : room l (k + 1) M = room l k M + if 0 < l k then 2 ^ (M - l k) else 0 := by
  simp [room, List.range_succ]
theorem room_le (l : Nat → Nat) (M : Nat) : ∀ k, room l k M ≤ k * 2 ^ M := by
  intro k
  induction k with
  | zero => simp [room]
  | succ k ih =>
    rw [room_succ, Nat.add_mul]
    split
    · have := Nat.pow_le_pow_right (show 0 < 2 by omega) (Nat.sub_le M (l k)); omega
    · omega
theorem nx_room {L i M : Nat} (hL : L ≤ M) : nx l n L i * 2 ^ (M - L) ≤ room l n M := by
  unfold nx room
  rw [← sum_mul]
  refine sum_le _ _ n fun k hk => ?_
  by_cases c : bef l L i k
  · have c3 : l k ≤ L ∧ 0 < l k := by unfold bef at c; omega
    rw [if_pos c, if_pos c3.2, ← Nat.pow_add, show L - l k + (M - L) = M - l k from by omega]
    exact Nat.le_refl _
  · rw [if_neg c]; simp
theorem nx_le {L i : Nat} (hL : L ≤ 20) (hr : room l n 20 ≤ 2 ^ 20) : nx l n L i ≤ 2 ^ L := by
  have h := Nat.le_trans (nx_room (l := l) (n := n) (i := i) hL) hr
  have e : 2 ^ 20 = 2 ^ L * 2 ^ (20 - L) := by rw [← Nat.pow_add, show L + (20 - L) = 20 from by omega]
  rw [e] at h
  exact Nat.le_of_mul_le_mul_right h (Nat.two_pow_pos _)
/-- what has been given out ahead of (L, i) -/
def given (l : Nat → Nat) (n L i k : Nat) : List Nat := if bef l L i k then codeL l n k else []
theorem given_zero (k : Nat) : given l n 1 0 k = [] := if_neg (by unfold bef; omega)
theorem given_last {k : Nat} (hk : l k ≤ 20) : given l n 21 0 k = codeL l n k := by
  unfold given
  by_cases h : 0 < l k
  · rw [if_pos (by unfold bef; omega)]
  · rw [if_neg (by unfold bef; omega)]
    exact (List.eq_nil_of_length_eq_zero (by rw [codeL_len]; omega)).symm
theorem given_level {L : Nat} {k : Nat} (hk : k < n) : given l n (L + 1) 0 k = given l n L n k := by
  unfold given
  by_cases h : bef l L n k
  · rw [if_pos h, if_pos (by unfold bef at *; omega)]
  · rw [if_neg h, if_neg (by unfold bef at *; omega)]
theorem given_other {L i k : Nat} (h : l i ≠ L ∨ k ≠ i) : given l n L (i + 1) k = given l n L i k := by
  unfold given
  by_cases c : bef l L i k
  · rw [if_pos c, if_pos (by unfold bef at *; omega)]
  · rw [if_neg c, if_neg (by
      unfold bef at *
      intro h2
      rcases h with h | h
      · have : k ≠ i := fun e => by subst e; omega
        omega
      · omega)]
theorem given_this {L i : Nat} (h : l i = L) (h0 : 0 < L) : given l n L (i + 1) i = bits (nx l n L i) L := by
  unfold given
  rw [if_pos (by unfold bef; omega), codeL, val, h]
/-- what is wrong with lengths of codes -/
def longErr (n : Nat) (f : Nat → Int) : Nat := if 40 < n then 4 else if ∀ i, i < n → 0 ≤ f i ∧ f i ≤ 20 then (if 2 ^ 20 < room (fun i => (f i).toNat) n 20 then 3 else 0) else 1
theorem longErr_zero {n : Nat} {f : Nat → Int} : longErr n f = 0 ↔ n ≤ 40 ∧ (∀ i, i < n → 0 ≤ f i ∧ f i ≤ 20) ∧ room (fun i => (f i).toNat) n 20 ≤ 2 ^ 20 := by
  unfold longErr
  by_cases h0 : 40 < n
  · rw [if_pos h0]; simp; omega
  · rw [if_neg h0]
    by_cases h1 : ∀ i, i < n → 0 ≤ f i ∧ f i ≤ 20
    · rw [if_pos h1]
      by_cases h2 : 2 ^ 20 < room (fun i => (f i).toNat) n 20
      · rw [if_pos h2]; simp; omega
      · rw [if_neg h2]; exact ⟨fun _ => ⟨by omega, h1, by omega⟩, fun _ => rfl⟩
    · rw [if_neg h1]; simp [h1]
theorem bits_succ (v L : Nat) : bits v (L + 1) = bits (v / 2) L ++ [48 + v % 2] := by
  unfold bits
  rw [List.range_succ, List.map_append]
  congr 1
  · refine List.map_congr_left fun p hp => ?_
    have := List.mem_range.1 hp
    rw [show L + 1 - 1 - p = (L - 1 - p) + 1 from by omega, Nat.pow_succ, Nat.mul_comm, ← Nat.div_div_eq_div_mul]
  · simp
end Rk.Code
