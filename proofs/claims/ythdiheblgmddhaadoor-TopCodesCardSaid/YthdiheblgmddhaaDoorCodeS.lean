/- Plain law: one more than a text of bits; codes one behind the other; symbols written as bits. No program in sight. -/
import Derived.Test.YthdiheblgmddhaaDoorCodeR
namespace Rk.Code
variable {l : Nat → Nat} {n : Nat}
def inc : List Nat → List Nat
  | [] => []
  | b :: r => if b = 49 then 48 :: inc r else 49 :: r
/-- one more than a text of bits -/
def more (s : List Nat) : List Nat := (inc s.reverse).reverse
theorem inc_bits : ∀ L v, inc (bits v L).reverse = (bits (v + 1) L).reverse := by
  intro L
  induction L with
  | zero => intro v; simp [bits, inc]
  | succ L ih =>
    intro v
    rw [bits_succ, bits_succ, List.reverse_append, List.reverse_append]
    simp only [List.reverse_cons, List.reverse_nil, List.nil_append, List.cons_append, inc]
    by_cases h : v % 2 = 1
    · rw [if_pos (by omega), ih, show (v + 1) / 2 = v / 2 + 1 from by omega, show (v + 1) % 2 = 0 from by omega]
    · rw [if_neg (by omega), show (v + 1) / 2 = v / 2 from by omega, show (v + 1) % 2 = 1 from by omega]
theorem more_bits (v L : Nat) : more (bits v L) = bits (v + 1) L := by unfold more; rw [inc_bits, List.reverse_reverse]
theorem inc_ones (p : List Nat) : ∀ k, inc (List.replicate k 49 ++ p) = List.replicate k 48 ++ inc p := by
  intro k
  induction k with
  | zero => simp
  | succ k ih => simp [List.replicate_succ, inc, ih]
/-- how it is found: ones at the end, then another bit -/
theorem more_at {s : List Nat} {i : Nat} (hi : i < s.length) (h : ∀ j, i < j → (hj : j < s.length) → s[j] = 49) (hb : s[i] ≠ 49) : more s = s.take i ++ 49 :: List.replicate (s.length - 1 - i) 48 := by
  have e : s = s.take i ++ (s[i] :: List.replicate (s.length - 1 - i) 49) := by
    conv => lhs; rw [← List.take_append_drop i s, List.drop_eq_getElem_cons hi]
    congr 2
    refine List.ext_getElem (by simp; omega) fun j h1 h2 => ?_
    rw [List.getElem_drop, List.getElem_replicate]
    rw [List.length_drop] at h1
    exact h _ (by omega) (by omega)
  have e2 : s.reverse = List.replicate (s.length - 1 - i) 49 ++ (s[i] :: (s.take i).reverse) := by
    conv => lhs; rw [e]
    simp
  unfold more
  rw [e2, inc_ones]
  simp [inc, hb]
theorem more_ones {s : List Nat} (h : ∀ j, (hj : j < s.length) → s[j] = 49) : more s = List.replicate s.length 48 := by
  have e2 : s.reverse = List.replicate s.length 49 ++ [] := by
    rw [List.append_nil]
    refine List.ext_getElem (by simp) fun j h1 h2 => ?_
    rw [List.getElem_reverse, List.getElem_replicate]
    exact h _ _
  unfold more
  rw [e2, inc_ones]
  simp [inc]
theorem bits_zeros (v L : Nat) : ∀ k, bits v L ++ List.replicate k 48 = bits (v * 2 ^ k) (L + k) := by
  intro k
  induction k with
  | zero => simp
  | succ k ih =>
    rw [List.replicate_succ', ← List.append_assoc, ih, ← Nat.add_assoc, bits_succ, Nat.pow_succ, ← Nat.mul_assoc, Nat.mul_div_cancel _ (by omega), Nat.mul_mod_left]
/-- what the document's answer knows ahead of (L, i): the last code -/
def Lst (l : Nat → Nat) (n L i : Nat) (some : Bool) (last : List Nat) : Prop :=
  (some = false → last = [] ∧ nx l n L i = 0) ∧ (some = true → ∃ u p, p ≤ L ∧ last = bits u p ∧ nx l n L i = (u + 1) * 2 ^ (L - p))
theorem lst_start : Lst l n 1 0 false [] := ⟨fun _ => ⟨rfl, nx_zero l n⟩, fun h => by cases h⟩
theorem Lst.len {L i : Nat} {b : Bool} {last : List Nat} (h : Lst l n L i b last) : last.length ≤ L := by
  cases b with
  | false => rw [(h.1 rfl).1]; simp
  | true => obtain ⟨u, p, hp, e, _⟩ := h.2 rfl; rw [e, bits_len]; exact hp
theorem Lst.level {L : Nat} {b : Bool} {last : List Nat} (h : Lst l n L n b last) : Lst l n (L + 1) 0 b last := by
  refine ⟨fun hb => ⟨(h.1 hb).1, by rw [nx_level, (h.1 hb).2]⟩, fun hb => ?_⟩
  obtain ⟨u, p, hp, e, h2⟩ := h.2 hb
  refine ⟨u, p, by omega, e, ?_⟩
  rw [nx_level, h2, show L + 1 - p = (L - p) + 1 from by omega, Nat.pow_succ, Nat.mul_comm 2, Nat.mul_assoc]
theorem Lst.other {L i : Nat} {b : Bool} {last : List Nat} (h : Lst l n L i b last) (hi : i < n) (hL : 0 < L) (hl : l i ≠ L) : Lst l n L (i + 1) b last := by
  unfold Lst
  rw [nx_step hi hL, if_neg hl, Nat.add_zero]
  exact h
/-- the next code -/
theorem Lst.this {L i : Nat} {b : Bool} {last : List Nat} (h : Lst l n L i b last) (hi : i < n) (hL : 0 < L) (hl : l i = L) :
    (if b = true then more last else last) ++ List.replicate (L - (if b = true then more last else last).length) 48 = bits (nx l n L i) L ∧ Lst l n L (i + 1) true (bits (nx l n L i) L) := by
  refine ⟨?_, fun h => (by cases h), fun _ => ⟨nx l n L i, L, Nat.le_refl _, rfl, by rw [nx_step hi hL, if_pos hl, Nat.sub_self, Nat.pow_zero, Nat.mul_one]⟩⟩
  cases b with
  | false =>
    obtain ⟨e1, e2⟩ := h.1 rfl
    simp only [Bool.false_eq_true, if_false]
    rw [e1, e2]
    have := bits_zeros 0 0 L
    simp only [Nat.zero_mul, Nat.zero_add] at this
    rw [← this]; simp [bits]
  | true =>
    obtain ⟨u, p, hp, e, h2⟩ := h.2 rfl
    simp only [if_true]
    rw [e, more_bits, bits_len, bits_zeros, h2, show p + (L - p) = L from by omega]
/-- symbols as bits: what is wrong, or the bits -/
def enc (l : Nat → Nat) (n : Nat) : List Nat → List Int → Nat × List Nat
  | acc, [] => (0, acc)
  | acc, x :: r => if x < 0 ∨ (n : Int) ≤ x then (1, []) else if l x.toNat = 0 then (5, []) else if 400 < acc.length + l x.toNat then (4, []) else enc l n (acc ++ codeL l n x.toNat) r
theorem enc_nil (acc : List Nat) : enc l n acc [] = (0, acc) := rfl
theorem enc_cons (acc : List Nat) (x : Int) (r : List Int) : enc l n acc (x :: r) = if x < 0 ∨ (n : Int) ≤ x then (1, []) else if l x.toNat = 0 then (5, []) else if 400 < acc.length + l x.toNat then (4, []) else enc l n (acc ++ codeL l n x.toNat) r := rfl
theorem enc_err : ∀ (r : List Int) (acc : List Nat), (enc l n acc r).1 ≠ 0 → (enc l n acc r).2 = [] := by
  intro r
  induction r with
  | nil => intro acc h; exact absurd rfl h
  | cons x r ih =>
    intro acc
    unfold enc
    split
    · intro _; rfl
    · split
      · intro _; rfl
      · split
        · intro _; rfl
        · exact ih _
theorem enc_ok : ∀ (r : List Int) (acc : List Nat), (enc l n acc r).1 = 0 → (enc l n acc r).2 = acc ++ (r.map Int.toNat).flatMap (codeL l n) ∧ (∀ x ∈ r, 0 ≤ x ∧ x.toNat < n ∧ l x.toNat ≠ 0) ∧ (acc.length ≤ 400 → (enc l n acc r).2.length ≤ 400) := by
  intro r
  induction r with
  | nil => intro acc _; simp [enc]
  | cons x r ih =>
    intro acc
    unfold enc
    split
    · intro h; cases h
    · rename_i h0
      split
      · intro h; cases h
      · rename_i h1
        split
        · intro h; cases h
        · rename_i h2
          intro h
          obtain ⟨a, b, c⟩ := ih _ h
          refine ⟨by rw [a]; simp, fun y hy => ?_, fun _ => c (by rw [List.length_append, codeL_len]; omega)⟩
          rcases List.mem_cons.1 hy with rfl | hy
          · exact ⟨by omega, by omega, h1⟩
          · exact b y hy
/-- what may be encoded is encoded -/
theorem enc_all : ∀ (r : List Nat) (acc : List Nat), (∀ x ∈ r, x < n ∧ codeL l n x ≠ []) → (acc ++ r.flatMap (codeL l n)).length ≤ 400 → enc l n acc (r.map Int.ofNat) = (0, acc ++ r.flatMap (codeL l n)) := by
  intro r
  induction r with
  | nil => intro acc _ _; simp [enc]
  | cons x r ih =>
    intro acc h h4
    have hx := h x List.mem_cons_self
    have hl : l x ≠ 0 := fun e => hx.2 (List.eq_nil_of_length_eq_zero (by rw [codeL_len]; exact e))
    rw [List.flatMap_cons, ← List.append_assoc] at h4
    have h5 : acc.length + l x ≤ 400 := by
      rw [List.length_append, List.length_append, codeL_len] at h4; omega
    rw [List.map_cons]
    unfold enc
    rw [if_neg (by simp; omega), if_neg (by simpa using hl), if_neg (by simp; omega)]
    have := ih (acc ++ codeL l n x) (fun y hy => h y (List.mem_cons_of_mem _ hy)) h4
    rw [show (Int.ofNat x).toNat = x from rfl, this]
    simp
end Rk.Code
