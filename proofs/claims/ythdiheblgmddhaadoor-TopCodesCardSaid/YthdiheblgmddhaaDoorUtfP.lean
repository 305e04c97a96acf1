/- Plain law: texts as runes, a byte that is none of valid UTF-8 below -128: what Runes gives, what Text gives, and that Text gives back. -/
import Derived.Lib.DecodeN
import Derived.Lib.RuneBytes
import Derived.Test.YthdiheblgmddhaaDoorApp
namespace Rk.Utf
open Go
abbrev Bs := List UInt8
/-- the i-th byte as a number; 0 behind the end -/
def nb (l : Bs) (i : Nat) : Nat := (lf l i).toNat
theorem nb_lt (l : Bs) (i : Nat) : nb l i < 256 := UInt8.toNat_lt _
/-- the first rune, and its width -/
def dec (l : Bs) : Nat × Nat := Lib.decodeN l.length (nb l 0) (nb l 1) (nb l 2) (nb l 3)
/-- the first rune as Runes tells it -/
def runeOf (l : Bs) : Int := if (dec l).1 = 65533 ∧ (dec l).2 = 1 then -1 - (nb l 0 : Int) else ((dec l).1 : Int)
def runesA : Nat → Bs → List Int
  | 0, _ => []
  | f + 1, l => if l = [] then [] else runeOf l :: runesA f (l.drop (dec l).2)
def runes (l : Bs) : List Int := runesA l.length l
theorem dec_width {l : Bs} (h : l ≠ []) : 1 ≤ (dec l).2 ∧ (dec l).2 ≤ 4 ∧ (dec l).2 ≤ l.length := by
  have hl : 0 < l.length := List.length_pos_iff.2 h
  unfold dec Lib.decodeN
  repeat' split
  all_goals (simp only; omega)
theorem dec_le (l : Bs) : (dec l).1 ≤ 1114111 := by
  have b0 := nb_lt l 0
  unfold dec Lib.decodeN
  repeat' split
  all_goals (simp only; omega)
theorem runesA_fuel : ∀ (f g : Nat) (l : Bs), l.length ≤ f → l.length ≤ g → runesA f l = runesA g l := by
  intro f
  induction f with
  | zero =>
    intro g l h _
    have : l = [] := List.eq_nil_of_length_eq_zero (by omega)
    subst this
    cases g <;> simp [runesA]
  | succ f ih =>
    intro g l h1 h2
    by_cases h : l = []
    · subst h; cases g <;> simp [runesA]
    · have hl : 0 < l.length := List.length_pos_iff.2 h
      cases g with
      | zero => omega
      | succ g =>
        have hw := dec_width h
        simp only [runesA, if_neg h]
        rw [ih g (l.drop (dec l).2) (by rw [List.length_drop]; omega) (by rw [List.length_drop]; omega)]
theorem runes_nil : runes [] = [] := rfl
theorem runes_cons {l : Bs} (h : l ≠ []) : runes l = runeOf l :: runes (l.drop (dec l).2) := by
  have hl : 0 < l.length := List.length_pos_iff.2 h
  have hw := dec_width h
  obtain ⟨f, hf⟩ : ∃ f, l.length = f + 1 := ⟨l.length - 1, by omega⟩
  unfold runes
  rw [hf]
  simp only [runesA, if_neg h]
  rw [runesA_fuel f _ (l.drop (dec l).2) (by rw [List.length_drop]; omega) (Nat.le_refl _)]
/-- there are no more runes than bytes, and no fewer than a fourth of them -/
theorem runes_len : ∀ (n : Nat) (l : Bs), l.length ≤ n → (runes l).length ≤ l.length ∧ l.length ≤ 4 * (runes l).length := by
  intro n
  induction n with
  | zero =>
    intro l h
    have : l = [] := List.eq_nil_of_length_eq_zero (by omega)
    subst this; simp [runes_nil]
  | succ n ih =>
    intro l h
    by_cases h0 : l = []
    · subst h0; simp [runes_nil]
    · have hl : 0 < l.length := List.length_pos_iff.2 h0
      have hw := dec_width h0
      have := ih (l.drop (dec l).2) (by rw [List.length_drop]; omega)
      rw [List.length_drop] at this
      rw [runes_cons h0, List.length_cons]
      omega
/-- the bytes of one number -/
def text1 (n : Int) : Option Bs :=
  if -256 ≤ n ∧ n ≤ -129 then some [(-1 - n).toNat.toUInt8]
  else if (0 ≤ n ∧ n < 55296) ∨ (57343 < n ∧ n ≤ 1114111) then some (Lib.encodeRune n) else none
/-- Text: what it holds so far, and the number of what is wrong -/
def textF : Bs → List Int → Bs × Nat
  | acc, [] => (acc, 0)
  | acc, n :: l => match text1 n with
    | none => ([], 1)
    | some b => if 60 < (acc ++ b).length then ([], 4) else textF (acc ++ b) l
theorem textF_cons (acc : Bs) (n : Int) (l : List Int) : textF acc (n :: l) = match text1 n with
    | none => ([], 1)
    | some b => if 60 < (acc ++ b).length then ([], 4) else textF (acc ++ b) l := rfl
theorem text1_len {n : Int} {b : Bs} (h : text1 n = some b) : 1 ≤ b.length ∧ b.length ≤ 4 := by
  unfold text1 at h
  split at h
  · injection h with h; subst h; simp
  · split at h
    · injection h with h; subst h
      have := Lib.encodeRuneZ_length n
      simp only [Lib.encodeRune, List.length_map]; exact this
    · cases h
theorem textF_err : ∀ (l : List Int) (acc : Bs), (textF acc l).2 = 0 ∨ (textF acc l).2 = 1 ∨ (textF acc l).2 = 4 := by
  intro l
  induction l with
  | nil => intro acc; exact .inl rfl
  | cons n l ih =>
    intro acc
    rw [textF_cons]
    cases text1 n with
    | none => exact .inr (.inl rfl)
    | some b =>
      dsimp only
      split
      · exact .inr (.inr rfl)
      · exact ih _
theorem take1 {l : Bs} (h : 1 ≤ l.length) : l.take 1 = [lf l 0] := by
  rcases l with _ | ⟨a, l⟩
  · simp at h
  · rfl
theorem take2 {l : Bs} (h : 2 ≤ l.length) : l.take 2 = [lf l 0, lf l 1] := by
  rcases l with _ | ⟨a, _ | ⟨b, l⟩⟩
  · simp at h
  · simp at h
  · rfl
theorem take3 {l : Bs} (h : 3 ≤ l.length) : l.take 3 = [lf l 0, lf l 1, lf l 2] := by
  rcases l with _ | ⟨a, _ | ⟨b, _ | ⟨c, l⟩⟩⟩
  · simp at h
  · simp at h
  · simp at h
  · rfl
theorem take4 {l : Bs} (h : 4 ≤ l.length) : l.take 4 = [lf l 0, lf l 1, lf l 2, lf l 3] := by
  rcases l with _ | ⟨a, _ | ⟨b, _ | ⟨c, _ | ⟨d, l⟩⟩⟩⟩
  · simp at h
  · simp at h
  · simp at h
  · simp at h
  · rfl
theorem byte_back (l : Bs) (i : Nat) {x : Int} (h : x = (nb l i : Int)) : x.toNat.toUInt8 = lf l i := by
  subst h
  rw [Int.toNat_natCast]
  exact UInt8.ofNat_toNat
theorem text1_rune {n : Int} (h : (0 ≤ n ∧ n < 55296) ∨ (57343 < n ∧ n ≤ 1114111)) : text1 n = some (Lib.encodeRune n) := by
  unfold text1
  rw [if_neg (by omega), if_pos h]
theorem text1_of {l : Bs} (h : l ≠ []) : text1 (runeOf l) = some (l.take (dec l).2) := by
  have hl : 0 < l.length := List.length_pos_iff.2 h
  have b0 := nb_lt l 0
  have b1 := nb_lt l 1
  have b2 := nb_lt l 2
  have b3 := nb_lt l 3
  have key : (dec l = (nb l 0, 1) ∧ nb l 0 < 128) ∨ (dec l = (65533, 1) ∧ 128 ≤ nb l 0) ∨
      (∃ r, dec l = (r, 2) ∧ 2 ≤ l.length ∧ 128 ≤ r ∧ r ≤ 2047 ∧ nb l 0 = 192 + r / 64 ∧ nb l 1 = 128 + r % 64) ∨
      (∃ r, dec l = (r, 3) ∧ 3 ≤ l.length ∧ ((2048 ≤ r ∧ r < 55296) ∨ (57343 < r ∧ r ≤ 65535)) ∧ nb l 0 = 224 + r / 4096 ∧ nb l 1 = 128 + r / 64 % 64 ∧ nb l 2 = 128 + r % 64) ∨
      (∃ r, dec l = (r, 4) ∧ 4 ≤ l.length ∧ 65536 ≤ r ∧ r ≤ 1114111 ∧ nb l 0 = 240 + r / 262144 ∧ nb l 1 = 128 + r / 4096 % 64 ∧ nb l 2 = 128 + r / 64 % 64 ∧ nb l 3 = 128 + r % 64) := by
    unfold dec
    generalize nb l 0 = c0 at *
    generalize nb l 1 = c1 at *
    generalize nb l 2 = c2 at *
    generalize nb l 3 = c3 at *
    unfold Lib.decodeN
    split
    · exact .inl ⟨rfl, by assumption⟩
    split
    · split
      · refine .inr (.inr (.inl ⟨_, rfl, ?_⟩)); omega
      · exact .inr (.inl ⟨rfl, by omega⟩)
    split
    · split
      · refine .inr (.inr (.inr (.inl ⟨_, rfl, ?_⟩))); omega
      · exact .inr (.inl ⟨rfl, by omega⟩)
    split
    · split
      · refine .inr (.inr (.inr (.inr ⟨_, rfl, ?_⟩))); omega
      · exact .inr (.inl ⟨rfl, by omega⟩)
    · exact .inr (.inl ⟨rfl, by omega⟩)
  rcases key with ⟨hd, h0⟩ | ⟨hd, h0⟩ | ⟨r, hd, hn, r1, r2, e0, e1⟩ | ⟨r, hd, hn, r1, e0, e1, e2⟩ | ⟨r, hd, hn, r1, r2, e0, e1, e2, e3⟩
  · have : runeOf l = (nb l 0 : Int) := by unfold runeOf; rw [hd, if_neg (by simp only; omega)]
    rw [this, hd, text1_rune (.inl ⟨by omega, by omega⟩)]
    simp only [Lib.encodeRune]
    rw [Lib.encodeRuneZ_one (by omega) (by omega), take1 hl]
    simp only [List.map_cons, List.map_nil]
    rw [byte_back l 0 rfl]
  · have : runeOf l = -1 - (nb l 0 : Int) := by unfold runeOf; rw [hd, if_pos ⟨rfl, rfl⟩]
    rw [this, hd]
    unfold text1
    rw [if_pos (by omega), take1 hl, byte_back l 0 (by omega)]
  · have : runeOf l = (r : Int) := by unfold runeOf; rw [hd, if_neg (by simp only; omega)]
    rw [this, hd, text1_rune (.inl ⟨by omega, by omega⟩)]
    simp only [Lib.encodeRune]
    rw [Lib.encodeRuneZ_two (by omega) (by omega), take2 hn]
    simp only [List.map_cons, List.map_nil]
    rw [byte_back l 0 (by omega), byte_back l 1 (by omega)]
  · have : runeOf l = (r : Int) := by unfold runeOf; rw [hd, if_neg (by simp only; omega)]
    rw [this, hd, text1_rune (by omega)]
    simp only [Lib.encodeRune]
    rw [Lib.encodeRuneZ_three (by omega), take3 hn]
    simp only [List.map_cons, List.map_nil]
    rw [byte_back l 0 (by omega), byte_back l 1 (by omega), byte_back l 2 (by omega)]
  · have : runeOf l = (r : Int) := by unfold runeOf; rw [hd, if_neg (by simp only; omega)]
    rw [this, hd, text1_rune (by omega)]
    simp only [Lib.encodeRune]
    rw [Lib.encodeRuneZ_four (by omega) (by omega), take4 hn]
    simp only [List.map_cons, List.map_nil]
    rw [byte_back l 0 (by omega), byte_back l 1 (by omega), byte_back l 2 (by omega), byte_back l 3 (by omega)]
theorem text_runes : ∀ (n : Nat) (l acc : Bs), l.length ≤ n → acc.length + l.length ≤ 60 → textF acc (runes l) = (acc ++ l, 0) := by
  intro n
  induction n with
  | zero =>
    intro l acc h _
    have : l = [] := List.eq_nil_of_length_eq_zero (by omega)
    subst this; rw [runes_nil, List.append_nil]; rfl
  | succ n ih =>
    intro l acc h hs
    by_cases h0 : l = []
    · subst h0; rw [runes_nil, List.append_nil]; rfl
    · have hw := dec_width h0
      rw [runes_cons h0, textF_cons, text1_of h0]
      simp only [List.length_append, List.length_take]
      rw [if_neg (by omega), ih (l.drop (dec l).2) _ (by rw [List.length_drop]; omega) (by rw [List.length_append, List.length_take, List.length_drop]; omega), List.append_assoc, List.take_append_drop]
/-! the document's way -/
def longD (n b0 b1 b2 b3 : Nat) : Nat :=
  if b0 < 128 then 1 else
  if (if 194 ≤ b0 ∧ b0 ≤ 223 then 2 else if 224 ≤ b0 ∧ b0 ≤ 239 then 3 else if 240 ≤ b0 ∧ b0 ≤ 244 then 4 else 0) = 0 then 0 else
  if n < (if 194 ≤ b0 ∧ b0 ≤ 223 then 2 else if 224 ≤ b0 ∧ b0 ≤ 239 then 3 else 4) then 0 else
  if b1 < (if b0 = 224 then 160 else if b0 = 240 then 144 else 128) ∨ (if b0 = 237 then 159 else if b0 = 244 then 143 else 191) < b1 then 0 else
  if 224 ≤ b0 ∧ ¬ (128 ≤ b2 ∧ b2 ≤ 191) then 0 else
  if 240 ≤ b0 ∧ ¬ (128 ≤ b3 ∧ b3 ≤ 191) then 0 else
  (if 194 ≤ b0 ∧ b0 ≤ 223 then 2 else if 224 ≤ b0 ∧ b0 ≤ 239 then 3 else 4)
def long (l : Bs) : Nat := longD l.length (nb l 0) (nb l 1) (nb l 2) (nb l 3)
set_option maxHeartbeats 4000000 in
theorem long_key {n b0 b1 b2 b3 L : Nat} (hL : longD n b0 b1 b2 b3 = L) : (b0 < 128 ∧ L = 1) ∨ (128 ≤ b0 ∧ b0 < 194 ∧ L = 0) ∨ (244 < b0 ∧ L = 0) ∨
      (194 ≤ b0 ∧ b0 ≤ 223 ∧ ((n < 2 ∨ b1 < 128 ∨ 191 < b1) ∧ L = 0 ∨ 2 ≤ n ∧ 128 ≤ b1 ∧ b1 ≤ 191 ∧ L = 2)) ∨
      (224 ≤ b0 ∧ b0 ≤ 239 ∧ ((n < 3 ∨ b1 < 128 ∨ 191 < b1 ∨ (b0 = 224 ∧ b1 < 160) ∨ (b0 = 237 ∧ 159 < b1) ∨ b2 < 128 ∨ 191 < b2) ∧ L = 0 ∨ 3 ≤ n ∧ 128 ≤ b1 ∧ b1 ≤ 191 ∧ (b0 = 224 → 160 ≤ b1) ∧ (b0 = 237 → b1 ≤ 159) ∧ 128 ≤ b2 ∧ b2 ≤ 191 ∧ L = 3)) ∨
      (240 ≤ b0 ∧ b0 ≤ 244 ∧ ((n < 4 ∨ b1 < 128 ∨ 191 < b1 ∨ (b0 = 240 ∧ b1 < 144) ∨ (b0 = 244 ∧ 143 < b1) ∨ b2 < 128 ∨ 191 < b2 ∨ b3 < 128 ∨ 191 < b3) ∧ L = 0 ∨ 4 ≤ n ∧ 128 ≤ b1 ∧ b1 ≤ 191 ∧ (b0 = 240 → 144 ≤ b1) ∧ (b0 = 244 → b1 ≤ 143) ∧ 128 ≤ b2 ∧ b2 ≤ 191 ∧ 128 ≤ b3 ∧ b3 ≤ 191 ∧ L = 4)) := by
  unfold longD at hL
  by_cases c0 : b0 < 128
  · rw [if_pos c0] at hL; exact .inl ⟨c0, hL.symm⟩
  rw [if_neg c0] at hL
  by_cases c1 : 194 ≤ b0 ∧ b0 ≤ 223
  · simp only [if_pos c1, if_neg (show ¬ b0 = 224 by omega), if_neg (show ¬ b0 = 240 by omega), if_neg (show ¬ b0 = 237 by omega), if_neg (show ¬ b0 = 244 by omega), if_neg (show ¬ (224 ≤ b0 ∧ ¬ (128 ≤ b2 ∧ b2 ≤ 191)) by omega), if_neg (show ¬ (240 ≤ b0 ∧ ¬ (128 ≤ b3 ∧ b3 ≤ 191)) by omega), if_neg (show ¬ (2 = 0) by decide)] at hL
    refine .inr (.inr (.inr (.inl ⟨c1.1, c1.2, ?_⟩)))
    split at hL
    · exact .inl ⟨by omega, hL.symm⟩
    · split at hL
      · exact .inl ⟨by omega, hL.symm⟩
      · exact .inr ⟨by omega, by omega, by omega, hL.symm⟩
  by_cases c2 : 224 ≤ b0 ∧ b0 ≤ 239
  · simp only [if_neg c1, if_pos c2, if_neg (show ¬ b0 = 240 by omega), if_neg (show ¬ b0 = 244 by omega), if_neg (show ¬ (240 ≤ b0 ∧ ¬ (128 ≤ b3 ∧ b3 ≤ 191)) by omega), if_neg (show ¬ (3 = 0) by decide)] at hL
    refine .inr (.inr (.inr (.inr (.inl ⟨c2.1, c2.2, ?_⟩))))
    split at hL
    · exact .inl ⟨by omega, hL.symm⟩
    · obtain ⟨lo, hlo⟩ : ∃ lo, (if b0 = 224 then 160 else 128) = lo := ⟨_, rfl⟩
      obtain ⟨hi, hhi⟩ : ∃ hi, (if b0 = 237 then 159 else 191) = hi := ⟨_, rfl⟩
      rw [hlo, hhi] at hL
      have e1 : (b0 = 224 ∧ lo = 160) ∨ (b0 ≠ 224 ∧ lo = 128) := by
        subst hlo; by_cases h : b0 = 224
        · exact .inl ⟨h, if_pos h⟩
        · exact .inr ⟨h, if_neg h⟩
      have e2 : (b0 = 237 ∧ hi = 159) ∨ (b0 ≠ 237 ∧ hi = 191) := by
        subst hhi; by_cases h : b0 = 237
        · exact .inl ⟨h, if_pos h⟩
        · exact .inr ⟨h, if_neg h⟩
      clear hlo hhi
      split at hL
      · exact .inl ⟨by omega, hL.symm⟩
      · split at hL
        · exact .inl ⟨by omega, hL.symm⟩
        · exact .inr ⟨by omega, by omega, by omega, by omega, by omega, by omega, by omega, hL.symm⟩
  by_cases c3 : 240 ≤ b0 ∧ b0 ≤ 244
  · simp only [if_neg c1, if_neg c2, if_pos c3, if_neg (show ¬ b0 = 224 by omega), if_neg (show ¬ b0 = 237 by omega), if_neg (show ¬ (4 = 0) by decide)] at hL
    refine .inr (.inr (.inr (.inr (.inr ⟨c3.1, c3.2, ?_⟩))))
    split at hL
    · exact .inl ⟨by omega, hL.symm⟩
    · obtain ⟨lo, hlo⟩ : ∃ lo, (if b0 = 240 then 144 else 128) = lo := ⟨_, rfl⟩
      obtain ⟨hi, hhi⟩ : ∃ hi, (if b0 = 244 then 143 else 191) = hi := ⟨_, rfl⟩
      rw [hlo, hhi] at hL
      have e1 : (b0 = 240 ∧ lo = 144) ∨ (b0 ≠ 240 ∧ lo = 128) := by
        subst hlo; by_cases h : b0 = 240
        · exact .inl ⟨h, if_pos h⟩
        · exact .inr ⟨h, if_neg h⟩
      have e2 : (b0 = 244 ∧ hi = 143) ∨ (b0 ≠ 244 ∧ hi = 191) := by
        subst hhi; by_cases h : b0 = 244
        · exact .inl ⟨h, if_pos h⟩
        · exact .inr ⟨h, if_neg h⟩
      clear hlo hhi
      split at hL
      · exact .inl ⟨by omega, hL.symm⟩
      · split at hL
        · exact .inl ⟨by omega, hL.symm⟩
        · split at hL
          · exact .inl ⟨by omega, hL.symm⟩
          · exact .inr ⟨by omega, by omega, by omega, by omega, by omega, by omega, by omega, by omega, by omega, hL.symm⟩
  simp only [if_neg c1, if_neg c2, if_neg c3, if_true] at hL
  by_cases c4 : b0 < 194
  · exact .inr (.inl ⟨by omega, c4, hL.symm⟩)
  · exact .inr (.inr (.inl ⟨by omega, hL.symm⟩))
set_option maxHeartbeats 4000000 in
theorem long_is {n b0 b1 b2 b3 : Nat} (h0 : b0 < 256) (h1 : b1 < 256) (h2 : b2 < 256) (h3 : b3 < 256) :
    (longD n b0 b1 b2 b3 = 0 → Lib.decodeN n b0 b1 b2 b3 = (65533, 1)) ∧
    (longD n b0 b1 b2 b3 = 1 → Lib.decodeN n b0 b1 b2 b3 = (b0, 1) ∧ b0 < 128) ∧
    (longD n b0 b1 b2 b3 = 2 → Lib.decodeN n b0 b1 b2 b3 = ((b0 - 192) * 64 + b1 - 128, 2) ∧ 192 ≤ b0 ∧ 128 ≤ b1 ∧ 2 ≤ n) ∧
    (longD n b0 b1 b2 b3 = 3 → Lib.decodeN n b0 b1 b2 b3 = (((b0 - 224) * 64 + b1 - 128) * 64 + b2 - 128, 3) ∧ 224 ≤ b0 ∧ 128 ≤ b1 ∧ 128 ≤ b2 ∧ 3 ≤ n) ∧
    (longD n b0 b1 b2 b3 = 4 → Lib.decodeN n b0 b1 b2 b3 = ((((b0 - 240) * 64 + b1 - 128) * 64 + b2 - 128) * 64 + b3 - 128, 4) ∧ 240 ≤ b0 ∧ 128 ≤ b1 ∧ 128 ≤ b2 ∧ 128 ≤ b3 ∧ 4 ≤ n) ∧ longD n b0 b1 b2 b3 ≤ 4 := by
  obtain ⟨L, hL⟩ : ∃ L, longD n b0 b1 b2 b3 = L := ⟨_, rfl⟩
  rw [hL]
  have key := long_key hL
  clear hL
  unfold Lib.decodeN
  rcases key with ⟨h, rfl⟩ | ⟨h, h', rfl⟩ | ⟨h, rfl⟩ | ⟨h, h', ⟨g, rfl⟩ | ⟨g1, g2, g3, rfl⟩⟩ | ⟨h, h', ⟨g, rfl⟩ | ⟨g1, g2, g3, g4, g5, g6, g7, rfl⟩⟩ | ⟨h, h', ⟨g, rfl⟩ | ⟨g1, g2, g3, g4, g5, g6, g7, g8, g9, rfl⟩⟩
  all_goals refine ⟨fun q => ?_, fun q => ?_, fun q => ?_, fun q => ?_, fun q => ?_, by omega⟩
  all_goals first
    | (exact absurd q (by decide))
    | skip
  all_goals
    clear q
    repeat' split
    all_goals first
      | (exfalso; omega)
      | rfl
      | (refine ⟨Prod.ext ?_ ?_, ?_⟩ <;> first | omega | (simp only; done) | (simp only; omega))
end Rk.Utf
