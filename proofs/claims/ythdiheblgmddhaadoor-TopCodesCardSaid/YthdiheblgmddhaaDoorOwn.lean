/- The walk's own rules: slices of the call's own that are written in place. -/
import Derived.Test.YthdiheblgmddhaaDoorApp
namespace Rk
open Go Go.RowKit

/-- block g, from B on, is the call's own: its first n elements are f's -/
structure OwnS {α : Type} (enc : α → List Value) (k : Nat) (e : TypeId) (w : World) (B g n cap : Nat) (f : Nat → α) : Prop where
  base : B ≤ g
  le : n ≤ cap
  max : cap ≤ maxLen
  blk : ∃ cur, Bk w g e cur ∧ cur.length = cap * k ∧ ∀ i, i < n → ∀ j u, (enc (f i))[j]? = some u → cur[i * k + j]? = some u

section
variable {α : Type} {enc : α → List Value} {k : Nat} {e : TypeId} {w w' : World} {B g n cap : Nat} {f f' : Nat → α} {row : Option Nat}
theorem OwnS.lt (h : OwnS enc k e w B g n cap f) : g < w.heap.size := by obtain ⟨cur, hb, _⟩ := h.blk; exact hb.lt
theorem OwnS.cell (h : OwnS enc k e w B g n cap f) {i : Nat} (hi : i < n) : ∀ j u, (enc (f i))[j]? = some u → w.cell? ⟨g, 0 + i * k + j, none⟩ = some u := by
  intro j u hu
  obtain ⟨cur, hb, _, hc⟩ := h.blk
  rw [Nat.zero_add]
  exact hb.cell (hc i hi j u hu)
theorem OwnS.toRow (h : OwnS enc k e w B g n cap f) : RowOf enc k w (some ⟨g, 0, none⟩) n f := fun _ => ⟨g, 0, rfl, h.lt, fun _ hi => h.cell hi⟩
theorem OwnS.keep (h : OwnS enc k e w B g n cap f) (hg : w.grownBy w' row) (hne : row ≠ some g) : OwnS enc k e w' B g n cap f := by
  obtain ⟨cur, hb, hr⟩ := h.blk
  exact ⟨h.base, h.le, h.max, cur, hb.keep hg hne, hr⟩
theorem OwnS.below (h : OwnS enc k e w B g n cap f) (hb : Below w.heap.size w w') : OwnS enc k e w' B g n cap f := h.keep (grown_of_below hb none) (by simp)
theorem OwnS.heap (h : OwnS enc k e w B g n cap f) (hh : w'.heap = w.heap) : OwnS enc k e w' B g n cap f := by
  obtain ⟨cur, hb, hr⟩ := h.blk
  exact ⟨h.base, h.le, h.max, cur, hb.heap hh, hr⟩
theorem OwnS.congr (h : OwnS enc k e w B g n cap f) (hf : ∀ i, i < n → f' i = f i) : OwnS enc k e w B g n cap f' := by
  obtain ⟨cur, hb, hl, hc⟩ := h.blk
  exact ⟨h.base, h.le, h.max, cur, hb, hl, fun i hi j u hu => hc i hi j u (by rw [← hf i hi]; exact hu)⟩
theorem OwnS.shorter (h : OwnS enc k e w B g n cap f) {m : Nat} (hm : m ≤ n) : OwnS enc k e w B g m cap f := by
  obtain ⟨cur, hb, hl, hc⟩ := h.blk
  exact ⟨h.base, Nat.le_trans hm h.le, h.max, cur, hb, hl, fun i hi => hc i (by omega)⟩
theorem OwnS.toL (hk : ∀ x, (enc x).length = k) (h : OwnS enc k e w B g n cap f) : OwnL enc k e w B (.slice (some ⟨g, 0, none⟩) n cap) (segL f n) := by
  obtain ⟨cur, hb, hl, hc⟩ := h.blk
  have hfl : ((segL f n).flatMap enc).length = n * k := by rw [flat_length hk, segL_length]
  have hnk : n * k ≤ cap * k := Nat.mul_le_mul_right _ h.le
  unfold OwnL
  rw [segL_length]
  refine ⟨hfl, .inr ⟨g, cap, cur.toArray, rfl, h.base, hb, h.le, h.max, by simpa using hl, ?_⟩⟩
  refine List.ext_getElem? fun p => ?_
  rw [List.getElem?_take]
  by_cases hp : p < n * k
  · rw [if_pos hp]
    have hk0 : 0 < k := by
      rcases Nat.eq_zero_or_pos k with h0 | h0
      · rw [h0] at hp; simp at hp
      · exact h0
    have hdiv : p / k < n := by rw [Nat.div_lt_iff_lt_mul hk0]; exact hp
    have hmod := Nat.mod_lt p hk0
    have he : p = (p / k) * k + p % k := by have := Nat.div_add_mod p k; rw [Nat.mul_comm] at this; omega
    rw [he, flat_get hk (segL f n) (p / k) (p % k) (by rw [segL_length]; exact hdiv) hmod, segL_get]
    have hex : (enc (f (p / k)))[p % k]? = some ((enc (f (p / k)))[p % k]'(by rw [hk]; exact hmod)) := List.getElem?_eq_getElem _
    rw [hex]
    exact hc _ hdiv _ _ hex
  · rw [if_neg hp, List.getElem?_eq_none (by omega)]
theorem OwnL.lower {v : Value} {l : List α} {B' : Nat} (h : OwnL enc k e w B' v l) (hB : B ≤ B') : OwnL enc k e w B v l := by
  refine ⟨h.1, ?_⟩
  rcases h.2 with h0 | ⟨g, cap, cur, h1, h2, h3⟩
  · exact .inl h0
  · exact .inr ⟨g, cap, cur, h1, Nat.le_trans hB h2, h3⟩
theorem OwnS.lower {B' : Nat} (h : OwnS enc k e w B' g n cap f) (hB : B ≤ B') : OwnS enc k e w B g n cap f := ⟨Nat.le_trans hB h.base, h.le, h.max, h.blk⟩
/-- an own slice that has elements, by its block -/
theorem OwnL.toS [Inhabited α] (hk : ∀ x, (enc x).length = k) {v : Value} {l : List α} (h : OwnL enc k e w B v l) (hl : l ≠ []) : ∃ g cap, v = .slice (some ⟨g, 0, none⟩) l.length cap ∧ OwnS enc k e w B g l.length cap (lf l) := by
  rcases h.2 with ⟨A, rfl, h0⟩ | ⟨g, cap, cur, rfl, hB, hgg, hc, hm, hs, ht⟩
  · exact absurd (List.eq_nil_of_length_eq_zero h0) hl
  · refine ⟨g, cap, rfl, hB, hc, hm, cur.toList, by simpa [Bk] using hgg, by simpa using hs, fun i hi j u hu => ?_⟩
    have hj : j < k := by
      rcases Nat.lt_or_ge j k with hj | hj
      · exact hj
      · rw [List.getElem?_eq_none (by rw [hk]; exact hj)] at hu; cases hu
    rw [lf_get hi, ← flat_get hk l i j hi hj, ← ht, List.getElem?_take] at hu
    split at hu
    · exact hu
    · cases hu
theorem putAt_get : ∀ (vs : List Value) (cs : List Value) (j p : Nat), j + vs.length ≤ cs.length → (putAt cs j vs)[p]? = if j ≤ p ∧ p < j + vs.length then vs[p - j]? else cs[p]? := by
  intro vs
  induction vs with
  | nil => intro cs j p _; simp only [putAt, List.length_nil]; rw [if_neg (by omega)]
  | cons u r ih =>
    intro cs j p hl
    simp only [List.length_cons] at hl
    simp only [putAt]
    rw [ih _ _ _ (by simp; omega)]
    by_cases h1 : j + 1 ≤ p ∧ p < j + 1 + r.length
    · rw [if_pos h1, if_pos (by simp; omega), show p - j = (p - (j + 1)) + 1 from by omega]; simp
    · rw [if_neg h1]
      by_cases h2 : p = j
      · subst h2
        rw [if_pos (by simp)]
        rw [List.getElem?_set_self (by omega)]
        simp
      · rw [if_neg (by simp; omega), List.getElem?_set_ne (by omega)]
theorem putAt_length : ∀ (vs : List Value) (cs : List Value) (j : Nat), (putAt cs j vs).length = cs.length := by
  intro vs
  induction vs with
  | nil => intro cs j; rfl
  | cons u r ih => intro cs j; simp only [putAt]; rw [ih]; simp
end
section
variable {P : Program} {ops : Array Oper} {K : Env → World → Prop} {N : Nat} {E : Env} {rest : List Oper} {w w' : World} {t : TypeId} {pos : String} {after : Array Edge}
  {x y : Operand} {v z : Value} {e : TypeId} {agg : Bool} {k bytes : Nat} {α : Type} {enc : α → List Value} {f : Nat → α} {B g n cap : Nat}
/-- a whole element stored -/
theorem WL.storeS (hk : ∀ x, (enc x).length = k) (h1 : ∀ x, ∀ u ∈ enc x, u.oneCell' = true) (ty : Ty P e agg k bytes z) {p i : Nat} (hx : evE E x = some (.pointer (some ⟨g, p, none⟩))) (hp : p = i * k)
    (hy : evE E y = some v) {a : α} (hv : v.cells.toList = enc a) (ho : OwnS enc k e w B g n cap f) (hi : i < n)
    (h : ∀ w', w.grownBy w' (some g) → OwnS enc k e w' B g n cap (fun j => if j = i then a else f j) → w'.heap.size = w.heap.size → WL P ops K N E rest w') :
    WL P ops K N E (⟨none, .store e x y, t, pos, after, none⟩ :: rest) w := by
  subst hp
  obtain ⟨cur, hb, hl, hc⟩ := ho.blk
  have hs : v.cells.size = k := by have := congrArg List.length hv; rw [hk] at this; simpa using this
  have hfit : i * k + k ≤ cap * k := by
    have := Nat.mul_le_mul_right k (show i + 1 ≤ cap from by have := ho.le; omega)
    rw [Nat.add_mul, Nat.one_mul] at this; exact this
  refine WL.store ty hx hy hs (by rw [hv]; exact h1 a) hb (by omega) fun w' hg hb' hz => h w' hg ?_ hz
  refine ⟨ho.base, ho.le, ho.max, _, hb', by rw [putAt_length, hl], fun i' hi' j u hu => ?_⟩
  rw [hv, putAt_get _ _ _ _ (by rw [hk]; omega)]
  have hj : j < k := by
    rcases Nat.lt_or_ge j k with hj | hj
    · exact hj
    · rw [List.getElem?_eq_none (by rw [hk]; exact hj)] at hu; cases hu
  by_cases e : i' = i
  · subst e
    rw [if_pos rfl] at hu
    rw [if_pos (by rw [hk]; omega), show i' * k + j - i' * k = j from by omega]
    exact hu
  · rw [if_neg e] at hu
    rw [if_neg, hc i' hi' j u hu]
    rw [hk]
    rcases Nat.lt_or_gt_of_ne e with hlt | hgt
    · have := Nat.mul_le_mul_right k (show i' + 1 ≤ i from hlt)
      rw [Nat.add_mul, Nat.one_mul] at this
      omega
    · have := Nat.mul_le_mul_right k (show i + 1 ≤ i' from hgt)
      rw [Nat.add_mul, Nat.one_mul] at this
      omega
end
end Rk
