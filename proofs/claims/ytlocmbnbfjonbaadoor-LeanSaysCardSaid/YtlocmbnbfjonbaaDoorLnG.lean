/- What the laws need of leaning heaps: right lists of nodes, melded, pushed and popped. -/
import Derived.Test.YtlocmbnbfjonbaaDoorLn5
namespace Rk
open Go Go.RowKit
/-- the list of a right tree -/
structure LG (L : List Nd) (t : Ln.T Ln.It) : Prop where
  list : L = Ln.ser t 0
  good : Ln.Good Ln.kI t
  ok : ∀ x, x ∈ t.items → okIt x = true
  le : t.size ≤ 60
theorem LG.len {L : List Nd} {t : Ln.T Ln.It} (h : LG L t) : L.length = t.size := by rw [h.list, Ln.ser_len]
theorem LG.items {L : List Nd} {t : Ln.T Ln.It} (h : LG L t) : L.map Ln.itN = t.items := by rw [h.list, Ln.ser_items]
theorem LG.rd {L : List Nd} {t : Ln.T Ln.It} (h : LG L t) : Ln.rdT L = some t := by rw [h.list]; exact Ln.rdT_ser h.good
theorem LG.rdD {L : List Nd} {t : Ln.T Ln.It} (h : LG L t) : Rk.rdD L = t := rd_is h.rd
theorem LG.read {L : List Nd} {t : Ln.T Ln.It} (h : LG L t) : readE L = 0 := by
  have hl := h.len
  have h60 := h.le
  unfold readE
  rw [if_neg (by omega), if_pos, h.rd]
  · rfl
  · rw [List.all_eq_true]
    intro x hx
    refine h.ok (Ln.itN x) ?_
    rw [← h.items]
    exact List.mem_map_of_mem hx
theorem LG.of_read {L : List Nd} (h : readE L = 0) : LG L (Rk.rdD L) := by
  have h60 := readE_le h
  unfold readE at h
  rw [if_neg (by omega)] at h
  by_cases ha : L.all okNd = true
  · rw [if_pos ha] at h
    by_cases hs : (Ln.rdT L).isSome = true
    · obtain ⟨t, ht⟩ := Option.isSome_iff_exists.1 hs
      obtain ⟨h1, h2⟩ := Ln.rdT_some ht
      rw [rd_is ht]
      refine ⟨h1, h2, fun x hx => ?_, by rw [rd_len ht]; exact h60⟩
      rw [← Ln.ser_items t 0, ← h1] at hx
      obtain ⟨y, hy, rfl⟩ := List.mem_map.1 hx
      exact List.all_eq_true.1 ha y hy
    · rw [if_neg hs] at h; omega
  · rw [if_neg ha] at h; omega
theorem LG.nil : LG [] .nil := ⟨rfl, Ln.good_nil _, fun x hx => (by cases hx), by simp [Ln.T.size]⟩
theorem LG.alone {x : Ln.It} (h : okIt x = true) : LG (Rk.alone x) (.node x .nil .nil) :=
  ⟨rfl, ⟨⟨trivial, trivial, trivial, trivial⟩, ⟨Nat.le_refl _, trivial, trivial⟩⟩, fun y hy => by simp [Ln.T.items] at hy; rw [hy]; exact h, by simp [Ln.T.size]⟩
theorem alone_bad {x : Ln.It} (h : ¬ okIt x = true) : readE (Rk.alone x) = 1 := by
  unfold readE
  rw [if_neg (by simp [alone]), if_neg]
  intro ha
  rw [List.all_eq_true] at ha
  exact h (ha (x.1, x.2, -1, -1) (by simp [alone]))
theorem LG.meld {a b : List Nd} {s t : Ln.T Ln.It} (ha : LG a s) (hb : LG b t) (h : s.size + t.size ≤ 60) : meldE a b = 0 ∧ LG (meldL a b) (Ln.meld Ln.kI s t) := by
  refine ⟨?_, ?_⟩
  · unfold meldE
    rw [if_neg (by rw [ha.read]; omega), if_neg (by rw [hb.read]; omega), if_neg (by rw [ha.len, hb.len]; omega)]
  · unfold meldL
    rw [ha.rdD, hb.rdD]
    exact ⟨rfl, Ln.meld_good _ _ _ ha.good hb.good, fun x hx => by
      rcases List.mem_append.1 ((Ln.meld_items _ _ _).mem_iff.1 hx) with h1 | h1
      · exact ha.ok x h1
      · exact hb.ok x h1, by rw [Ln.meld_size]; exact h⟩
theorem LG.full {a b : List Nd} {s t : Ln.T Ln.It} (ha : LG a s) (hb : LG b t) (h : 60 < s.size + t.size) : meldE a b = 4 := by
  unfold meldE
  rw [if_neg (by rw [ha.read]; omega), if_neg (by rw [hb.read]; omega), if_pos (by rw [ha.len, hb.len]; omega)]
theorem LG.pop {L : List Nd} {x : Ln.It} {l r : Ln.T Ln.It} (h : LG L (.node x l r)) : LG (popL L) (Ln.meld Ln.kI l r) := by
  have e : popL L = Ln.ser (Ln.meld Ln.kI l r) 0 := by unfold popL; rw [h.rdD]
  have hs := h.le
  simp only [Ln.T.size] at hs
  exact ⟨e, Ln.meld_good _ _ _ h.good.left h.good.right, fun y hy => h.ok y (List.mem_cons_of_mem _ ((Ln.meld_items _ _ _).mem_iff.1 hy)), by rw [Ln.meld_size]; omega⟩
theorem LG.root {L : List Nd} {x : Ln.It} {l r : Ln.T Ln.It} (h : LG L (.node x l r)) : Ln.itN (lf L 0) = x := by rw [h.list]; rfl
theorem LG.rootKey {L : List Nd} {x : Ln.It} {l r : Ln.T Ln.It} (h : LG L (.node x l r)) : (lf L 0).1 = x.1 := by rw [h.list]; rfl
theorem LG.spine {L : List Nd} {t : Ln.T Ln.It} (h : LG L t) : spineN L = t.span := by unfold spineN; rw [if_pos h.read, h.rdD]
theorem LG.pow {L : List Nd} {t : Ln.T Ln.It} (h : LG L t) : 2 ^ t.span ≤ L.length + 1 ∧ t.span ≤ 6 ∧ (0 < t.span ↔ 0 < L.length) := by
  have h1 := Ln.span_pow h.good.2
  have h2 := h.le
  refine ⟨by rw [h.len]; exact h1, ?_, ?_⟩
  · rcases Nat.lt_or_ge t.span 7 with h3 | h3
    · omega
    · have := Nat.pow_le_pow_right (show 0 < 2 by omega) h3
      omega
  · rw [h.len]
    cases t with
    | nil => simp [Ln.T.span, Ln.T.size]
    | node x l r => simp [Ln.T.span, Ln.T.size]
theorem LG.least {L : List Nd} {x : Ln.It} {l r : Ln.T Ln.It} (h : LG L (.node x l r)) : ∀ y, y ∈ (Ln.T.node x l r).items → x.1 ≤ y.1 := fun y hy => Ln.least h.good.1 y hy
/-- two heaps of the same items have the same least key -/
theorem LG.same {a b : List Nd} {s t : Ln.T Ln.It} (ha : LG a s) (hb : LG b t) (hp : s.items.Perm t.items) (hne : a ≠ []) : (lf a 0).1 = (lf b 0).1 := by
  have hl : s.size = t.size := by rw [← Ln.T.items_len, ← Ln.T.items_len]; exact hp.length_eq
  cases s with
  | nil => exact absurd ha.list hne
  | node x l r =>
    cases t with
    | nil => simp [Ln.T.size] at hl
    | node y l' r' =>
      rw [ha.rootKey, hb.rootKey]
      have h1 := ha.least y (hp.mem_iff.2 (by simp [Ln.T.items]))
      have h2 := hb.least x (hp.mem_iff.1 (by simp [Ln.T.items]))
      omega
theorem ser_inj {s t : Ln.T Ln.It} {a b : List Nd} (ha : LG a s) (hb : LG b t) (h : s = t) : a = b := by rw [ha.list, hb.list, h]
end Rk
