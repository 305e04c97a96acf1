/- Plain law: the document's way to read a leaning heap, from the end on; parts of a list of nodes. No program in sight. -/
import Derived.Test.YtlocmbnbfjonbaaDoorLnG
namespace Rk.Ln
open Rk
/-- a node's tree at every place of a right list -/
theorem sub_at {L : List Nd} : ∀ (t : T It) (a i : Nat), At L a t → Good kI t → a ≤ i → i < a + t.size → ∃ x l r, At L i (.node x l r) ∧ Good kI (.node x l r) := by
  intro t
  induction t with
  | nil => intro a i _ _ h1 h2; simp [T.size] at h2; omega
  | node x l r hl hr =>
    intro a i ha hg h1 h2
    obtain ⟨h0, _, h3, h4⟩ := ha.node
    simp only [T.size] at h2
    by_cases e : i = a
    · subst e; exact ⟨x, l, r, ha, hg⟩
    · by_cases e2 : i < a + 1 + l.size
      · exact hl (a + 1) i h3 hg.left (by omega) (by omega)
      · exact hr (a + 1 + l.size) i h4 hg.right (by omega) (by omega)
theorem at_uniq {L : List Nd} {i : Nat} {s t : T It} (hs : At L i s) (ht : At L i t) (gs : Good kI s) (gt : Good kI t) (ns : s.isNil = false) (nt : t.isNil = false) : s = t := by
  have h1 := bld_ok s (s.size + t.size) i (by omega) ns hs gs
  have h2 := bld_ok t (s.size + t.size) i (by omega) nt ht gt
  rw [h1] at h2
  injection h2
theorem all_at {L : List Nd} {t : T It} (h : rdT L = some t) {i : Nat} (hi : i < L.length) : ∃ x l r, At L i (.node x l r) ∧ Good kI (.node x l r) := by
  obtain ⟨h1, h2⟩ := rdT_some h
  have hs : t.size = L.length := by rw [h1, ser_len]
  refine sub_at t 0 i ?_ h2 (Nat.zero_le _) (by omega)
  rw [h1]; exact ser_at t
theorem rd_of {L : List Nd} {t : T It} (h0 : L ≠ []) (h1 : At L 0 t) (h2 : Good kI t) (hn : t.isNil = false) (h3 : t.size = L.length) : rdT L = some t := by
  unfold rdT
  rw [if_neg h0, bld_ok t _ 0 (by omega) hn h1 h2]
  simp only [h3, if_true]
/-- what a node's place tells of its left part -/
theorem left_is {L : List Nd} {i : Nat} {x : It} {l r : T It} (h : At L i (.node x l r)) (hg : Good kI (.node x l r)) {y : Nd} (hy : L.getD i nd0 = y) :
    y.1 = x.1 ∧ y.2.1 = x.2 ∧ (y.2.2.1 = -1 ∧ l = .nil ∨ y.2.2.1 = ((i + 1 : Nat) : Int) ∧ l.isNil = false ∧ i + 1 < L.length ∧ y.1 ≤ (L.getD (i + 1) nd0).1 ∧ At L (i + 1) l ∧ Good kI l) := by
  obtain ⟨_, h1, h2, _⟩ := h.node
  rw [hy] at h1
  subst h1
  refine ⟨rfl, rfl, ?_⟩
  cases l with
  | nil => exact .inl ⟨rfl, rfl⟩
  | node z l1 l2 =>
    obtain ⟨h3, h4, _⟩ := h2.node
    exact .inr ⟨rfl, rfl, h3, by rw [h4]; exact hg.1.1, h2, hg.left⟩
theorem right_is {L : List Nd} {i : Nat} {x : It} {l r : T It} (h : At L i (.node x l r)) (hg : Good kI (.node x l r)) {y : Nd} (hy : L.getD i nd0 = y) :
    (y.2.2.2 = -1 ∧ r = .nil ∨ y.2.2.2 = ((i + 1 + l.size : Nat) : Int) ∧ r.isNil = false ∧ i + 1 + l.size < L.length ∧ y.1 ≤ (L.getD (i + 1 + l.size) nd0).1 ∧ At L (i + 1 + l.size) r ∧ Good kI r) ∧ r.span ≤ l.span := by
  obtain ⟨_, h1, _, h2⟩ := h.node
  rw [hy] at h1
  subst h1
  refine ⟨?_, hg.2.1⟩
  cases r with
  | nil => exact .inl ⟨rfl, rfl⟩
  | node z l1 l2 =>
    obtain ⟨h3, h4, _⟩ := h2.node
    exact .inr ⟨rfl, rfl, h3, by rw [h4]; exact hg.1.2.1, h2, hg.right⟩
/-- a node made of its parts -/
theorem node_is {L : List Nd} {i : Nat} {y : Nd} {l r : T It} (hi : i < L.length) (hy : L.getD i nd0 = y) (hl : y.2.2.1 = -1 ∧ l = .nil ∨ y.2.2.1 = ((i + 1 : Nat) : Int) ∧ l.isNil = false ∧ y.1 ≤ (L.getD (i + 1) nd0).1)
    (hr : y.2.2.2 = -1 ∧ r = .nil ∨ y.2.2.2 = ((i + 1 + l.size : Nat) : Int) ∧ r.isNil = false ∧ y.1 ≤ (L.getD (i + 1 + l.size) nd0).1) (al : At L (i + 1) l) (ar : At L (i + 1 + l.size) r) (gl : Good kI l) (gr : Good kI r) (hs : r.span ≤ l.span) :
    At L i (.node (y.1, y.2.1) l r) ∧ Good kI (.node (y.1, y.2.1) l r) := by
  have key : ∀ {j : Nat} {t : T It}, At L j t → t.isNil = false → y.1 ≤ (L.getD j nd0).1 → Ge kI y.1 t := by
    intro j t ha hn hk
    cases t with
    | nil => trivial
    | node z l1 l2 =>
      obtain ⟨_, h4, _⟩ := ha.node
      rw [h4] at hk
      exact hk
  refine ⟨At.mk hi ?_ al ar, ⟨?_, ?_, gl.1, gr.1⟩, ⟨hs, gl.2, gr.2⟩⟩
  · rw [hy]
    obtain ⟨y1, y2, y3, y4⟩ := y
    dsimp only at hl hr
    have e1 : y3 = if l.isNil = true then -1 else ((i + 1 : Nat) : Int) := by
      rcases hl with ⟨h1, h2⟩ | ⟨h1, h2, _⟩
      · rw [h2, h1]; rfl
      · rw [h2, h1]; rfl
    have e2 : y4 = if r.isNil = true then -1 else ((i + 1 + l.size : Nat) : Int) := by
      rcases hr with ⟨h1, h2⟩ | ⟨h1, h2, _⟩
      · rw [h2, h1]; rfl
      · rw [h2, h1]; rfl
    rw [e1, e2]
  · rcases hl with ⟨_, h2⟩ | ⟨_, h2, h3⟩
    · rw [h2]; trivial
    · exact key al h2 h3
  · rcases hr with ⟨_, h2⟩ | ⟨_, h2, h3⟩
    · rw [h2]; trivial
    · exact key ar h2 h3
/-- places counted from another beginning -/
def shift (d : Int) (x : Nd) : Nd := (x.1, x.2.1, (if x.2.2.1 = -1 then -1 else x.2.2.1 + d), (if x.2.2.2 = -1 then -1 else x.2.2.2 + d))
theorem shift_ser (t : T It) (a : Nat) (d : Int) (b : Nat) (h : (a : Int) + d = b) : (ser t a).map (shift d) = ser t b := by
  induction t generalizing a b with
  | nil => rfl
  | node x l r hl hr =>
    simp only [ser, List.map_cons, List.map_append]
    rw [hl (a + 1) (b + 1) (by omega), hr (a + 1 + l.size) (b + 1 + l.size) (by omega)]
    congr 1
    unfold shift
    dsimp only
    congr 1
    congr 1
    congr 1
    · cases l with
      | nil => rfl
      | node => simp only [T.isNil, Bool.false_eq_true, if_false]; rw [if_neg (by omega)]; omega
    · cases r with
      | nil => rfl
      | node => simp only [T.isNil, Bool.false_eq_true, if_false]; rw [if_neg (by omega)]; omega
theorem shift_zero (L : List Nd) : L.map (shift 0) = L := by
  have : shift 0 = id := by
    funext x
    obtain ⟨a, b, c, d⟩ := x
    unfold shift
    dsimp only
    congr 1
    congr 1
    congr 1
    · split
      · rename_i h; exact h.symm
      · omega
    · split
      · rename_i h; exact h.symm
      · omega
  rw [this, List.map_id]
/-- the left and the right part of a right list -/
theorem parts_node (x : It) (l r : T It) : (((ser (.node x l r) 0).drop 1).take l.size).map (shift (-1)) = ser l 0 ∧ ((ser (.node x l r) 0).drop (1 + l.size)).map (shift (-(1 + l.size : Nat))) = ser r 0 := by
  constructor
  · simp only [ser, List.drop_succ_cons, List.drop_zero]
    rw [List.take_append_of_le_length (by rw [ser_len]; exact Nat.le_refl _), List.take_of_length_le (by rw [ser_len]; exact Nat.le_refl _)]
    exact shift_ser l (0 + 1) (-1) 0 (by omega)
  · rw [Nat.add_comm 1 l.size]
    simp only [ser, List.drop_succ_cons]
    rw [List.drop_append_of_le_length (by rw [ser_len]; exact Nat.le_refl _), List.drop_of_length_le (by rw [ser_len]; exact Nat.le_refl _), List.nil_append]
    exact shift_ser r (0 + 1 + l.size) _ 0 (by omega)
/-- a tree made of an item and two lists -/
theorem tree_list (x : It) (l r : T It) : ser (.node x l r) 0 = (x.1, x.2, (if l.isNil then -1 else 1), (if r.isNil then -1 else ((1 + l.size : Nat) : Int))) :: ((ser l 0).map (shift 1) ++ (ser r 0).map (shift ((1 + l.size : Nat) : Int))) := by
  simp only [ser]
  rw [shift_ser l 0 1 1 (by omega), shift_ser r 0 _ (1 + l.size) (by omega), Nat.zero_add]
  rfl
end Rk.Ln
