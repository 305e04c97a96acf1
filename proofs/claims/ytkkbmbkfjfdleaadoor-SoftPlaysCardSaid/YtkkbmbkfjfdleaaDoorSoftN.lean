/- The plain law of soft heaps: filling, step by step, with what a walk asks. -/
import Derived.Test.YtkkbmbkfjfdleaaDoorSoftR
namespace Sf
inductive FillN : Nat → T → T → Prop
  | stop {k : Int} {rk wt : Nat} {its : List It} {l r : T} (h : ¬ (its.length < wt ∧ (l.isNil && r.isNil) = false)) : FillN 0 (.node k rk wt its l r) (.node k rk wt its l r)
  | leaf {n : Nat} {k : Int} {rk wt : Nat} {its : List It} {l r t : T} (h : its.length < wt) (hn : (l.isNil && r.isNil) = false) (hl : (fst l r).leaf = true) (hi : (fst l r).items ≠ []) (hb : its.length + (fst l r).items.length ≤ 1000)
      (ht : FillN n (.node (fst l r).key rk wt (its ++ (fst l r).items) .nil (snd l r)) t) : FillN (n + 1) (.node k rk wt its l r) t
  | deep {m n : Nat} {k : Int} {rk wt : Nat} {its : List It} {l r a t : T} (h : its.length < wt) (hn : (l.isNil && r.isNil) = false) (hl : (fst l r).leaf = false) (hi : (fst l r).items ≠ []) (hb : its.length + (fst l r).items.length ≤ 1000)
      (ha : FillN m ((fst l r).setItems []) a) (ht : FillN n (.node (fst l r).key rk wt (its ++ (fst l r).items) a (snd l r)) t) : FillN (m + n + 1) (.node k rk wt its l r) t
theorem all_fst {k : Int} {rk wt : Nat} {its : List It} {l r : T} (hn : (l.isNil && r.isNil) = false) : its.length + (fst l r).all.length ≤ (T.node k rk wt its l r).all.length ∧ (fst l r).items.length + ((fst l r).setItems []).all.length = (fst l r).all.length := by
  obtain ⟨h1, h2, h3⟩ := fst_snd hn
  constructor
  · simp only [T.all, List.length_append]
    rcases h3 with ⟨e1, e2⟩ | ⟨e1, e2⟩ <;> rw [e1] <;> omega
  · rw [all_set _ h1, List.length_append]
theorem leaf_set {t : T} (h : t.leaf = true) : (t.setItems []).all = [] := by
  cases t with
  | nil => rfl
  | node k rk wt its l r =>
    have := leaf_all (t := T.node k rk wt [] l r) h
    exact this
theorem fillN_of {t t' : T} (h : Fill t t') : ∀ {k : Int} {rk wt : Nat} {its : List It} {l r : T}, t = .node k rk wt its l r → Ok0 k rk wt its l r → t.all.length ≤ 1000 → ∃ n, FillN n t t' := by
  induction h with
  | stop h => intro _ _ _ _ _ _ _ _ _; exact ⟨0, .stop h⟩
  | @leaf k rk wt its l r t h hn hl ht ih =>
    intro _ _ _ _ _ _ e h0 hs
    cases e
    obtain ⟨h1, h2, h3⟩ := fst_snd hn
    have hfo : Ok (fst l r) := by
      rcases h3 with ⟨e1, e2⟩ | ⟨e1, e2⟩
      · rw [e1]; exact h0.left
      · rw [e1]; exact h0.right
    have P := next_perm (k := k) (k' := (fst l r).key) (rk := rk) (wt := wt) (its := its) (a := .nil) hn (by rw [leaf_set hl]; exact .refl _) (Nat.zero_le _)
    obtain ⟨n, hn'⟩ := ih rfl (h0.next hn (.inl rfl)) (by rw [P.1.length_eq]; exact hs)
    have A := all_fst (k := k) (rk := rk) (wt := wt) (its := its) hn
    exact ⟨n + 1, .leaf h hn hl (hfo.items_ne h1) (by omega) hn'⟩
  | @deep k rk wt its l r a t h hn hl ha ht iha ih =>
    intro _ _ _ _ _ _ e h0 hs
    cases e
    obtain ⟨h1, h2, h3⟩ := fst_snd hn
    have hfo : Ok (fst l r) ∧ (fst l r).rank + 1 = rk := by
      rcases h3 with ⟨e1, e2⟩ | ⟨e1, e2⟩
      · rw [e1] at h1 ⊢; exact ⟨h0.left, h0.rl.resolve_left h1⟩
      · rw [e1] at h1 ⊢; exact ⟨h0.right, h0.rr.resolve_left h1⟩
    have A := all_fst (k := k) (rk := rk) (wt := wt) (its := its) hn
    obtain ⟨k1, rk1, wt1, its1, l1, r1, e1, g1⟩ := Ok0.empty hfo.1 hl
    obtain ⟨m, hm⟩ := iha (by rw [e1]; rfl) g1 (by omega)
    have G := fill_is ha (by rw [e1]; rfl) g1
    have hkey : (fst l r).key ≤ a.key := by
      have g := hfo.1
      rw [e1] at g
      have := G.low k1 (by rw [e1]; intro h; exact absurd rfl h) (by rw [e1]; exact g.2.2.2.1.imp id (·.1)) (by rw [e1]; exact g.2.2.2.2.1.imp id (·.1))
      rw [e1]; exact this
    have hrk : a.rank + 1 = rk := by
      have := G.rank
      rw [e1] at this
      have h9 := hfo.2
      rw [e1] at h9
      rw [this]; exact h9
    have P := next_perm (k := k) (k' := (fst l r).key) (rk := rk) (wt := wt) (its := its) (a := a) hn G.perm G.pot
    obtain ⟨n, hn'⟩ := ih rfl (h0.next hn (.inr ⟨hkey, hrk, G.ok⟩)) (by rw [P.1.length_eq]; exact hs)
    exact ⟨m + n + 1, .deep h hn hl (hfo.1.items_ne h1) (by omega) hm hn'⟩
theorem FillN.node {n : Nat} {t t' : T} (h : FillN n t t') : ∃ k rk wt its l r, t = .node k rk wt its l r := by cases h <;> exact ⟨_, _, _, _, _, _, rfl⟩
theorem FillN.ne {n : Nat} {t t' : T} (h : FillN n t t') : t' ≠ .nil := by
  induction h with
  | stop => simp
  | leaf _ _ _ _ _ _ ih => exact ih
  | deep _ _ _ _ _ _ _ _ ih => exact ih
/-- one round: done, or the first child's items become the node's own -/
theorem FillN.round {n : Nat} {k : Int} {rk wt : Nat} {its : List It} {l r t : T} (h : FillN n (.node k rk wt its l r) t) :
    (¬ (its.length < wt ∧ (l.isNil && r.isNil) = false) ∧ t = .node k rk wt its l r) ∨ (its.length < wt ∧ (l.isNil && r.isNil) = false ∧ fst l r ≠ .nil ∧ (fst l r).items ≠ [] ∧ its.length + (fst l r).items.length ≤ 1000 ∧
      (((fst l r).leaf = true ∧ ∃ m, m < n ∧ FillN m (.node (fst l r).key rk wt (its ++ (fst l r).items) .nil (snd l r)) t) ∨
       ((fst l r).leaf = false ∧ ∃ m1 m2 a, m1 < n ∧ m2 < n ∧ FillN m1 ((fst l r).setItems []) a ∧ FillN m2 (.node (fst l r).key rk wt (its ++ (fst l r).items) a (snd l r)) t))) := by
  cases h with
  | stop h => exact .inl ⟨h, rfl⟩
  | leaf h hn hl hi hb ht => exact .inr ⟨h, hn, (fst_snd hn).1, hi, hb, .inl ⟨hl, _, Nat.lt_succ_self _, ht⟩⟩
  | deep h hn hl hi hb ha ht => exact .inr ⟨h, hn, (fst_snd hn).1, hi, hb, .inr ⟨hl, _, _, _, by omega, by omega, ha, ht⟩⟩
end Sf
