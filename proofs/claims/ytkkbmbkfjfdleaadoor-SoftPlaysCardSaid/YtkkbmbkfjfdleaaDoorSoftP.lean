/- The plain law of soft heaps: trees, how a node is filled, what is kept. -/
namespace Sf
abbrev It := Int × Int
inductive T where
  | nil : T
  | node (key : Int) (rank want : Nat) (items : List It) (l r : T) : T
namespace T
def isNil : T → Bool
  | nil => true
  | node .. => false
def key : T → Int
  | nil => 0
  | node k _ _ _ _ _ => k
def rank : T → Nat
  | nil => 0
  | node _ r _ _ _ _ => r
def want : T → Nat
  | nil => 0
  | node _ _ n _ _ _ => n
def items : T → List It
  | nil => []
  | node _ _ _ i _ _ => i
def left : T → T
  | nil => nil
  | node _ _ _ _ l _ => l
def right : T → T
  | nil => nil
  | node _ _ _ _ _ r => r
def leaf (t : T) : Bool := t.left.isNil && t.right.isNil
def setItems : T → List It → T
  | nil, _ => nil
  | node k r n _ x y, i => node k r n i x y
def all : T → List It
  | nil => []
  | node _ _ _ i l r => i ++ (l.all ++ r.all)
def size : T → Nat
  | nil => 0
  | node _ _ _ _ l r => l.size + r.size + 1
def wrong : T → Nat
  | nil => 0
  | node k _ _ i l r => (i.filter fun x => decide (x.1 ≠ k)).length + (l.wrong + r.wrong)
def pot : T → Nat
  | nil => 0
  | node _ _ _ i l r => i.length + (l.pot + l.all.length) + (r.pot + r.all.length)
theorem isNil_iff (t : T) : t.isNil = true ↔ t = nil := by cases t <;> simp [isNil]
theorem isNil_no (t : T) : t.isNil = false ↔ t ≠ nil := by cases t <;> simp [isNil]
end T
/-- the child that comes first, and the other -/
def swaps (l r : T) : Bool := l.isNil || (!r.isNil && decide (r.key < l.key))
def fst (l r : T) : T := if swaps l r then r else l
def snd (l r : T) : T := if swaps l r then l else r
/-- a node is filled from below -/
inductive Fill : T → T → Prop
  | stop {k : Int} {rk wt : Nat} {its : List It} {l r : T} (h : ¬ (its.length < wt ∧ (l.isNil && r.isNil) = false)) : Fill (.node k rk wt its l r) (.node k rk wt its l r)
  | leaf {k : Int} {rk wt : Nat} {its : List It} {l r t : T} (h : its.length < wt) (hn : (l.isNil && r.isNil) = false) (hl : (fst l r).leaf = true)
      (ht : Fill (.node (fst l r).key rk wt (its ++ (fst l r).items) .nil (snd l r)) t) : Fill (.node k rk wt its l r) t
  | deep {k : Int} {rk wt : Nat} {its : List It} {l r a t : T} (h : its.length < wt) (hn : (l.isNil && r.isNil) = false) (hl : (fst l r).leaf = false)
      (ha : Fill ((fst l r).setItems []) a) (ht : Fill (.node (fst l r).key rk wt (its ++ (fst l r).items) a (snd l r)) t) : Fill (.node k rk wt its l r) t
/-- what holds of a tree that waits -/
def Ok : T → Prop
  | .nil => True
  | .node k rk wt its l r => its ≠ [] ∧ 1 ≤ wt ∧ (∀ x ∈ its, x.1 ≤ k) ∧ (l = .nil ∨ (k ≤ l.key ∧ l.rank + 1 = rk)) ∧ (r = .nil ∨ (k ≤ r.key ∧ r.rank + 1 = rk)) ∧ Ok l ∧ Ok r
/-- what holds of a node that is to be filled -/
structure Ok0 (k : Int) (rk wt : Nat) (its : List It) (l r : T) : Prop where
  want : 1 ≤ wt
  own : its ≠ [] → (∀ x ∈ its, x.1 ≤ k) ∧ (l = .nil ∨ k ≤ l.key) ∧ (r = .nil ∨ k ≤ r.key)
  some_ : its ≠ [] ∨ (l.isNil && r.isNil) = false
  rl : l = .nil ∨ l.rank + 1 = rk
  rr : r = .nil ∨ r.rank + 1 = rk
  left : Ok l
  right : Ok r
theorem fst_snd {l r : T} (hn : (l.isNil && r.isNil) = false) : (fst l r ≠ .nil) ∧ (snd l r = .nil ∨ (fst l r).key ≤ (snd l r).key) ∧ ((fst l r = l ∧ snd l r = r) ∨ (fst l r = r ∧ snd l r = l)) := by
  unfold fst snd swaps
  cases l with
  | nil => cases r with
    | nil => simp [T.isNil] at hn
    | node => simp [T.isNil]
  | node k1 =>
    cases r with
    | nil => simp [T.isNil]
    | node k2 =>
      by_cases h : k2 < k1
      · simp [T.isNil, T.key, h]; omega
      · simp [T.isNil, T.key, h]; omega
theorem Ok.items_ne {t : T} (h : Ok t) (hn : t ≠ .nil) : t.items ≠ [] := by
  cases t with
  | nil => exact absurd rfl hn
  | node => exact h.1
theorem Ok0.empty {t : T} (h : Ok t) (hl : t.leaf = false) : ∃ k rk wt its l r, t = .node k rk wt its l r ∧ Ok0 k rk wt [] l r := by
  cases t with
  | nil => simp [T.leaf, T.left, T.right, T.isNil] at hl
  | node k rk wt its l r =>
    obtain ⟨h1, h2, h3, h4, h5, h6, h7⟩ := h
    exact ⟨k, rk, wt, its, l, r, rfl, ⟨h2, fun h => absurd rfl h, .inr hl, h4.imp id (·.2), h5.imp id (·.2), h6, h7⟩⟩
/-- what comes of a node that is filled -/
structure Filled (t t' : T) : Prop where
  ok : Ok t'
  ne : t' ≠ .nil
  rank : t'.rank = t.rank
  want : t'.want = t.want
  perm : t'.all.Perm t.all
  low : ∀ m : Int, (t.items ≠ [] → m ≤ t.key) → (t.left = .nil ∨ m ≤ t.left.key) → (t.right = .nil ∨ m ≤ t.right.key) → m ≤ t'.key
  pot : t'.pot ≤ t.pot
  full : t'.want ≤ t'.items.length ∨ t'.leaf = true
/-- the node once the first child's items are its own -/
theorem Ok0.next {k : Int} {rk wt : Nat} {its : List It} {l r a : T} (h : Ok0 k rk wt its l r) (hn : (l.isNil && r.isNil) = false)
    (ha : a = .nil ∨ ((fst l r).key ≤ a.key ∧ a.rank + 1 = rk ∧ Ok a)) : Ok0 (fst l r).key rk wt (its ++ (fst l r).items) a (snd l r) := by
  obtain ⟨h1, h2, h3⟩ := fst_snd hn
  have hf : Ok (fst l r) ∧ Ok (snd l r) ∧ (snd l r = .nil ∨ (snd l r).rank + 1 = rk) ∧ (its ≠ [] → ∀ x ∈ its, x.1 ≤ (fst l r).key) := by
    rcases h3 with ⟨e1, e2⟩ | ⟨e1, e2⟩
    · refine ⟨by rw [e1]; exact h.left, by rw [e2]; exact h.right, by rw [e2]; exact h.rr, fun hi x hx => ?_⟩
      obtain ⟨g1, g2, g3⟩ := h.own hi
      rw [e1] at h1 ⊢
      have := g1 x hx
      rcases g2 with g2 | g2
      · exact absurd g2 h1
      · omega
    · refine ⟨by rw [e1]; exact h.right, by rw [e2]; exact h.left, by rw [e2]; exact h.rl, fun hi x hx => ?_⟩
      obtain ⟨g1, g2, g3⟩ := h.own hi
      rw [e1] at h1 ⊢
      have := g1 x hx
      rcases g3 with g3 | g3
      · exact absurd g3 h1
      · omega
  obtain ⟨hf1, hf2, hf3, hf4⟩ := hf
  have hi := hf1.items_ne h1
  refine ⟨h.want, fun _ => ⟨fun x hx => ?_, ha.imp id (·.1), h2⟩, .inl (by simp [hi]), ha.imp id (·.2.1), hf3, ?_, hf2⟩
  · rcases List.mem_append.1 hx with hx | hx
    · exact hf4 (List.ne_nil_of_mem hx) x hx
    · revert hf1 hx
      cases fst l r with
      | nil => intro _ hx; cases hx
      | node => intro hf1 hx; exact hf1.2.2.1 x hx
  · rcases ha with rfl | ha
    · trivial
    · exact ha.2.2
theorem all_set (t : T) (h : t ≠ .nil) : t.all = t.items ++ (t.setItems []).all := by
  cases t with
  | nil => exact absurd rfl h
  | node => rfl
theorem pot_set (t : T) : t.pot = t.items.length + (t.setItems []).pot := by
  cases t with
  | nil => rfl
  | node k rk wt its l r => simp [T.pot, T.items, T.setItems]; omega
theorem leaf_all {t : T} (h : t.leaf = true) : t.all = t.items := by
  cases t with
  | nil => rfl
  | node k rk wt its l r =>
    simp only [T.leaf, T.left, T.right, Bool.and_eq_true, T.isNil_iff] at h
    obtain ⟨rfl, rfl⟩ := h
    simp [T.all, T.items]
/-- items and weight of the node once the first child's items are its own -/
theorem next_perm {k k' : Int} {rk wt : Nat} {its : List It} {l r a : T} (hn : (l.isNil && r.isNil) = false) (ha : a.all.Perm ((fst l r).setItems []).all) (hp : a.pot ≤ ((fst l r).setItems []).pot) :
    (T.node k' rk wt (its ++ (fst l r).items) a (snd l r)).all.Perm (T.node k rk wt its l r).all ∧ (T.node k' rk wt (its ++ (fst l r).items) a (snd l r)).pot + (fst l r).items.length ≤ (T.node k rk wt its l r).pot := by
  obtain ⟨h1, h2, h3⟩ := fst_snd hn
  have e := all_set _ h1
  have e2 := pot_set (fst l r)
  have hl := ha.length_eq
  constructor
  · simp only [T.all]
    rw [List.append_assoc]
    refine List.Perm.append_left its ?_
    have : ((fst l r).items ++ (a.all ++ (snd l r).all)).Perm ((fst l r).all ++ (snd l r).all) := by
      rw [← List.append_assoc]
      refine List.Perm.append_right _ ?_
      rw [e]
      exact List.Perm.append_left _ ha
    refine this.trans ?_
    rcases h3 with ⟨e1, e2⟩ | ⟨e1, e2⟩
    · rw [e1, e2]
    · rw [e1, e2]; exact List.perm_append_comm
  · simp only [T.pot, List.length_append]
    have e3 : (fst l r).all.length = (fst l r).items.length + ((fst l r).setItems []).all.length := by rw [e, List.length_append]
    rcases h3 with ⟨e1, e4⟩ | ⟨e1, e4⟩
    · rw [e4]; rw [e1] at hl e2 e3 hp ⊢; omega
    · rw [e4]; rw [e1] at hl e2 e3 hp ⊢; omega
theorem fill_is {t t' : T} (h : Fill t t') : ∀ {k : Int} {rk wt : Nat} {its : List It} {l r : T}, t = .node k rk wt its l r → Ok0 k rk wt its l r → Filled t t' := by
  induction h with
  | @stop k rk wt its l r h =>
    intro _ _ _ _ _ _ e h0
    cases e
    have hi : its ≠ [] := by
      rcases h0.some_ with h1 | h1
      · exact h1
      · intro e
        subst e
        have := h0.want
        exact h ⟨by simp; omega, h1⟩
    obtain ⟨g1, g2, g3⟩ := h0.own hi
    refine ⟨⟨hi, h0.want, g1, ?_, ?_, h0.left, h0.right⟩, by simp, rfl, rfl, .refl _, fun m hm _ _ => hm hi, Nat.le_refl _, ?_⟩
    · rcases g2 with g2 | g2
      · exact .inl g2
      · exact h0.rl.imp id fun e => ⟨g2, e⟩
    · rcases g3 with g3 | g3
      · exact .inl g3
      · exact h0.rr.imp id fun e => ⟨g3, e⟩
    · simp only [T.want, T.items]
      by_cases h2 : its.length < wt
      · right
        cases hh : (l.isNil && r.isNil) with
        | true => exact hh
        | false => exact absurd ⟨h2, hh⟩ h
      · left; omega
  | @leaf k rk wt its l r t h hn hl ht ih =>
    intro _ _ _ _ _ _ e h0
    cases e
    obtain ⟨h1, h2, h3⟩ := fst_snd hn
    have F := ih rfl (h0.next hn (.inl rfl))
    have hz : ((fst l r).setItems []).all = [] := by
      have e1 := leaf_all hl
      have e2 := all_set _ h1
      rw [e1] at e2
      have := congrArg List.length e2
      rw [List.length_append] at this
      exact List.eq_nil_of_length_eq_zero (by omega)
    have P := next_perm (k := k) (k' := (fst l r).key) (rk := rk) (wt := wt) (its := its) (a := .nil) hn (by rw [hz]; exact .refl _) (Nat.zero_le _)
    refine ⟨F.ok, F.ne, F.rank, F.want, F.perm.trans P.1, fun m hm1 hm2 hm3 => F.low m (fun _ => ?_) (.inl rfl) ?_, Nat.le_trans F.pot (by have := P.2; omega), F.full⟩
    · show m ≤ (fst l r).key
      rcases h3 with ⟨e1, e2⟩ | ⟨e1, e2⟩
      · rw [e1] at h1 ⊢; exact hm2.resolve_left h1
      · rw [e1] at h1 ⊢; exact hm3.resolve_left h1
    · show snd l r = .nil ∨ m ≤ (snd l r).key
      rcases h3 with ⟨e1, e2⟩ | ⟨e1, e2⟩
      · rw [e2]; exact hm3
      · rw [e2]; exact hm2
  | @deep k rk wt its l r a t h hn hl ha ht iha ih =>
    intro _ _ _ _ _ _ e h0
    cases e
    obtain ⟨h1, h2, h3⟩ := fst_snd hn
    have hfo : Ok (fst l r) ∧ (fst l r).rank + 1 = rk := by
      rcases h3 with ⟨e1, e2⟩ | ⟨e1, e2⟩
      · rw [e1] at h1 ⊢; exact ⟨h0.left, h0.rl.resolve_left h1⟩
      · rw [e1] at h1 ⊢; exact ⟨h0.right, h0.rr.resolve_left h1⟩
    obtain ⟨k1, rk1, wt1, its1, l1, r1, e1, g1⟩ := Ok0.empty hfo.1 hl
    have G := iha (by rw [e1]; rfl) g1
    have hkey : (fst l r).key ≤ a.key := by
      have g := hfo.1
      rw [e1] at g
      have := G.low k1 (by rw [e1]; intro h; exact absurd rfl h) (by rw [e1]; exact g.2.2.2.1.imp id (·.1)) (by rw [e1]; exact g.2.2.2.2.1.imp id (·.1))
      rw [e1]; exact this
    have hrk : a.rank + 1 = rk := by
      have := G.rank
      rw [e1] at this
      have h9 := hfo.2
      rw [e1] at h9
      rw [this]; exact h9
    have F := ih rfl (h0.next hn (.inr ⟨hkey, hrk, G.ok⟩))
    have P := next_perm (k := k) (k' := (fst l r).key) (rk := rk) (wt := wt) (its := its) (a := a) hn G.perm G.pot
    refine ⟨F.ok, F.ne, F.rank, F.want, F.perm.trans P.1, fun m hm1 hm2 hm3 => ?_, Nat.le_trans F.pot (by have := P.2; omega), F.full⟩
    have hmf : m ≤ (fst l r).key := by
      rcases h3 with ⟨e1, e2⟩ | ⟨e1, e2⟩
      · rw [e1] at h1 ⊢; exact hm2.resolve_left h1
      · rw [e1] at h1 ⊢; exact hm3.resolve_left h1
    refine F.low m (fun _ => hmf) (.inr (Int.le_trans hmf hkey)) ?_
    show snd l r = .nil ∨ m ≤ (snd l r).key
    rcases h3 with ⟨e1, e2⟩ | ⟨e1, e2⟩
    · rw [e2]; exact hm3
    · rw [e2]; exact hm2
/-- filling comes to an end -/
theorem fill_ex (n : Nat) : ∀ {k : Int} {rk wt : Nat} {its : List It} {l r : T}, (T.node k rk wt its l r).pot ≤ n → Ok0 k rk wt its l r → ∃ t', Fill (.node k rk wt its l r) t' := by
  induction n with
  | zero =>
    intro k rk wt its l r hp h0
    exfalso
    simp only [T.pot] at hp
    rcases h0.some_ with h1 | h1
    · exact h1 (List.eq_nil_of_length_eq_zero (by omega))
    · obtain ⟨g1, g2, g3⟩ := fst_snd h1
      have hz : l.all.length = 0 ∧ r.all.length = 0 := by omega
      have : Ok (fst l r) ∧ (fst l r).all.length = 0 := by
        rcases g3 with ⟨e1, e2⟩ | ⟨e1, e2⟩
        · rw [e1]; exact ⟨h0.left, hz.1⟩
        · rw [e1]; exact ⟨h0.right, hz.2⟩
      have h9 := this.1.items_ne g1
      have e := all_set _ g1
      have := this.2
      rw [e, List.length_append] at this
      exact h9 (List.eq_nil_of_length_eq_zero (by omega))
  | succ n ih =>
    intro k rk wt its l r hp h0
    by_cases hc : its.length < wt ∧ (l.isNil && r.isNil) = false
    · obtain ⟨h, hn⟩ := hc
      obtain ⟨h1, h2, h3⟩ := fst_snd hn
      have hfo : Ok (fst l r) ∧ (fst l r).rank + 1 = rk := by
        rcases h3 with ⟨e1, e2⟩ | ⟨e1, e2⟩
        · rw [e1] at h1 ⊢; exact ⟨h0.left, h0.rl.resolve_left h1⟩
        · rw [e1] at h1 ⊢; exact ⟨h0.right, h0.rr.resolve_left h1⟩
      have hi : 0 < (fst l r).items.length := List.length_pos_iff.2 (hfo.1.items_ne h1)
      cases hl : (fst l r).leaf with
      | true =>
        have hz : ((fst l r).setItems []).all = [] := by
          have e1 := leaf_all hl
          have e2 := all_set _ h1
          rw [e1] at e2
          have := congrArg List.length e2
          rw [List.length_append] at this
          exact List.eq_nil_of_length_eq_zero (by omega)
        have P := next_perm (k := k) (k' := (fst l r).key) (rk := rk) (wt := wt) (its := its) (a := .nil) hn (by rw [hz]; exact .refl _) (Nat.zero_le _)
        obtain ⟨t, ht⟩ := ih (by have := P.2; omega) (h0.next hn (.inl rfl))
        exact ⟨t, .leaf h hn hl ht⟩
      | false =>
        obtain ⟨k1, rk1, wt1, its1, l1, r1, e1, g1⟩ := Ok0.empty hfo.1 hl
        have hp1 : ((fst l r).setItems []).pot ≤ n := by
          have e2 := pot_set (fst l r)
          have e3 : (fst l r).pot ≤ (T.node k rk wt its l r).pot := by
            simp only [T.pot]
            rcases h3 with ⟨e1, e2⟩ | ⟨e1, e2⟩
            · rw [e1]; omega
            · rw [e1]; omega
          omega
        obtain ⟨a, ha⟩ := ih (k := k1) (rk := rk1) (wt := wt1) (its := []) (l := l1) (r := r1) (by rw [e1] at hp1; exact hp1) g1
        have ha' : Fill ((fst l r).setItems []) a := by rw [e1]; exact ha
        have G := fill_is ha rfl g1
        have hkey : (fst l r).key ≤ a.key := by
          have g := hfo.1
          rw [e1] at g
          have := G.low k1 (fun h => absurd rfl h) (g.2.2.2.1.imp id (·.1)) (g.2.2.2.2.1.imp id (·.1))
          rw [e1]; exact this
        have hrk : a.rank + 1 = rk := by
          have h9 := hfo.2
          rw [e1] at h9
          rw [G.rank]; exact h9
        have P := next_perm (k := k) (k' := (fst l r).key) (rk := rk) (wt := wt) (its := its) (a := a) hn (by rw [e1]; exact G.perm) (by rw [e1]; exact G.pot)
        obtain ⟨t, ht⟩ := ih (by have := P.2; omega) (h0.next hn (.inr ⟨hkey, hrk, G.ok⟩))
        exact ⟨t, .deep h hn hl ha' ht⟩
    · exact ⟨_, .stop hc⟩
end Sf
