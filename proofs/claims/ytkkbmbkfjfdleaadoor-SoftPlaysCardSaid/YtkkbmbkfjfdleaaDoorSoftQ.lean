/- The plain law of soft heaps: pushed and popped, how many nodes and items there are. -/
import Derived.Test.YtkkbmbkfjfdleaaDoorSoftP
namespace Sf
def sF (R : Nat) : Nat → Nat
  | 0 => 1
  | k + 1 => if k + 1 ≤ R then 1 else (3 * sF R k + 1) / 2
def wantOf (R : Nat) (t : T) : Nat := if R < t.rank + 1 then (3 * t.want + 1) / 2 else 1
def one (x : It) : T := .node x.1 0 1 [x] .nil .nil
def pair (R : Nat) (t n : T) : T := .node 0 (t.rank + 1) (wantOf R t) [] t n
/-- a new tree among the trees -/
inductive Carry (R : Nat) : T → List T → List T → Prop
  | stop {n : T} {ts : List T} (h : ∀ t r, ts = t :: r → t.rank ≠ n.rank) : Carry R n ts (n :: ts)
  | join {n t n' : T} {r out : List T} (h : t.rank = n.rank) (hf : Fill (pair R t n) n') (hc : Carry R n' r out) : Carry R n (t :: r) out
/-- the tree whose key is least, the first one -/
def leastT (f : Nat → T) : Nat → Nat
  | 0 => 0
  | i + 1 => if (f i).key < (f (leastT f i)).key then i else leastT f i
/-- a tree without its first item -/
def PopT (t t' : T) : Prop := if 2 * (t.items.drop 1).length ≤ t.want ∧ t.leaf = false then Fill (t.setItems (t.items.drop 1)) t' else t' = t.setItems (t.items.drop 1)
def cnt (k : Nat) : T → Nat
  | .nil => 0
  | .node _ rk _ _ l r => (if rk = k then 1 else 0) + (cnt k l + cnt k r)
/-- sizes of a tree -/
def Sz (R : Nat) : T → Prop
  | .nil => True
  | .node k rk wt its l r => wt = sF R rk ∧ (rk ≤ R → its.length ≤ 1 ∧ ∀ x ∈ its, x.1 = k) ∧ its.length ≤ 3 * sF R rk ∧ Sz R l ∧ Sz R r
theorem sF_one {R k : Nat} (h : k ≤ R) : sF R k = 1 := by
  cases k with
  | zero => rfl
  | succ k => simp [sF, h]
theorem sF_pos (R k : Nat) : 1 ≤ sF R k := by
  induction k with
  | zero => simp [sF]
  | succ k ih => simp only [sF]; split <;> omega
theorem sF_up (R k : Nat) : k + 1 ≤ R ∨ 3 * sF R k ≤ 2 * sF R (k + 1) := by
  by_cases h : k + 1 ≤ R
  · exact .inl h
  · right; simp only [sF, if_neg h]; omega
theorem sz_next {R : Nat} {k : Int} {rk wt : Nat} {its : List It} {l r a : T} (hn : (l.isNil && r.isNil) = false) (h : Sz R (.node k rk wt its l r)) (hw : its.length < wt) (hl : l = .nil ∨ l.rank + 1 = rk) (hr : r = .nil ∨ r.rank + 1 = rk) (ha : Sz R a) :
    Sz R (.node (fst l r).key rk wt (its ++ (fst l r).items) a (snd l r)) := by
  obtain ⟨h1, h2, h3⟩ := fst_snd hn
  obtain ⟨s1, s2, s3, s4, s5⟩ := h
  have hf : Sz R (fst l r) ∧ Sz R (snd l r) ∧ (fst l r).rank + 1 = rk := by
    rcases h3 with ⟨e1, e2⟩ | ⟨e1, e2⟩
    · rw [e1, e2]; rw [e1] at h1; exact ⟨s4, s5, hl.resolve_left h1⟩
    · rw [e1, e2]; rw [e1] at h1; exact ⟨s5, s4, hr.resolve_left h1⟩
  obtain ⟨f1, f2, f3⟩ := hf
  refine ⟨s1, fun hR => ?_, ?_, ha, f2⟩
  · rw [s1, sF_one hR] at hw
    obtain rfl := List.eq_nil_of_length_eq_zero (by omega : its.length = 0)
    revert f1 f3 h1
    cases fst l r with
    | nil => intro h1 _ _; exact absurd rfl h1
    | node k1 rk1 wt1 its1 l1 r1 =>
      intro _ f1 f3
      exact f1.2.1 (by show rk1 ≤ R; have : rk1 + 1 = rk := f3; omega)
  · rw [List.length_append]
    have f4 : (fst l r).items.length ≤ 3 * sF R (fst l r).rank ∧ ((fst l r).rank ≤ R → (fst l r).items.length ≤ 1) := by
      revert f1 h1
      cases fst l r with
      | nil => intro h1 _; exact absurd rfl h1
      | node k1 rk1 wt1 its1 l1 r1 => intro _ f1; exact ⟨f1.2.2.1, fun h => (f1.2.1 h).1⟩
    rcases sF_up R (fst l r).rank with h | h
    · rw [f3] at h
      have := f4.2 (by omega)
      have := sF_pos R rk
      omega
    · rw [f3] at h
      have := f4.1
      omega
theorem Sz.set {R : Nat} {t : T} (h : Sz R t) : Sz R (t.setItems []) := by
  cases t with
  | nil => trivial
  | node => exact ⟨h.1, fun _ => ⟨Nat.zero_le _, fun _ hx => by cases hx⟩, Nat.zero_le _, h.2.2.2.1, h.2.2.2.2⟩
theorem cnt_set (k : Nat) (t : T) (i : List It) : cnt k (t.setItems i) = cnt k t := by cases t <;> rfl
theorem fst_kid {R : Nat} {k : Int} {rk wt : Nat} {its : List It} {l r : T} (hn : (l.isNil && r.isNil) = false) (h0 : Ok0 k rk wt its l r) (hs : Sz R (.node k rk wt its l r)) : Ok (fst l r) ∧ Sz R (fst l r) ∧ (fst l r).rank + 1 = rk := by
  obtain ⟨h1, h2, h3⟩ := fst_snd hn
  rcases h3 with ⟨e1, e2⟩ | ⟨e1, e2⟩
  · rw [e1] at h1 ⊢; exact ⟨h0.left, hs.2.2.2.1, h0.rl.resolve_left h1⟩
  · rw [e1] at h1 ⊢; exact ⟨h0.right, hs.2.2.2.2, h0.rr.resolve_left h1⟩
theorem fst_cnt (k : Nat) {l r : T} (hn : (l.isNil && r.isNil) = false) : cnt k (fst l r) + cnt k (snd l r) = cnt k l + cnt k r := by
  obtain ⟨h1, h2, h3⟩ := fst_snd hn
  rcases h3 with ⟨e1, e2⟩ | ⟨e1, e2⟩
  · rw [e1, e2]
  · rw [e1, e2]; omega
/-- sizes and numbers of nodes are kept -/
theorem fill_sz {R : Nat} {t t' : T} (h : Fill t t') : ∀ {k : Int} {rk wt : Nat} {its : List It} {l r : T}, t = .node k rk wt its l r → Ok0 k rk wt its l r → Sz R t → Sz R t' ∧ ∀ j, cnt j t' ≤ cnt j t := by
  induction h with
  | stop h => intro _ _ _ _ _ _ _ _ hs; exact ⟨hs, fun j => Nat.le_refl _⟩
  | @leaf k rk wt its l r t h hn hl ht ih =>
    intro _ _ _ _ _ _ e h0 hs
    cases e
    obtain ⟨g1, g2⟩ := ih rfl (h0.next hn (.inl rfl)) (sz_next hn hs h h0.rl h0.rr (by trivial))
    refine ⟨g1, fun j => Nat.le_trans (g2 j) ?_⟩
    have := fst_cnt j hn
    simp only [cnt]
    omega
  | @deep k rk wt its l r a t h hn hl ha ht iha ih =>
    intro _ _ _ _ _ _ e h0 hs
    cases e
    obtain ⟨ho, hz, hrk⟩ := fst_kid hn h0 hs
    obtain ⟨k1, rk1, wt1, its1, l1, r1, e1, g1⟩ := Ok0.empty ho hl
    obtain ⟨a1, a2⟩ := iha (by rw [e1]; rfl) g1 hz.set
    have G := fill_is ha (by rw [e1]; rfl) g1
    have hkey : (fst l r).key ≤ a.key := by
      have g := ho
      rw [e1] at g
      have := G.low k1 (by rw [e1]; intro h; exact absurd rfl h) (by rw [e1]; exact g.2.2.2.1.imp id (·.1)) (by rw [e1]; exact g.2.2.2.2.1.imp id (·.1))
      rw [e1]; exact this
    have hrk2 : a.rank + 1 = rk := by
      have := G.rank
      rw [e1] at this
      rw [e1] at hrk
      rw [this]; exact hrk
    obtain ⟨g2, g3⟩ := ih rfl (h0.next hn (.inr ⟨hkey, hrk2, G.ok⟩)) (sz_next hn hs h h0.rl h0.rr a1)
    refine ⟨g2, fun j => Nat.le_trans (g3 j) ?_⟩
    have := fst_cnt j hn
    have := a2 j
    rw [cnt_set] at this
    simp only [cnt]
    omega
/-- a forest -/
def allF (ts : List T) : List It := ts.flatMap T.all
def wrongF : List T → Nat
  | [] => 0
  | t :: r => t.wrong + wrongF r
def cntF (k : Nat) : List T → Nat
  | [] => 0
  | t :: r => cnt k t + cntF k r
def rootF (k : Nat) : List T → Nat
  | [] => 0
  | t :: r => (if t.rank = k then 1 else 0) + rootF k r
def Good (R : Nat) (t : T) : Prop := Ok t ∧ t ≠ .nil ∧ Sz R t
/-- how many nodes of each rank there can be -/
def Cap (n : Nat) (ts : List T) : Prop := ∃ c : Nat → Nat, c 0 ≤ n ∧ ∀ k, cntF k ts ≤ c k ∧ 2 * c (k + 1) + rootF k ts ≤ c k
structure St (R n : Nat) (ts : List T) : Prop where
  good : ∀ t ∈ ts, Good R t
  cap : Cap n ts
  many : (allF ts).length ≤ n
theorem Good.want {R : Nat} {t : T} (h : Good R t) : t.want = sF R t.rank := by
  cases t with
  | nil => exact absurd rfl h.2.1
  | node => exact h.2.2.1
theorem wantOf_is {R : Nat} {t : T} (h : Good R t) : wantOf R t = sF R (t.rank + 1) := by
  unfold wantOf
  rw [h.want]
  by_cases h1 : R < t.rank + 1
  · rw [if_pos h1]; simp only [sF]; rw [if_neg (by omega)]
  · rw [if_neg h1, sF_one (by omega)]
theorem one_good (R : Nat) (x : It) : Good R (one x) := ⟨⟨by simp, Nat.le_refl _, by simp, .inl rfl, .inl rfl, trivial, trivial⟩, by simp [one], rfl, fun _ => ⟨by simp, by simp⟩, by simp [sF], trivial, trivial⟩
theorem pair_ok {R : Nat} {t n : T} (ht : Good R t) (hn : Good R n) (h : t.rank = n.rank) : Ok0 0 (t.rank + 1) (wantOf R t) [] t n ∧ Sz R (pair R t n) := by
  have h1 : t.isNil = false := (T.isNil_no t).2 ht.2.1
  refine ⟨⟨?_, fun h => absurd rfl h, .inr (by simp [h1]), .inr rfl, .inr (by omega), ht.1, hn.1⟩, wantOf_is ht, fun _ => ⟨Nat.zero_le _, fun _ hx => by cases hx⟩, Nat.zero_le _, ht.2.2, hn.2.2⟩
  rw [wantOf_is ht]; exact sF_pos _ _
theorem join_good {R : Nat} {t n n' : T} (ht : Good R t) (hn : Good R n) (h : t.rank = n.rank) (hf : Fill (pair R t n) n') :
    Good R n' ∧ n'.rank = t.rank + 1 ∧ n'.all.Perm (t.all ++ n.all) ∧ ∀ j, cnt j n' ≤ (if t.rank + 1 = j then 1 else 0) + (cnt j t + cnt j n) := by
  obtain ⟨h0, hz⟩ := pair_ok ht hn h
  have F := fill_is hf rfl h0
  obtain ⟨z1, z2⟩ := fill_sz hf rfl h0 hz
  exact ⟨⟨F.ok, F.ne, z1⟩, F.rank, F.perm, z2⟩
theorem join_ex {R : Nat} {t n : T} (ht : Good R t) (hn : Good R n) (h : t.rank = n.rank) : ∃ n', Fill (pair R t n) n' := fill_ex _ (Nat.le_refl _) (pair_ok ht hn h).1
theorem carry_ex {R : Nat} : ∀ {ts : List T} {n : T}, (∀ t ∈ ts, Good R t) → Good R n → ∃ out, Carry R n ts out := by
  intro ts
  induction ts with
  | nil => intro n _ _; exact ⟨_, .stop fun _ _ h => by cases h⟩
  | cons t r ih =>
    intro n hts hn
    by_cases h : t.rank = n.rank
    · obtain ⟨n', hf⟩ := join_ex (hts t (by simp)) hn h
      obtain ⟨out, ho⟩ := ih (fun u hu => hts u (by simp [hu])) (join_good (hts t (by simp)) hn h hf).1
      exact ⟨out, .join h hf ho⟩
    · exact ⟨_, .stop fun _ _ e => by cases e; exact h⟩
theorem carry_is {R : Nat} {n : T} {ts out : List T} (h : Carry R n ts out) : (∀ t ∈ ts, Good R t) → Good R n → (∀ t ∈ out, Good R t) ∧ (allF out).Perm (n.all ++ allF ts) ∧
    ∀ m, (∃ c : Nat → Nat, c 0 ≤ m ∧ ∀ k, cntF k (n :: ts) ≤ c k ∧ 2 * c (k + 1) + rootF k (n :: ts) ≤ c k) → Cap m out := by
  induction h with
  | stop h =>
    intro hts hn
    refine ⟨fun t ht => ?_, .refl _, fun m hm => hm⟩
    rcases List.mem_cons.1 ht with rfl | ht
    · exact hn
    · exact hts t ht
  | @join n t n' r out h hf hc ih =>
    intro hts hn
    obtain ⟨j1, j2, j3, j4⟩ := join_good (hts t (by simp)) hn h hf
    obtain ⟨i1, i2, i3⟩ := ih (fun u hu => hts u (by simp [hu])) j1
    refine ⟨i1, i2.trans ?_, fun m hm => i3 m ?_⟩
    · have : (allF (t :: r)) = t.all ++ allF r := rfl
      rw [this]
      refine (List.Perm.append_right _ j3).trans ?_
      rw [← List.append_assoc]
      exact List.Perm.append_right _ List.perm_append_comm
    · obtain ⟨c, c0, ck⟩ := hm
      refine ⟨fun k => if k = t.rank + 1 then c k + 1 else c k, by simp only; rw [if_neg (by omega)]; exact c0, fun k => ?_⟩
      have a := ck k
      have a1 := ck (k + 1)
      have b := j4 k
      simp only [cntF, rootF] at a a1 ⊢
      rw [j2]
      rw [← h] at a a1
      by_cases h1 : k = t.rank + 1
      · subst h1
        have e1 : ¬ (t.rank + 1 + 1 = t.rank + 1) := by omega
        have e2 : ¬ (t.rank = t.rank + 1) := by omega
        simp only [eq_self, if_true, if_neg e1, if_neg e2] at a b ⊢
        omega
      · have e1 : ¬ (t.rank + 1 = k) := fun e => h1 e.symm
        by_cases h2 : k = t.rank
        · subst h2
          have e2 : ¬ (t.rank = t.rank + 1) := by omega
          simp only [eq_self, if_true, if_neg e1, if_neg e2] at a b ⊢
          omega
        · have e2 : ¬ (t.rank = k) := fun e => h2 e.symm
          have e3 : ¬ (k + 1 = t.rank + 1) := by omega
          simp only [if_neg h1, if_neg e1, if_neg e2, if_neg e3] at a b ⊢
          omega
/-- pushed -/
theorem push_st {R n : Nat} {ts out : List T} {x : It} (h : St R n ts) (hc : Carry R (one x) ts out) : St R (n + 1) out ∧ (allF out).Perm (x :: allF ts) := by
  obtain ⟨h1, h2, h3⟩ := carry_is hc h.good (one_good R x)
  refine ⟨⟨h1, h3 _ ?_, ?_⟩, h2⟩
  · obtain ⟨c, c0, ck⟩ := h.cap
    refine ⟨fun k => if k = 0 then c k + 1 else c k, by simp only [if_pos]; omega, fun k => ?_⟩
    have a := ck k
    simp only [cntF, rootF, one, cnt, T.rank]
    by_cases h0 : k = 0
    · subst h0; simp only [Nat.zero_add] at a ⊢; simp; omega
    · have h1 : ¬ (0 = k) := fun e => h0 e.symm
      simp [h0, h1]; omega
  · have := h2.length_eq
    rw [this]
    have := h.many
    simp [one, T.all] at *
    omega
theorem push_ex {R n : Nat} {ts : List T} (h : St R n ts) (x : It) : ∃ out, Carry R (one x) ts out := carry_ex h.good (one_good R x)
theorem St.nil (R : Nat) : St R 0 [] := ⟨fun t ht => (by cases ht), ⟨fun _ => 0, Nat.le_refl _, fun k => ⟨Nat.le_refl _, Nat.le_refl _⟩⟩, Nat.le_refl _⟩
theorem pop_ok {R : Nat} {t : T} (h : Good R t) (hl : t.leaf = false) : ∃ k rk wt its l r, t = .node k rk wt its l r ∧ Ok0 k rk wt (its.drop 1) l r ∧ Sz R (.node k rk wt (its.drop 1) l r) := by
  obtain ⟨h1, h2, h3⟩ := h
  cases t with
  | nil => exact absurd rfl h2
  | node k rk wt its l r =>
    obtain ⟨o1, o2, o3, o4, o5, o6, o7⟩ := h1
    obtain ⟨s1, s2, s3, s4, s5⟩ := h3
    refine ⟨k, rk, wt, its, l, r, rfl, ⟨o2, fun _ => ⟨fun x hx => o3 x (List.mem_of_mem_drop hx), o4.imp id (·.1), o5.imp id (·.1)⟩, .inr hl, o4.imp id (·.2), o5.imp id (·.2), o6, o7⟩, s1, fun h => ⟨?_, fun x hx => (s2 h).2 x (List.mem_of_mem_drop hx)⟩, ?_, s4, s5⟩
    · rw [List.length_drop]; have := (s2 h).1; omega
    · rw [List.length_drop]; omega
theorem popT_ex {R : Nat} {t : T} (h : Good R t) : ∃ t', PopT t t' := by
  unfold PopT
  by_cases hc : 2 * (t.items.drop 1).length ≤ t.want ∧ t.leaf = false
  · simp only [if_pos hc]
    obtain ⟨k, rk, wt, its, l, r, rfl, h0, _⟩ := pop_ok h hc.2
    exact fill_ex _ (Nat.le_refl _) h0
  · simp only [if_neg hc]; exact ⟨_, rfl⟩
/-- what is left of a tree -/
theorem popT_is {R : Nat} {t t' : T} (h : Good R t) (hp : PopT t t') : t'.rank = t.rank ∧ t' ≠ .nil ∧ t'.all.Perm (t.all.drop 1) ∧ (∀ j, cnt j t' ≤ cnt j t) ∧ (t'.items ≠ [] → Good R t') ∧ (t'.items = [] → t'.all = [] ∧ t'.leaf = true) ∧ t.all = t.items ++ t.all.drop t.items.length := by
  have hne : t.all.drop 1 = t.items.drop 1 ++ (t.setItems []).all := by
    have := h.1.items_ne h.2.1
    rw [all_set t h.2.1]
    cases hi : t.items with
    | nil => exact absurd hi this
    | cons x r => rfl
  have hlast : t.all = t.items ++ t.all.drop t.items.length := by
    rw [all_set t h.2.1]; simp
  unfold PopT at hp
  split at hp
  · rename_i hc
    obtain ⟨k, rk, wt, its, l, r, rfl, h0, hz⟩ := pop_ok h hc.2
    have F := fill_is hp rfl h0
    obtain ⟨z1, z2⟩ := fill_sz hp rfl h0 hz
    refine ⟨F.rank, F.ne, ?_, z2, fun _ => ⟨F.ok, F.ne, z1⟩, fun e => absurd e (F.ok.items_ne F.ne), hlast⟩
    rw [hne]; exact F.perm
  · rename_i hc
    subst hp
    cases t with
    | nil => exact absurd rfl h.2.1
    | node k rk wt its l r =>
      obtain ⟨⟨o1, o2, o3, o4, o5, o6, o7⟩, _, s1, s2, s3, s4, s5⟩ := h
      refine ⟨rfl, by simp [T.setItems], by rw [hne]; exact .refl _, fun j => Nat.le_refl _, fun hi => ⟨⟨hi, o2, fun x hx => o3 x (List.mem_of_mem_drop hx), o4, o5, o6, o7⟩, by simp [T.setItems], s1, fun h => ⟨?_, fun x hx => (s2 h).2 x (List.mem_of_mem_drop hx)⟩, ?_, s4, s5⟩, fun hi => ?_, hlast⟩
      · show (its.drop 1).length ≤ 1
        rw [List.length_drop]; have := (s2 h).1; omega
      · show (its.drop 1).length ≤ _
        rw [List.length_drop]; omega
      · have hi' : its.drop 1 = [] := hi
        have hlf : (T.node k rk wt its l r).leaf = true := by
          cases hh : (T.node k rk wt its l r).leaf with
          | true => rfl
          | false => exact absurd ⟨by show 2 * (its.drop 1).length ≤ wt; rw [hi']; simp, hh⟩ hc
        have hl2 : (T.node k rk wt (its.drop 1) l r).leaf = true := hlf
        exact ⟨by show (T.node k rk wt (its.drop 1) l r).all = []; rw [leaf_all hl2]; exact hi', hl2⟩
/-- the trees when a tree has been popped -/
def backT (ts : List T) (at_ : Nat) (t' : T) : List T := if t'.items.length = 0 then ts.eraseIdx at_ else ts.set at_ t'
theorem pop_st {R n : Nat} {ts : List T} {p : Nat} {t' : T} (h : St R n ts) (hp : p < ts.length) (ht : PopT ts[p] t') : St R n (backT ts p t') ∧ ∃ x, ts[p].items.head? = some x ∧ (x :: allF (backT ts p t')).Perm (allF ts) ∧ x.1 ≤ ts[p].key := by
  have hg := h.good ts[p] (List.getElem_mem _)
  obtain ⟨q1, q2, q3, q4, q5, q6, q7⟩ := popT_is hg ht
  have hspl : ts = ts.take p ++ ts[p] :: ts.drop (p + 1) := by rw [List.getElem_cons_drop, List.take_append_drop]
  obtain ⟨x, xs, hx⟩ : ∃ x xs, ts[p].items = x :: xs := by
    cases hh : ts[p].items with
    | nil => exact absurd hh (hg.1.items_ne hg.2.1)
    | cons x xs => exact ⟨x, xs, rfl⟩
  have hb : backT ts p t' = ts.take p ++ ((if t'.items.length = 0 then [] else [t']) ++ ts.drop (p + 1)) := by
    unfold backT
    split
    · rw [List.eraseIdx_eq_take_drop_succ, List.nil_append]
    · rw [List.set_eq_take_append_cons_drop, if_pos hp]; rfl
  have hcntA : ∀ (k : Nat) (a b : List T), cntF k (a ++ b) = cntF k a + cntF k b := fun k a b => by
    induction a with
    | nil => simp [cntF]
    | cons u a ih => simp only [List.cons_append, cntF, ih]; omega
  have hrootA : ∀ (k : Nat) (a b : List T), rootF k (a ++ b) = rootF k a + rootF k b := fun k a b => by
    induction a with
    | nil => simp [rootF]
    | cons u a ih => simp only [List.cons_append, rootF, ih]; omega
  have hperm : (x :: allF (backT ts p t')).Perm (allF ts) := by
    have e1 : allF ts = allF (ts.take p) ++ (ts[p].all ++ allF (ts.drop (p + 1))) := by
      conv => lhs; rw [hspl]
      unfold allF; rw [List.flatMap_append, List.flatMap_cons]
    have e2 : ts[p].all = x :: ts[p].all.drop 1 := by
      rw [q7, hx]; simp
    have e3 : (allF (if t'.items.length = 0 then [] else [t'])).Perm (ts[p].all.drop 1) := by
      refine List.Perm.trans ?_ q3
      by_cases h0 : t'.items.length = 0
      · rw [if_pos h0, (q6 (List.eq_nil_of_length_eq_zero h0)).1]; exact .refl _
      · rw [if_neg h0]; simp [allF]
    rw [e1, e2, hb]
    have e4 : allF (ts.take p ++ ((if t'.items.length = 0 then [] else [t']) ++ ts.drop (p + 1))) = allF (ts.take p) ++ (allF (if t'.items.length = 0 then [] else [t']) ++ allF (ts.drop (p + 1))) := by simp [allF]
    rw [e4]
    refine (List.perm_middle.symm).trans (List.Perm.append_left _ ?_)
    exact List.Perm.cons _ (List.Perm.append_right _ e3)
  refine ⟨⟨fun t ht' => ?_, ?_, ?_⟩, x, by rw [hx]; rfl, hperm, ?_⟩
  · rw [hb] at ht'
    rcases List.mem_append.1 ht' with h1 | h1
    · exact h.good t (List.mem_of_mem_take h1)
    · rcases List.mem_append.1 h1 with h1 | h1
      · split at h1
        · cases h1
        · rename_i h0
          simp at h1; subst h1
          exact q5 fun e => h0 (by rw [e]; rfl)
      · exact h.good t (List.mem_of_mem_drop h1)
  · obtain ⟨c, c0, ck⟩ := h.cap
    refine ⟨c, c0, fun k => ?_⟩
    have a := ck k
    have b := q4 k
    rw [hspl] at a
    rw [hb]
    rw [hcntA, hrootA] at a ⊢
    rw [hcntA, hrootA]
    simp only [cntF, rootF] at a
    have e1 : cntF k (if t'.items.length = 0 then [] else [t']) ≤ cnt k t' := by
      split
      · exact Nat.zero_le _
      · simp [cntF]
    have e2 : rootF k (if t'.items.length = 0 then [] else [t']) ≤ (if ts[p].rank = k then 1 else 0) := by
      split
      · exact Nat.zero_le _
      · simp only [rootF, q1]; omega
    omega
  · have := hperm.length_eq
    have := h.many
    simp at *
    omega
  · revert hg hx
    cases ts[p] with
    | nil => intro hg _; exact absurd rfl hg.2.1
    | node k rk wt its l r =>
      intro hg hx
      have hx' : its = x :: xs := hx
      exact hg.1.2.2.1 x (by rw [hx']; simp)
end Sf
