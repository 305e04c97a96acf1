/- Plain law: leaning trees: two melded; a tree written as nodes, and read again. No program in sight. -/
import Derived.Test.YtlocmbnbfjonbaaDoorSort
namespace Rk.Ln
/-- a tree of things -/
inductive T (α : Type) where
  | nil : T α
  | node (x : α) (l r : T α) : T α
section
variable {α β : Type}
def T.size : T α → Nat
  | .nil => 0
  | .node _ l r => l.size + r.size + 1
def T.span : T α → Nat
  | .nil => 0
  | .node _ _ r => r.span + 1
def T.items : T α → List α
  | .nil => []
  | .node x l r => x :: (l.items ++ r.items)
def T.map (f : α → β) : T α → T β
  | .nil => .nil
  | .node x l r => .node (f x) (l.map f) (r.map f)
def T.isNil : T α → Bool
  | .nil => true
  | .node .. => false
theorem T.items_len (t : T α) : t.items.length = t.size := by
  induction t with
  | nil => rfl
  | node x l r hl hr => simp [T.items, T.size, hl, hr]
theorem T.map_size (f : α → β) (t : T α) : (t.map f).size = t.size := by
  induction t with
  | nil => rfl
  | node x l r hl hr => simp [T.map, T.size, hl, hr]
theorem T.map_span (f : α → β) (t : T α) : (t.map f).span = t.span := by
  induction t with
  | nil => rfl
  | node x l r hl hr => simp [T.map, T.span, hr]
theorem T.map_items (f : α → β) (t : T α) : (t.map f).items = t.items.map f := by
  induction t with
  | nil => rfl
  | node x l r hl hr => simp [T.map, T.items, hl, hr]
theorem T.map_nil (f : α → β) (t : T α) : (t.map f).isNil = t.isNil := by cases t <;> rfl
theorem T.span_le (t : T α) : t.span ≤ t.size := by
  induction t with
  | nil => exact Nat.le_refl _
  | node x l r hl hr => simp only [T.span, T.size]; omega
/-- the longer way to the left -/
def mk (x : α) (l r : T α) : T α := if l.span < r.span then .node x r l else .node x l r
def meld (key : α → Int) : T α → T α → T α
  | .nil, b => b
  | .node x l r, .nil => .node x l r
  | .node x l r, .node y l' r' => if key y < key x then mk y l' (meld key (.node x l r) r') else mk x l (meld key r (.node y l' r'))
termination_by a b => a.size + b.size
decreasing_by all_goals simp only [T.size]; omega
theorem meld_nil_left (key : α → Int) (b : T α) : meld key .nil b = b := by unfold meld; rfl
theorem meld_nil_right (key : α → Int) (a : T α) : meld key a .nil = a := by cases a <;> (unfold meld; rfl)
theorem meld_node (key : α → Int) (x y : α) (l r l' r' : T α) : meld key (.node x l r) (.node y l' r') = if key y < key x then mk y l' (meld key (.node x l r) r') else mk x l (meld key r (.node y l' r')) := by rw [meld]
theorem mk_map (f : α → β) (x : α) (l r : T α) : (mk x l r).map f = mk (f x) (l.map f) (r.map f) := by
  unfold mk; rw [T.map_span, T.map_span]; split <;> rfl
theorem mk_items (x : α) (l r : T α) : (mk x l r).items.Perm (x :: (l.items ++ r.items)) := by
  unfold mk; split
  · exact List.Perm.cons _ List.perm_append_comm
  · exact List.Perm.refl _
theorem mk_size (x : α) (l r : T α) : (mk x l r).size = l.size + r.size + 1 := by unfold mk; split <;> simp only [T.size] <;> omega
/-- by induction on both sizes -/
theorem meld_ind (key : α → Int) {P : T α → T α → Prop} (h1 : ∀ b, P .nil b) (h2 : ∀ x l r, P (.node x l r) .nil)
    (h3 : ∀ x l r y l' r', key y < key x → P (.node x l r) r' → P (.node x l r) (.node y l' r')) (h4 : ∀ x l r y l' r', ¬ key y < key x → P r (.node y l' r') → P (.node x l r) (.node y l' r')) (a b : T α) : P a b := by
  suffices h : ∀ n a b, T.size a + T.size b ≤ n → P a b from h _ a b (Nat.le_refl _)
  intro n
  induction n with
  | zero =>
    intro a b hs
    cases a with
    | nil => exact h1 b
    | node x l r => simp only [T.size] at hs; omega
  | succ n ih =>
    intro a b hs
    cases a with
    | nil => exact h1 b
    | node x l r =>
      cases b with
      | nil => exact h2 x l r
      | node y l' r' =>
        by_cases hk : key y < key x
        · exact h3 x l r y l' r' hk (ih _ _ (by simp only [T.size] at hs ⊢; omega))
        · exact h4 x l r y l' r' hk (ih _ _ (by simp only [T.size] at hs ⊢; omega))
theorem meld_map (key : α → Int) (key' : β → Int) (f : α → β) (hf : ∀ x, key' (f x) = key x) (a b : T α) : (meld key a b).map f = meld key' (a.map f) (b.map f) := by
  refine meld_ind key (P := fun a b => (meld key a b).map f = meld key' (a.map f) (b.map f)) ?_ ?_ ?_ ?_ a b
  · intro b; rw [meld_nil_left]; exact (meld_nil_left _ _).symm
  · intro x l r; rw [meld_nil_right]; exact (meld_nil_right _ _).symm
  · intro x l r y l' r' hk ih
    simp only [T.map] at ih ⊢
    rw [meld_node, if_pos hk, meld_node, if_pos (by rw [hf, hf]; exact hk), mk_map, ih]
  · intro x l r y l' r' hk ih
    simp only [T.map] at ih ⊢
    rw [meld_node, if_neg hk, meld_node, if_neg (by rw [hf, hf]; exact hk), mk_map, ih]
theorem meld_items (key : α → Int) (a b : T α) : (meld key a b).items.Perm (a.items ++ b.items) := by
  refine meld_ind key (P := fun a b => (meld key a b).items.Perm (a.items ++ b.items)) ?_ ?_ ?_ ?_ a b
  · intro b; rw [meld_nil_left]; exact List.Perm.refl _
  · intro x l r; rw [meld_nil_right]; simp [T.items]
  · intro x l r y l' r' hk ih
    rw [meld_node, if_pos hk]
    refine (mk_items _ _ _).trans ?_
    rw [show T.items (T.node y l' r') = y :: (l'.items ++ r'.items) from rfl]
    refine List.Perm.trans ?_ List.perm_middle.symm
    refine List.Perm.cons _ ((List.Perm.append_left _ ih).trans ?_)
    rw [← List.append_assoc, ← List.append_assoc]
    exact List.Perm.append_right _ List.perm_append_comm
  · intro x l r y l' r' hk ih
    rw [meld_node, if_neg hk]
    refine (mk_items _ _ _).trans ?_
    rw [show T.items (T.node x l r) = x :: (l.items ++ r.items) from rfl, List.cons_append]
    refine List.Perm.cons _ ((List.Perm.append_left _ ih).trans ?_)
    rw [List.append_assoc]
theorem meld_size (key : α → Int) (a b : T α) : (meld key a b).size = a.size + b.size := by
  rw [← T.items_len, ← T.items_len, ← T.items_len, ← List.length_append]; exact (meld_items key a b).length_eq
/-- no thing is less than the one above it -/
def Ge (key : α → Int) (k : Int) : T α → Prop
  | .nil => True
  | .node x _ _ => k ≤ key x
def Heap (key : α → Int) : T α → Prop
  | .nil => True
  | .node x l r => Ge key (key x) l ∧ Ge key (key x) r ∧ Heap key l ∧ Heap key r
def LeanT : T α → Prop
  | .nil => True
  | .node _ l r => r.span ≤ l.span ∧ LeanT l ∧ LeanT r
def Good (key : α → Int) (t : T α) : Prop := Heap key t ∧ LeanT t
theorem Good.left {key : α → Int} {x : α} {l r : T α} (h : Good key (.node x l r)) : Good key l := ⟨h.1.2.2.1, h.2.2.1⟩
theorem Good.right {key : α → Int} {x : α} {l r : T α} (h : Good key (.node x l r)) : Good key r := ⟨h.1.2.2.2, h.2.2.2⟩
theorem good_nil (key : α → Int) : Good key (.nil : T α) := ⟨trivial, trivial⟩
theorem mk_good {key : α → Int} {x : α} {l r : T α} (hl : Good key l) (hr : Good key r) (h1 : Ge key (key x) l) (h2 : Ge key (key x) r) : Good key (mk x l r) := by
  unfold mk; split
  · exact ⟨⟨h2, h1, hr.1, hl.1⟩, ⟨by omega, hr.2, hl.2⟩⟩
  · exact ⟨⟨h1, h2, hl.1, hr.1⟩, ⟨by omega, hl.2, hr.2⟩⟩
theorem Ge.mono {key : α → Int} {k k' : Int} {t : T α} (h : Ge key k t) (hk : k' ≤ k) : Ge key k' t := by
  cases t with
  | nil => trivial
  | node x l r => exact Int.le_trans hk h
theorem mk_ge {key : α → Int} {k : Int} {x : α} {l r : T α} (h : k ≤ key x) : Ge key k (mk x l r) := by unfold mk; split <;> exact h
theorem meld_ge {key : α → Int} {k : Int} {a b : T α} (ha : Ge key k a) (hb : Ge key k b) : Ge key k (meld key a b) := by
  cases a with
  | nil => rw [meld_nil_left]; exact hb
  | node x l r =>
    cases b with
    | nil => rw [meld_nil_right]; exact ha
    | node y l' r' =>
      rw [meld_node]; split
      · exact mk_ge hb
      · exact mk_ge ha
theorem meld_good (key : α → Int) (a b : T α) : Good key a → Good key b → Good key (meld key a b) := by
  refine meld_ind key (P := fun a b => Good key a → Good key b → Good key (meld key a b)) ?_ ?_ ?_ ?_ a b
  · intro b _ hb; rw [meld_nil_left]; exact hb
  · intro x l r ha _; rw [meld_nil_right]; exact ha
  · intro x l r y l' r' hk ih ha hb
    rw [meld_node, if_pos hk]
    exact mk_good hb.left (ih ha hb.right) hb.1.1 (meld_ge (by show key y ≤ key x; omega) hb.1.2.1)
  · intro x l r y l' r' hk ih ha hb
    rw [meld_node, if_neg hk]
    exact mk_good ha.left (ih ha.right hb) ha.1.1 (meld_ge ha.1.2.1 (by show key x ≤ key y; omega))
theorem ge_all {key : α → Int} {k : Int} {t : T α} (h : Heap key t) (hk : Ge key k t) : ∀ y ∈ t.items, k ≤ key y := by
  induction t generalizing k with
  | nil => intro y hy; cases hy
  | node x l r hl hr =>
    intro y hy
    rcases List.mem_cons.1 hy with rfl | hy
    · exact hk
    · rcases List.mem_append.1 hy with hy | hy
      · exact Int.le_trans hk (hl h.2.2.1 h.1 y hy)
      · exact Int.le_trans hk (hr h.2.2.2 h.2.1 y hy)
theorem least {key : α → Int} {x : α} {l r : T α} (h : Heap key (.node x l r)) : ∀ y ∈ (T.node x l r).items, key x ≤ key y := ge_all h (Int.le_refl _)
/-- CRANE: with a way of n there are 2 to n, less 1 -/
theorem span_pow {t : T α} (h : LeanT t) : 2 ^ t.span ≤ t.size + 1 := by
  suffices hh : ∀ n (t : T α), t.size ≤ n → LeanT t → 2 ^ t.span ≤ t.size + 1 from hh _ t (Nat.le_refl _) h
  intro n
  induction n with
  | zero =>
    intro t ht _
    cases t with
    | nil => simp [T.span, T.size]
    | node x l r => simp only [T.size] at ht; omega
  | succ n ih =>
    intro t ht hl
    cases t with
    | nil => simp [T.span, T.size]
    | node x l r =>
      simp only [T.size] at ht
      have h1 := ih l (by omega) hl.2.1
      have h2 := ih r (by omega) hl.2.2
      have h3 : 2 ^ r.span ≤ 2 ^ l.span := Nat.pow_le_pow_right (by omega) hl.1
      simp only [T.span, T.size, Nat.pow_succ]
      omega
end
/-- a node: its key, its number, where its left and its right part begin -/
abbrev It := Int × Int
abbrev Nd := Int × Int × Int × Int
def nd0 : Nd := (0, 0, 0, 0)
def itN (x : Nd) : It := (x.1, x.2.1)
def ser : T It → Nat → List Nd
  | .nil, _ => []
  | .node x l r, a => (x.1, x.2, (if l.isNil then -1 else ((a + 1 : Nat) : Int)), (if r.isNil then -1 else ((a + 1 + l.size : Nat) : Int))) :: (ser l (a + 1) ++ ser r (a + 1 + l.size))
theorem ser_len (t : T It) (a : Nat) : (ser t a).length = t.size := by
  induction t generalizing a with
  | nil => rfl
  | node x l r hl hr => simp [ser, T.size, hl, hr]
theorem ser_items (t : T It) (a : Nat) : (ser t a).map itN = t.items := by
  induction t generalizing a with
  | nil => rfl
  | node x l r hl hr => simp [ser, T.items, hl, hr, itN]
/-- a part read: none where the place is -1; else it begins just here, and is no less than what is above it -/
def side (b : Nat → Option (T It)) (n : Nat) (k : Int) (p : Int) (next : Nat) : Option (T It) :=
  if p = -1 then some .nil
  else if p ≠ next ∨ n ≤ next then none
  else match b next with
    | some (.node y l r) => if y.1 < k then none else some (.node y l r)
    | _ => none
def bld (L : List Nd) : Nat → Nat → Option (T It)
  | 0, _ => none
  | f + 1, i =>
    let x := L.getD i nd0
    match side (bld L f) L.length x.1 x.2.2.1 (i + 1) with
    | none => none
    | some l =>
      match side (bld L f) L.length x.1 x.2.2.2 (i + 1 + l.size) with
      | none => none
      | some r => if l.span < r.span then none else some (.node (x.1, x.2.1) l r)
abbrev kI : It → Int := fun x => x.1
theorem bld_node {L : List Nd} {f i : Nat} {t : T It} (h : bld L f i = some t) : ∃ x l r, t = .node x l r := by
  cases f with
  | zero => cases h
  | succ f =>
    simp only [bld] at h
    split at h
    · cases h
    · split at h
      · cases h
      · split at h
        · cases h
        · injection h with h; exact ⟨_, _, _, h.symm⟩
/-- L has the nodes of t from i on -/
def At (L : List Nd) (i : Nat) (t : T It) : Prop := i + t.size ≤ L.length ∧ ∀ k, k < t.size → L[i + k]? = (ser t i)[k]?
theorem at_nil (L : List Nd) {i : Nat} (h : i ≤ L.length) : At L i .nil := ⟨by simpa [T.size] using h, fun k hk => by simp [T.size] at hk⟩
theorem At.node {L : List Nd} {i : Nat} {x : It} {l r : T It} (h : At L i (.node x l r)) : i < L.length ∧
    L.getD i nd0 = (x.1, x.2, (if l.isNil then -1 else ((i + 1 : Nat) : Int)), (if r.isNil then -1 else ((i + 1 + l.size : Nat) : Int))) ∧ At L (i + 1) l ∧ At L (i + 1 + l.size) r := by
  obtain ⟨h1, h2⟩ := h
  simp only [T.size] at h1 h2
  refine ⟨by omega, ?_, ⟨by omega, fun k hk => ?_⟩, ⟨by omega, fun k hk => ?_⟩⟩
  · have := h2 0 (by omega)
    rw [Nat.add_zero] at this
    rw [List.getD, this]; rfl
  · have := h2 (k + 1) (by omega)
    rw [show i + 1 + k = i + (k + 1) from by omega, this]
    simp only [ser, List.getElem?_cons_succ]
    rw [List.getElem?_append_left (by rw [ser_len]; exact hk)]
  · have := h2 (l.size + k + 1) (by omega)
    rw [show i + 1 + l.size + k = i + (l.size + k + 1) from by omega, this]
    simp only [ser, List.getElem?_cons_succ]
    rw [List.getElem?_append_right (by rw [ser_len]; omega), ser_len, Nat.add_sub_cancel_left]
theorem At.mk {L : List Nd} {i : Nat} {x : It} {l r : T It} (h0 : i < L.length)
    (h1 : L.getD i nd0 = (x.1, x.2, (if l.isNil then -1 else ((i + 1 : Nat) : Int)), (if r.isNil then -1 else ((i + 1 + l.size : Nat) : Int)))) (h2 : At L (i + 1) l) (h3 : At L (i + 1 + l.size) r) : At L i (.node x l r) := by
  refine ⟨by simp only [T.size]; have := h3.1; omega, fun k hk => ?_⟩
  simp only [T.size] at hk
  cases k with
  | zero =>
    rw [Nat.add_zero, List.getElem?_eq_getElem h0]
    rw [List.getD, List.getElem?_eq_getElem h0] at h1
    simp only [ser, List.getElem?_cons_zero]
    rw [← h1]; rfl
  | succ k =>
    simp only [ser, List.getElem?_cons_succ]
    rcases Nat.lt_or_ge k l.size with hk' | hk'
    · rw [List.getElem?_append_left (by rw [ser_len]; exact hk'), ← h2.2 k hk', show i + (k + 1) = i + 1 + k from by omega]
    · rw [List.getElem?_append_right (by rw [ser_len]; exact hk'), ser_len, ← h3.2 (k - l.size) (by omega), show i + (k + 1) = i + 1 + l.size + (k - l.size) from by omega]
theorem side_some {L : List Nd} {b : Nat → Option (T It)} {k p : Int} {next : Nat} {t : T It} (hb : ∀ t, b next = some t → At L next t ∧ Good kI t) (hn : next ≤ L.length) (h : side b L.length k p next = some t) :
    At L next t ∧ Good kI t ∧ Ge kI k t ∧ p = (if t.isNil then -1 else (next : Int)) := by
  unfold side at h
  split at h
  · rename_i hp
    injection h with h; subst h
    exact ⟨at_nil L hn, good_nil _, trivial, by simp [T.isNil, hp]⟩
  · split at h
    · cases h
    · rename_i h1 h2
      split at h
      · rename_i y l r he
        split at h
        · cases h
        · rename_i h3
          injection h with h; subst h
          obtain ⟨ha, hg⟩ := hb _ he
          refine ⟨ha, hg, by show k ≤ y.1; omega, ?_⟩
          show p = if (false : Bool) = true then (-1 : Int) else (next : Int)
          simp only [Bool.false_eq_true, if_false]; omega
      · cases h
theorem bld_some {L : List Nd} : ∀ (f i : Nat), i < L.length → ∀ t, bld L f i = some t → At L i t ∧ Good kI t := by
  intro f
  induction f with
  | zero => intro i _ t h; cases h
  | succ f ih =>
    intro i hi t h
    simp only [bld] at h
    have hs : ∀ (k p : Int) (next : Nat) (t : T It), next ≤ L.length → side (bld L f) L.length k p next = some t → At L next t ∧ Good kI t ∧ Ge kI k t ∧ p = (if t.isNil then -1 else (next : Int)) := by
      intro k p next t hn hh
      rcases Nat.lt_or_ge next L.length with h1 | h1
      · exact side_some (fun t ht => ih next h1 t ht) hn hh
      · unfold side at hh
        split at hh
        · rename_i hp
          injection hh with hh; subst hh
          exact ⟨at_nil L hn, good_nil _, trivial, by simp [T.isNil, hp]⟩
        · rw [if_pos (.inr h1)] at hh; cases hh
    split at h
    · cases h
    · rename_i l hl
      obtain ⟨a1, g1, k1, p1⟩ := hs _ _ _ _ (by omega) hl
      split at h
      · cases h
      · rename_i r hr
        obtain ⟨a2, g2, k2, p2⟩ := hs _ _ _ _ a1.1 hr
        split at h
        · cases h
        · rename_i hsp
          injection h with h; subst h
          refine ⟨At.mk hi ?_ a1 a2, ⟨k1, k2, g1.1, g2.1⟩, ⟨by omega, g1.2, g2.2⟩⟩
          rw [← p1, ← p2]
theorem side_ok {b : Nat → Option (T It)} {n next : Nat} {k : Int} {t : T It} (hb : t.isNil = false → b next = some t) (hn : t.isNil = false → next < n) (hk : Ge kI k t) :
    side b n k (if t.isNil then -1 else (next : Int)) next = some t := by
  unfold side
  cases t with
  | nil => simp [T.isNil]
  | node y l r =>
    have h1 := hb rfl
    have h2 := hn rfl
    simp only [T.isNil, Bool.false_eq_true, if_false]
    rw [if_neg (by omega), if_neg (by omega), h1]
    have h3 : ¬ y.1 < k := by have : k ≤ y.1 := hk; omega
    simp only [if_neg h3]
theorem bld_ok {L : List Nd} (t : T It) : ∀ (f i : Nat), t.size ≤ f → t.isNil = false → At L i t → Good kI t → bld L f i = some t := by
  induction t with
  | nil => intro f i _ h; simp [T.isNil] at h
  | node x l r hl hr =>
    intro f i hf _ ha hg
    obtain ⟨h0, h1, h2, h3⟩ := ha.node
    simp only [T.size] at hf
    obtain ⟨f, rfl⟩ : ∃ g, f = g + 1 := ⟨f - 1, by omega⟩
    have hlt : ∀ {t : T It} {j : Nat}, At L j t → t.isNil = false → j < L.length := by
      intro t j hh hn
      cases t with
      | nil => simp [T.isNil] at hn
      | node => exact hh.node.1
    have e1 := side_ok (b := bld L f) (n := L.length) (next := i + 1) (k := x.1) (t := l) (fun hn => hl f (i + 1) (by omega) hn h2 hg.left) (hlt h2) hg.1.1
    have e2 := side_ok (b := bld L f) (n := L.length) (next := i + 1 + l.size) (k := x.1) (t := r) (fun hn => hr f _ (by omega) hn h3 hg.right) (hlt h3) hg.1.2.1
    simp only [bld, h1, e1, e2]
    rw [if_neg (by have := hg.2.1; omega)]
theorem ser_at (t : T It) : At (ser t 0) 0 t := ⟨by rw [ser_len]; omega, fun k _ => by rw [Nat.zero_add]⟩
/-- all of a list -/
def rdT (L : List Nd) : Option (T It) := if L = [] then some .nil else match bld L L.length 0 with
  | some t => if t.size = L.length then some t else none
  | none => none
theorem rdT_some {L : List Nd} {t : T It} (h : rdT L = some t) : L = ser t 0 ∧ Good kI t := by
  unfold rdT at h
  split at h
  · rename_i h0; injection h with h; subst h; exact ⟨h0, good_nil _⟩
  · rename_i h0
    split at h
    · rename_i t' ht
      split at h
      · rename_i hs
        injection h with h; subst h
        have hpos : 0 < L.length := List.length_pos_iff.2 h0
        obtain ⟨ha, hg⟩ := bld_some _ _ hpos _ ht
        refine ⟨List.ext_getElem? fun k => ?_, hg⟩
        rcases Nat.lt_or_ge k t'.size with hk | hk
        · have := ha.2 k hk
          rwa [Nat.zero_add] at this
        · rw [List.getElem?_eq_none (by omega), List.getElem?_eq_none (by rw [ser_len]; exact hk)]
      · cases h
    · cases h
theorem rdT_ser {t : T It} (h : Good kI t) : rdT (ser t 0) = some t := by
  cases t with
  | nil => rfl
  | node x l r =>
    unfold rdT
    have hl := ser_len (T.node x l r) 0
    rw [if_neg (by intro e; rw [e] at hl; simp [T.size] at hl), bld_ok (T.node x l r) _ 0 (by rw [hl]; exact Nat.le_refl _) rfl (ser_at _) h]
    simp only [hl, if_true]
end Rk.Ln
