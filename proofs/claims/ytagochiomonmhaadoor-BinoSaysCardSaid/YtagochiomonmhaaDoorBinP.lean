/- Plain law: heaps of trees, as numbers have digits: two trees linked, two heaps melded digit by digit. No program in sight. -/
import Derived.Test.YtagochiomonmhaaDoorOrd1
import Derived.Test.YtagochiomonmhaaDoorOwn
import Derived.Test.YtagochiomonmhaaDoorSort
namespace Rk.Bn
open Rk
/-- a tree: its rank, its items -/
abbrev BT := Int × List It
def k0 (l : List It) : Int := (lf l 0).1
def holB : Nat → List It → Bool
  | 0, _ => true
  | k + 1, l => decide (k0 l ≤ k0 (l.drop 1)) && holB k ((l.drop 1).take (2 ^ k)) && holB k (l.take 1 ++ l.drop (1 + 2 ^ k))
theorem k0_cons (x : It) (l : List It) : k0 (x :: l) = x.1 := rfl
theorem pow_pos (k : Nat) : 0 < 2 ^ k := Nat.pow_pos (by omega)
theorem hol_cons (k : Nat) (x : It) (p q : List It) (hp : p.length = 2 ^ k) : holB (k + 1) (x :: (p ++ q)) = (decide (x.1 ≤ k0 p) && holB k p && holB k (x :: q)) := by
  have h0 := pow_pos k
  have e1 : k0 (p ++ q) = k0 p := by
    cases p with
    | nil => simp at hp; omega
    | cons y p => rfl
  have e2 : (p ++ q).take (2 ^ k) = p := by rw [← hp]; simp
  have e3 : (x :: (p ++ q)).drop (1 + 2 ^ k) = q := by rw [Nat.add_comm, List.drop_succ_cons, ← hp]; simp
  simp only [holB, List.drop_succ_cons, List.drop_zero, k0_cons, e1, e2, e3, List.take_succ_cons, List.take_zero, List.singleton_append]
/-- a list of 2 to k + 1 items cut -/
theorem cut {k : Nat} {l : List It} (h : l.length = 2 ^ (k + 1)) : ∃ x p q, l = x :: (p ++ q) ∧ p.length = 2 ^ k ∧ (x :: q).length = 2 ^ k := by
  have h0 := pow_pos k
  rw [Nat.pow_succ] at h
  cases l with
  | nil => simp at h; omega
  | cons x t =>
    refine ⟨x, t.take (2 ^ k), t.drop (2 ^ k), by rw [List.take_append_drop], ?_, ?_⟩
    · rw [List.length_take]; simp at h; omega
    · rw [List.length_cons, List.length_drop]; simp at h; omega
theorem hol_least : ∀ (k : Nat) (l : List It), l.length = 2 ^ k → holB k l = true → ∀ y ∈ l, k0 l ≤ y.1 := by
  intro k
  induction k with
  | zero =>
    intro l hl _ y hy
    cases l with
    | nil => simp at hl
    | cons x t =>
      have : t = [] := List.eq_nil_of_length_eq_zero (by simpa using hl)
      subst this
      simp at hy; subst hy
      exact Int.le_refl _
  | succ k ih =>
    intro l hl hh y hy
    obtain ⟨x, p, q, rfl, hp, hq⟩ := cut hl
    rw [hol_cons k x p q hp] at hh
    simp only [Bool.and_eq_true, decide_eq_true_eq] at hh
    rw [k0_cons]
    rcases List.mem_cons.1 hy with rfl | hy
    · exact Int.le_refl _
    · rcases List.mem_append.1 hy with hy | hy
      · exact Int.le_trans hh.1.1 (ih p hp hh.1.2 y hy)
      · exact ih (x :: q) hq hh.2 y (List.mem_cons_of_mem _ hy)
def mkL (a b : BT) : BT := (a.1 + 1, a.2.take 1 ++ b.2 ++ a.2.drop 1)
def linkB (a b : BT) : BT := if k0 b.2 < k0 a.2 then mkL b a else mkL a b
/-- a right tree -/
structure GT (t : BT) : Prop where
  ge : 0 ≤ t.1
  len : t.2.length = 2 ^ t.1.toNat
  hol : holB t.1.toNat t.2 = true
  ok : ∀ x ∈ t.2, okIt x = true
theorem GT.ne {t : BT} (h : GT t) : 0 < t.2.length := by rw [h.len]; exact pow_pos _
theorem mkL_good {a b : BT} (ha : GT a) (hb : GT b) (hr : a.1 = b.1) (hk : k0 a.2 ≤ k0 b.2) : GT (mkL a b) ∧ (mkL a b).2.Perm (a.2 ++ b.2) := by
  obtain ⟨ra, la⟩ := a
  obtain ⟨rb, lb⟩ := b
  dsimp only at hr hk
  subst hr
  have h1 := ha.len
  have h2 := hb.len
  have h3 := ha.hol
  have h4 := hb.hol
  have h5 := ha.ge
  have h6 := ha.ne
  dsimp only at h1 h2 h3 h4 h5 h6
  cases la with
  | nil => simp at h6
  | cons x t =>
    have e : (mkL (ra, x :: t) (ra, lb)).2 = x :: (lb ++ t) := by simp [mkL]
    have e1 : (ra + 1).toNat = ra.toNat + 1 := by omega
    refine ⟨⟨by show 0 ≤ ra + 1; omega, ?_, ?_, ?_⟩, ?_⟩
    · rw [e]
      show (x :: (lb ++ t)).length = 2 ^ (ra + 1).toNat
      rw [e1, Nat.pow_succ]
      simp only [List.length_cons, List.length_append] at h1 h2 ⊢
      omega
    · rw [e]
      show holB (ra + 1).toNat (x :: (lb ++ t)) = true
      rw [e1, hol_cons _ _ _ _ h2, h4, h3]
      simpa [k0_cons] using hk
    · rw [e]
      intro y hy
      rcases List.mem_cons.1 hy with e2 | hy
      · rw [e2]; exact ha.ok x (by simp)
      · rcases List.mem_append.1 hy with hy | hy
        · exact hb.ok y hy
        · exact ha.ok y (List.mem_cons_of_mem _ hy)
    · rw [e]
      show (x :: (lb ++ t)).Perm (x :: t ++ lb)
      rw [List.cons_append]
      exact List.Perm.cons _ List.perm_append_comm
theorem link_good {a b : BT} (ha : GT a) (hb : GT b) (hr : a.1 = b.1) : GT (linkB a b) ∧ (linkB a b).1 = a.1 + 1 ∧ (linkB a b).2.Perm (a.2 ++ b.2) := by
  unfold linkB
  split
  · rename_i h
    obtain ⟨h1, h2⟩ := mkL_good hb ha hr.symm (by omega)
    exact ⟨h1, by show b.1 + 1 = _; rw [hr], h2.trans List.perm_append_comm⟩
  · rename_i h
    obtain ⟨h1, h2⟩ := mkL_good ha hb hr (by omega)
    exact ⟨h1, rfl, h2⟩
def itemsB (h : List BT) : List It := h.flatMap (·.2)
def sizeB (h : List BT) : Nat := (itemsB h).length
theorem itemsB_cons (t : BT) (h : List BT) : itemsB (t :: h) = t.2 ++ itemsB h := rfl
theorem itemsB_app (a b : List BT) : itemsB (a ++ b) = itemsB a ++ itemsB b := by simp [itemsB]
theorem sizeB_cons (t : BT) (h : List BT) : sizeB (t :: h) = t.2.length + sizeB h := by simp [sizeB, itemsB_cons]
/-- ranks that rise, from r on, to M at most -/
def Asc (M : Int) : Int → List BT → Prop
  | _, [] => True
  | r, t :: h => r ≤ t.1 ∧ t.1 ≤ M ∧ GT t ∧ Asc M (t.1 + 1) h
theorem Asc.weaken {M r s : Int} : ∀ {h : List BT}, Asc M r h → s ≤ r → Asc M s h := by
  intro h ha hs
  cases h with
  | nil => trivial
  | cons t h => exact ⟨by have := ha.1; omega, ha.2⟩
theorem Asc.all {M r : Int} : ∀ {h : List BT}, Asc M r h → ∀ t ∈ h, GT t ∧ r ≤ t.1 ∧ t.1 ≤ M := by
  intro h
  induction h generalizing r with
  | nil => intro _ t ht; cases ht
  | cons u h ih =>
    intro ha t ht
    rcases List.mem_cons.1 ht with rfl | ht
    · exact ⟨ha.2.2.1, ha.1, ha.2.1⟩
    · obtain ⟨h1, h2, h3⟩ := ih ha.2.2.2 t ht
      exact ⟨h1, by have := ha.1; omega, h3⟩
theorem Asc.none {M r : Int} {h : List BT} (ha : Asc M r h) (hr : M < r) : h = [] := by
  cases h with
  | nil => rfl
  | cons t h => have := ha.1; have := ha.2.1; omega
/-- the first tree, if it is of this rank -/
def fst (r : Int) (a : List BT) : List BT := match a with
  | [] => []
  | t :: _ => if t.1 = r then [t] else []
def rest (r : Int) (a : List BT) : List BT := match a with
  | [] => []
  | t :: h => if t.1 = r then h else t :: h
def outB : List BT → List BT
  | [x] => [x]
  | [x, _, _] => [x]
  | _ => []
def carB : List BT → List BT
  | [x, y] => [linkB x y]
  | [_, x, y] => [linkB x y]
  | _ => []
def meldB : Nat → Int → List BT → List BT → List BT → List BT
  | 0, _, _, _, _ => []
  | f + 1, r, a, b, c => if a.length + b.length + c.length = 0 then [] else
    outB (c ++ fst r a ++ fst r b) ++ meldB f (r + 1) (rest r a) (rest r b) (carB (c ++ fst r a ++ fst r b))
theorem fst_rest {M r : Int} {a : List BT} (h : Asc M r a) : Asc M (r + 1) (rest r a) ∧ (itemsB (fst r a) ++ itemsB (rest r a)).Perm (itemsB a) ∧ (fst r a = [] ∨ ∃ t, fst r a = [t] ∧ GT t ∧ t.1 = r) := by
  cases a with
  | nil => exact ⟨trivial, List.Perm.refl _, .inl rfl⟩
  | cons t h' =>
    by_cases ht : t.1 = r
    · simp only [fst, rest, if_pos ht]
      exact ⟨by have := h.2.2.2; rwa [ht] at this, by simp [itemsB], .inr ⟨t, rfl, h.2.2.1, ht⟩⟩
    · simp only [fst, rest, if_neg ht]
      exact ⟨⟨by have := h.1; omega, h.2⟩, by simp [itemsB], by simp⟩
theorem step_ok {r : Int} {c p q : List BT} (hc : c = [] ∨ ∃ t, c = [t] ∧ GT t ∧ t.1 = r) (hp : p = [] ∨ ∃ t, p = [t] ∧ GT t ∧ t.1 = r) (hq : q = [] ∨ ∃ t, q = [t] ∧ GT t ∧ t.1 = r) :
    (outB (c ++ p ++ q) = [] ∨ ∃ t, outB (c ++ p ++ q) = [t] ∧ GT t ∧ t.1 = r) ∧ (carB (c ++ p ++ q) = [] ∨ ∃ t, carB (c ++ p ++ q) = [t] ∧ GT t ∧ t.1 = r + 1 ∧ (p ≠ [] ∨ q ≠ [])) ∧
      (itemsB (outB (c ++ p ++ q)) ++ itemsB (carB (c ++ p ++ q))).Perm (itemsB c ++ itemsB p ++ itemsB q) := by
  rcases hc with rfl | ⟨x, rfl, hx, ex⟩ <;> rcases hp with rfl | ⟨y, rfl, hy, ey⟩ <;> rcases hq with rfl | ⟨z, rfl, hz, ez⟩
  · exact ⟨.inl rfl, .inl rfl, List.Perm.refl _⟩
  · exact ⟨.inr ⟨z, rfl, hz, ez⟩, .inl rfl, by simp [itemsB, outB, carB]⟩
  · exact ⟨.inr ⟨y, rfl, hy, ey⟩, .inl rfl, by simp [itemsB, outB, carB]⟩
  · obtain ⟨h1, h2, h3⟩ := link_good hy hz (ey.trans ez.symm)
    exact ⟨.inl rfl, .inr ⟨_, rfl, h1, by rw [h2, ey], .inl (by simp)⟩, by simpa [itemsB, outB, carB] using h3⟩
  · exact ⟨.inr ⟨x, rfl, hx, ex⟩, .inl rfl, by simp [itemsB, outB, carB]⟩
  · obtain ⟨h1, h2, h3⟩ := link_good hx hz (ex.trans ez.symm)
    exact ⟨.inl rfl, .inr ⟨_, rfl, h1, by rw [h2, ex], .inr (by simp)⟩, by simpa [itemsB, outB, carB] using h3⟩
  · obtain ⟨h1, h2, h3⟩ := link_good hx hy (ex.trans ey.symm)
    exact ⟨.inl rfl, .inr ⟨_, rfl, h1, by rw [h2, ex], .inl (by simp)⟩, by simpa [itemsB, outB, carB] using h3⟩
  · obtain ⟨h1, h2, h3⟩ := link_good hy hz (ey.trans ez.symm)
    exact ⟨.inr ⟨x, rfl, hx, ex⟩, .inr ⟨_, rfl, h1, by rw [h2, ey], .inl (by simp)⟩, by simpa [itemsB, outB, carB] using List.Perm.append_left x.2 h3⟩
theorem meldB_ok : ∀ (f : Nat) (r : Int) (a b c : List BT), 0 ≤ r → r + f = 8 → Asc 5 r a → Asc 5 r b → (c = [] ∨ ∃ t, c = [t] ∧ GT t ∧ t.1 = r ∧ r ≤ 6) →
    Asc 6 r (meldB f r a b c) ∧ (itemsB (meldB f r a b c)).Perm (itemsB a ++ itemsB b ++ itemsB c) := by
  intro f
  induction f with
  | zero =>
    intro r a b c h0 hr ha hb hc
    obtain rfl := ha.none (by omega)
    obtain rfl := hb.none (by omega)
    obtain rfl : c = [] := by
      rcases hc with h | ⟨_, _, _, _, h⟩
      · exact h
      · omega
    exact ⟨trivial, List.Perm.refl _⟩
  | succ f ih =>
    intro r a b c h0 hr ha hb hc
    simp only [meldB]
    by_cases h : a.length + b.length + c.length = 0
    · rw [if_pos h]
      obtain rfl := List.eq_nil_of_length_eq_zero (show a.length = 0 by omega)
      obtain rfl := List.eq_nil_of_length_eq_zero (show b.length = 0 by omega)
      obtain rfl := List.eq_nil_of_length_eq_zero (show c.length = 0 by omega)
      exact ⟨trivial, List.Perm.refl _⟩
    · rw [if_neg h]
      obtain ⟨a1, a2, a3⟩ := fst_rest ha
      obtain ⟨b1, b2, b3⟩ := fst_rest hb
      have hc' : c = [] ∨ ∃ t, c = [t] ∧ GT t ∧ t.1 = r := hc.imp id fun ⟨t, x, y, z, _⟩ => ⟨t, x, y, z⟩
      obtain ⟨s1, s2, s3⟩ := step_ok hc' a3 b3
      have hr5 : (fst r a ≠ [] ∨ fst r b ≠ []) → r ≤ 5 := fun hh => by
        rcases hh with hh | hh
        · cases a with
          | nil => exact absurd rfl hh
          | cons t l => have := ha.1; have := ha.2.1; omega
        · cases b with
          | nil => exact absurd rfl hh
          | cons t l => have := hb.1; have := hb.2.1; omega
      obtain ⟨i1, i2⟩ := ih (r + 1) (rest r a) (rest r b) (carB (c ++ fst r a ++ fst r b)) (by omega) (by omega) a1 b1 (s2.imp id fun ⟨t, x, y, z, hh⟩ => ⟨t, x, y, z, by have := hr5 hh; omega⟩)
      refine ⟨?_, ?_⟩
      · rcases s1 with e | ⟨t, e, ht, er⟩
        · rw [e]; exact i1.weaken (by omega)
        · rw [e]
          refine ⟨by omega, ?_, ht, by rw [er]; exact i1⟩
          rcases hc with rfl | ⟨_, _, _, _, h6⟩
          · by_cases hh : fst r a ≠ [] ∨ fst r b ≠ []
            · have := hr5 hh; omega
            · have h1 : fst r a = [] := Classical.byContradiction fun q => hh (.inl q)
              have h2 : fst r b = [] := Classical.byContradiction fun q => hh (.inr q)
              rw [h1, h2] at e; simp [outB] at e
          · omega
      · rw [itemsB_app]
        generalize meldB f (r + 1) (rest r a) (rest r b) (carB (c ++ fst r a ++ fst r b)) = m at i2 ⊢
        generalize outB (c ++ fst r a ++ fst r b) = o at s3 ⊢
        generalize carB (c ++ fst r a ++ fst r b) = k at s3 i2
        rw [List.perm_iff_count] at *
        intro x
        have q1 := s3 x
        have q2 := i2 x
        have q3 := a2 x
        have q4 := b2 x
        simp only [List.count_append] at *
        omega
/-- a right heap -/
structure HG (h : List BT) : Prop where
  asc : Asc 5 0 h
  le : sizeB h ≤ 60
theorem two_le {h : List BT} {t : BT} (hm : t ∈ h) : t.2.length ≤ sizeB h := by
  induction h with
  | nil => cases hm
  | cons u h ih =>
    rw [sizeB_cons]
    rcases List.mem_cons.1 hm with rfl | hm
    · omega
    · have := ih hm; omega
theorem Asc.lower {r : Int} : ∀ {h : List BT}, Asc 6 r h → (∀ t ∈ h, t.2.length ≤ 60) → Asc 5 r h := by
  intro h
  induction h generalizing r with
  | nil => intro _ _; trivial
  | cons t h ih =>
    intro ha hl
    refine ⟨ha.1, ?_, ha.2.2.1, ih ha.2.2.2 fun u hu => hl u (List.mem_cons_of_mem _ hu)⟩
    have h1 := hl t List.mem_cons_self
    rw [ha.2.2.1.len] at h1
    have h2 := ha.2.1
    have h3 := ha.2.2.1.ge
    rcases (show t.1 = 6 ∨ t.1 ≤ 5 by omega) with e | e
    · rw [e] at h1; simp at h1
    · exact e
theorem HG.meld {a b : List BT} (ha : HG a) (hb : HG b) (h : sizeB a + sizeB b ≤ 60) : HG (meldB 8 0 a b []) ∧ (itemsB (meldB 8 0 a b [])).Perm (itemsB a ++ itemsB b) := by
  obtain ⟨h1, h2⟩ := meldB_ok 8 0 a b [] (by omega) (by omega) ha.asc hb.asc (.inl rfl)
  have h3 : (itemsB (meldB 8 0 a b [])).Perm (itemsB a ++ itemsB b) := by simpa [itemsB] using h2
  have h4 : sizeB (meldB 8 0 a b []) ≤ 60 := by
    have := h3.length_eq
    rw [List.length_append] at this
    unfold sizeB at *
    omega
  exact ⟨⟨h1.lower fun t ht => Nat.le_trans (two_le ht) h4, h4⟩, h3⟩
theorem HG.nil : HG [] := ⟨trivial, by simp [sizeB, itemsB]⟩
theorem HG.alone {x : It} (h : okIt x = true) : HG [(0, [x])] := ⟨⟨by omega, by omega, ⟨by simp, rfl, rfl, fun y hy => by simp at hy; rw [hy]; exact h⟩, trivial⟩, by simp [sizeB, itemsB]⟩
end Rk.Bn
