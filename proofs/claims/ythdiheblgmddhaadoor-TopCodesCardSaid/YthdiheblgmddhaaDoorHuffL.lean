/- The contract of huff.Lengths: Huffman's lengths, as the plain law makes them. -/
import Derived.Test.YthdiheblgmddhaaDoorCFpart
import Derived.Test.YthdiheblgmddhaaDoorHuff1
import Derived.Test.YthdiheblgmddhaaDoorHuffQ
import Derived.Test.YthdiheblgmddhaaDoorMake2
namespace Rk
open Go Go.RowKit Go.Proofs
attribute [local irreducible] OpV OpU OpC WL QL WC WX OL RL TL TM

inductive All2 {α β : Type} (R : α → β → Prop) : List α → List β → Prop
  | nil : All2 R [] []
  | cons {a : α} {b : β} {l : List α} {m : List β} (h : R a b) (t : All2 R l m) : All2 R (a :: l) (b :: m)
/-- numbers as they lie in memory -/
def natI (l : List Nat) : List Int := l.map fun i : Nat => (i : Int)
theorem natI_len (l : List Nat) : (natI l).length = l.length := by simp [natI]
/-- a thing of the heap stands for a group: its leaves lie in memory, away from F -/
structure Rep (w : World) (F : Nat → Prop) (x : El_part) (g : Hf.Grp) : Prop where
  w_ : x.1 = g.1
  m_ : x.2.1 = g.2.1
  n_ : x.2.2.2.1 = g.2.2.length
  row : RowOf inC 1 w x.2.2.1 g.2.2.length (lf (natI g.2.2))
  out : ∀ p, x.2.2.1 = some p → ¬ F p.block ∧ p.block < w.heap.size
theorem Rep.chg {w w' : World} {F F' : Nat → Prop} {x : El_part} {g : Hf.Grp} (h : Rep w F x g) (hc : Chg w w' F F') : Rep w' F' x g :=
  ⟨h.w_, h.m_, h.n_, h.row.chg hc fun p hp => (h.out p hp).1, fun p hp => ⟨fun hf => by
    rcases (hc.next _ hf).1 with h1 | h1
    · exact (h.out p hp).1 h1
    · have := (h.out p hp).2; omega, Nat.lt_of_lt_of_le (h.out p hp).2 hc.size⟩⟩
theorem Rep.below {w w' : World} {F : Nat → Prop} {x : El_part} {g : Hf.Grp} (h : Rep w F x g) (hb : Below w.heap.size w w') : Rep w' F x g :=
  ⟨h.w_, h.m_, h.n_, h.row.below hb, fun p hp => ⟨(h.out p hp).1, Nat.lt_of_lt_of_le (h.out p hp).2 hb.size⟩⟩
/-- the heap's things stand for groups -/
def Reps (w : World) (F : Nat → Prop) (l : List El_part) (gs : List Hf.Grp) : Prop := ∃ l', l.Perm l' ∧ All2 (Rep w F) l' gs
theorem forall2_imp {α β : Type} {R S : α → β → Prop} (h : ∀ a b, R a b → S a b) : ∀ {l : List α} {m : List β}, All2 R l m → All2 S l m := by
  intro l m hf
  induction hf with
  | nil => exact .nil
  | cons h1 _ ih => exact .cons (h _ _ h1) ih
theorem Reps.chg {w w' : World} {F F' : Nat → Prop} {l : List El_part} {gs : List Hf.Grp} (h : Reps w F l gs) (hc : Chg w w' F F') : Reps w' F' l gs := by
  obtain ⟨l', hp, hf⟩ := h
  exact ⟨l', hp, forall2_imp (fun _ _ h => h.chg hc) hf⟩
theorem Reps.below {w w' : World} {F : Nat → Prop} {l : List El_part} {gs : List Hf.Grp} (h : Reps w F l gs) (hb : Below w.heap.size w w') : Reps w' F l gs := by
  obtain ⟨l', hp, hf⟩ := h
  exact ⟨l', hp, forall2_imp (fun _ _ h => h.below hb) hf⟩
theorem Reps.perm {w : World} {F : Nat → Prop} {l l2 : List El_part} {gs : List Hf.Grp} (h : Reps w F l gs) (hp : l2.Perm l) : Reps w F l2 gs := by
  obtain ⟨l', hp', hf⟩ := h
  exact ⟨l', hp.trans hp', hf⟩
theorem forall2_len {α β : Type} {R : α → β → Prop} {l : List α} {m : List β} (h : All2 R l m) : l.length = m.length := by
  induction h with
  | nil => rfl
  | cons _ _ ih => simp [ih]
theorem Reps.len {w : World} {F : Nat → Prop} {l : List El_part} {gs : List Hf.Grp} (h : Reps w F l gs) : l.length = gs.length := by
  obtain ⟨l', hp, hf⟩ := h
  rw [hp.length_eq, forall2_len hf]
theorem forall2_ins {w : World} {F : Nat → Prop} {x : El_part} {g : Hf.Grp} (hx : Rep w F x g) : ∀ {l : List El_part} {gs : List Hf.Grp}, All2 (Rep w F) l gs → Reps w F (x :: l) (Hf.ins g gs) := by
  intro l gs h
  induction h with
  | nil => exact ⟨[x], List.Perm.refl _, .cons hx .nil⟩
  | @cons y k r ks h1 h2 ih =>
    simp only [Hf.ins]
    split
    · exact ⟨_, List.Perm.refl _, .cons hx (.cons h1 h2)⟩
    · obtain ⟨l', hp, hf⟩ := ih
      exact ⟨y :: l', (List.Perm.swap y x r).trans (List.Perm.cons y hp), .cons h1 hf⟩
theorem Reps.ins {w : World} {F : Nat → Prop} {l l2 : List El_part} {gs : List Hf.Grp} {x : El_part} {g : Hf.Grp} (h : Reps w F l gs) (hx : Rep w F x g) (hp : l2.Perm (x :: l)) : Reps w F l2 (Hf.ins g gs) := by
  obtain ⟨l', hp', hf⟩ := h
  exact (forall2_ins hx hf).perm (hp.trans (List.Perm.cons x hp'))
theorem forall2_mem {α β : Type} {R : α → β → Prop} {l : List α} {m : List β} (h : All2 R l m) : ∀ a ∈ l, ∃ b ∈ m, R a b := by
  induction h with
  | nil => intro a ha; cases ha
  | cons h1 _ ih =>
    intro a ha
    rcases List.mem_cons.1 ha with rfl | ha
    · exact ⟨_, List.mem_cons_self, h1⟩
    · obtain ⟨b, hb, hr⟩ := ih a ha; exact ⟨b, List.mem_cons_of_mem _ hb, hr⟩
/-- the groups of a heap: sorted, made at different times -/
structure GsOk (gs : List Hf.Grp) : Prop where
  sorted : gs.Pairwise Hf.le
  made : gs.Pairwise (fun a b => a.2.1 ≠ b.2.1)
  small : ∀ g ∈ gs, g.1 ≤ 100000 ∧ g.2.1 ≤ 1000
/-- what is popped is the first group -/
theorem Reps.pop {w : World} {F : Nat → Prop} {l l2 : List El_part} {g : Hf.Grp} {gs : List Hf.Grp} {x : El_part} (h : Reps w F l (g :: gs)) (ok : GsOk (g :: gs)) (hp : l.Perm (x :: l2)) (hl : ∀ y ∈ l2, G.Key.key x ≤ G.Key.key y) : Rep w F x g ∧ Reps w F l2 gs := by
  obtain ⟨l', hp', hf⟩ := h
  cases hf with
  | @cons y _ r _ h1 h2 =>
    have hmem : x ∈ y :: r := hp'.mem_iff.1 (hp.mem_iff.2 List.mem_cons_self)
    have hxy : x = y := by
      rcases List.mem_cons.1 hmem with e | hxr
      · exact e
      · exfalso
        obtain ⟨g2, hg2, hr2⟩ := forall2_mem h2 x hxr
        have s1 := (List.pairwise_cons.1 ok.sorted).1 g2 hg2
        have s2 := (List.pairwise_cons.1 ok.made).1 g2 hg2
        have hy2 : y ∈ x :: l2 := hp.mem_iff.1 (hp'.mem_iff.2 List.mem_cons_self)
        have b1 := ok.small g List.mem_cons_self
        have b2 := ok.small g2 (List.mem_cons_of_mem _ hg2)
        have hkey : G.Key.key x ≤ G.Key.key y := by
          rcases List.mem_cons.1 hy2 with e | hy2
          · rw [e]; exact Int.le_refl _
          · exact hl y hy2
        simp only [G.Key.key] at hkey
        have := h1.w_; have := h1.m_; have := hr2.w_; have := hr2.m_
        unfold Hf.le at s1
        omega
    subst hxy
    exact ⟨h1, ⟨r, (hp.symm.trans hp').cons_inv, h2⟩⟩
theorem Rep.okE {w : World} {F : Nat → Prop} {x : El_part} {g : Hf.Grp} (h : Rep w F x g) (hg : g.1 ≤ 100000 ∧ g.2.1 ≤ 1000) : okE_part x := by
  have := h.w_; have := h.m_
  refine ⟨by omega, by omega, by omega, by omega⟩
theorem GsOk.ins {gs : List Hf.Grp} {g : Hf.Grp} (h : GsOk gs) (hm : ∀ k ∈ gs, k.2.1 ≠ g.2.1) (hs : g.1 ≤ 100000 ∧ g.2.1 ≤ 1000) : GsOk (Hf.ins g gs) := by
  refine ⟨Hf.ins_sorted h.sorted, ?_, fun k hk => ?_⟩
  · have hp := Hf.ins_perm g gs
    refine (hp.pairwise_iff (fun {a b} hab => Ne.symm hab)).2 (List.pairwise_cons.2 ⟨fun k hk => Ne.symm (hm k hk), h.made⟩)
  · rcases List.mem_cons.1 ((Hf.ins_perm g gs).mem_iff.1 hk) with rfl | hk
    · exact hs
    · exact h.small k hk
theorem GsOk.tail {gs : List Hf.Grp} {g : Hf.Grp} (h : GsOk (g :: gs)) : GsOk gs :=
  ⟨(List.pairwise_cons.1 h.sorted).2, (List.pairwise_cons.1 h.made).2, fun k hk => h.small k (List.mem_cons_of_mem _ hk)⟩
end Rk
