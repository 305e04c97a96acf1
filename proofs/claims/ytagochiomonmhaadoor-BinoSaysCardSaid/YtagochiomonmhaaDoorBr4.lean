/- The contract of the document's meld of two heaps of trees. -/
import Derived.Test.YtagochiomonmhaaDoorBr3
import Derived.Test.YtagochiomonmhaaDoorBin5
namespace Rk
open Go Go.RowKit Go.Proofs
attribute [local irreducible] OpV OpU OpC WL QL WC WX OL RL TL TM
theorem slC_oneI (x : SlI) : ∀ u ∈ slC x, u.oneCell' = true := by simp [slC, slV, Value.oneCell']
abbrev sl (t : BTr) : SlI := (t.2.1, t.2.2)
def noS : SlI := ((none, 0), [])
/-- the items of the tree of a rank, or none -/
def lookT (ts : List BTr) (r : Nat) : SlI := match ts.find? (fun t => decide (t.1 = (r : Int))) with
  | some t => sl t
  | none => noS
def fstT (r : Int) (a : List BTr) : List BTr := match a with
  | [] => []
  | t :: _ => if t.1 = r then [t] else []
def restT (r : Int) (a : List BTr) : List BTr := match a with
  | [] => []
  | t :: h => if t.1 = r then h else t :: h
def outT : List BTr → List BTr
  | [x] => [x]
  | [x, _, _] => [x]
  | _ => []
def csl : List BTr → SlI
  | [] => noS
  | t :: _ => sl t
theorem fstT_bt (r : Int) (a : List BTr) : (fstT r a).map bt = Bn.fst r (a.map bt) := by
  cases a with
  | nil => rfl
  | cons t h =>
    simp only [fstT, List.map_cons, Bn.fst]
    rw [show (bt t).1 = t.1 from rfl]
    split <;> rfl
theorem restT_bt (r : Int) (a : List BTr) : (restT r a).map bt = Bn.rest r (a.map bt) := by
  cases a with
  | nil => rfl
  | cons t h =>
    simp only [restT, List.map_cons, Bn.rest]
    rw [show (bt t).1 = t.1 from rfl]
    split <;> rfl
theorem outT_bt (l : List BTr) : (outT l).map bt = Bn.outB (l.map bt) := by
  rcases l with _ | ⟨x, _ | ⟨y, _ | ⟨z, _ | ⟨u, l⟩⟩⟩⟩ <;> rfl
theorem fstT_mem {r : Int} {a : List BTr} : ∀ t ∈ fstT r a, t ∈ a := by
  cases a with
  | nil => intro t ht; cases ht
  | cons u h =>
    intro t ht
    simp only [fstT] at ht
    split at ht
    · simp at ht; subst ht; simp
    · cases ht
theorem restT_mem {r : Int} {a : List BTr} : ∀ t ∈ restT r a, t ∈ a := by
  cases a with
  | nil => intro t ht; cases ht
  | cons u h =>
    intro t ht
    simp only [restT] at ht
    split at ht
    · exact List.mem_cons_of_mem _ ht
    · exact ht
theorem meldB_nil (f : Nat) (r : Int) : Bn.meldB f r [] [] [] = [] := by
  cases f with
  | zero => rfl
  | succ f => simp [Bn.meldB]
theorem meldB_step (f : Nat) (r : Int) (a b c : List Bn.BT) : Bn.meldB (f + 1) r a b c = Bn.outB (c ++ Bn.fst r a ++ Bn.fst r b) ++ Bn.meldB f (r + 1) (Bn.rest r a) (Bn.rest r b) (Bn.carB (c ++ Bn.fst r a ++ Bn.fst r b)) := by
  simp only [Bn.meldB]
  split
  · rename_i h
    obtain rfl := List.eq_nil_of_length_eq_zero (show a.length = 0 by omega)
    obtain rfl := List.eq_nil_of_length_eq_zero (show b.length = 0 by omega)
    obtain rfl := List.eq_nil_of_length_eq_zero (show c.length = 0 by omega)
    have e1 : Bn.rest r [] = [] := rfl
    have e2 : Bn.fst r [] = [] := rfl
    rw [e1, e2]
    show [] = [] ++ Bn.meldB f (r + 1) [] [] []
    rw [meldB_nil]; rfl
  · rfl
theorem asc_pair {M : Int} : ∀ {h : List Bn.BT} {r : Int}, Bn.Asc M r h → h.Pairwise (fun a b => a.1 < b.1) := by
  intro h
  induction h with
  | nil => intro r _; exact List.Pairwise.nil
  | cons t h ih =>
    intro r ha
    exact List.pairwise_cons.2 ⟨fun u hu => by have := (ha.2.2.2.all u hu).2.1; omega, ih ha.2.2.2⟩
/-- at rank r there is at most the first tree -/
theorem look_at {M r : Int} {n : Nat} {a : List BTr} (hr : r = (n : Int)) (ha : Bn.Asc M r (a.map bt)) : lookT a n = csl (fstT r a) ∧ ∀ m : Nat, n < m → lookT a m = lookT (restT r a) m := by
  subst hr
  cases a with
  | nil => exact ⟨rfl, fun m _ => rfl⟩
  | cons t h =>
    by_cases ht : t.1 = (n : Int)
    · refine ⟨?_, fun m hm => ?_⟩
      · simp only [lookT, fstT, List.find?_cons, ht, decide_true, if_true]; rfl
      · have : ¬ ((n : Int) = (m : Int)) := by omega
        simp only [lookT, restT, List.find?_cons, ht, if_true, decide_eq_false this]
    · refine ⟨?_, fun m hm => by simp only [restT, if_neg ht]⟩
      have hn : (t :: h).find? (fun t => decide (t.1 = (n : Int))) = none := by
        rw [List.find?_eq_none]
        intro u hu
        simp only [decide_eq_true_eq]
        rcases List.mem_cons.1 hu with rfl | hu
        · exact ht
        · have h1 := (ha.2.2.2.all (bt u) (List.mem_map_of_mem hu)).2.1
          have h2 := ha.1
          rw [show (bt u).1 = u.1 from rfl, show (bt t).1 = t.1 from rfl] at h1
          rw [show (bt t).1 = t.1 from rfl] at h2
          omega
      simp only [lookT, hn, fstT, if_neg ht]; rfl
theorem look_none {a : List BTr} {n : Nat} (h : ∀ t ∈ a, t.1 ≠ (n : Int)) : lookT a n = noS := by
  have hn : a.find? (fun t => decide (t.1 = (n : Int))) = none := by
    rw [List.find?_eq_none]
    intro u hu
    simp only [decide_eq_true_eq]
    exact h u hu
  simp only [lookT, hn]
/-- one more tree -/
theorem look_take {M r : Int} {ts : List BTr} {k : Nat} (ha : Bn.Asc M r (ts.map bt)) (hk : k < ts.length) (n : Nat) : lookT (ts.take (k + 1)) n = if (lf ts k).1 = (n : Int) then sl (lf ts k) else lookT (ts.take k) n := by
  have hp := asc_pair ha
  rw [List.pairwise_map] at hp
  rw [List.take_succ_eq_append_getElem hk, ← lf_get hk]
  unfold lookT
  rw [List.find?_append]
  by_cases h : (lf ts k).1 = (n : Int)
  · rw [if_pos h]
    have hn : (ts.take k).find? (fun t => decide (t.1 = (n : Int))) = none := by
      rw [List.find?_eq_none]
      intro u hu
      simp only [decide_eq_true_eq]
      obtain ⟨i, hi, rfl⟩ := List.getElem_of_mem hu
      rw [List.length_take] at hi
      rw [List.getElem_take]
      have := List.pairwise_iff_getElem.1 hp i k (by omega) hk (by omega)
      rw [lf_get hk] at h
      rw [show (bt ts[i]).1 = ts[i].1 from rfl, show (bt ts[k]).1 = ts[k].1 from rfl] at this
      omega
    rw [hn]
    simp [h]
  · rw [if_neg h]
    have e : [lf ts k].find? (fun t => decide (t.1 = (n : Int))) = none := by simp [h]
    rw [e, Option.or_none]
/-- a slice of one tree's items, or none -/
def OneS (s : SlI) (p : List BTr) : Prop := (p = [] ∧ s = noS) ∨ ∃ t, p = [t] ∧ s = sl t ∧ 0 < t.2.2.length
theorem OneS.yes {s : SlI} {p : List BTr} (h : OneS s p) (h0 : 0 < s.2.length) : p.map sl = [s] := by
  rcases h with ⟨rfl, rfl⟩ | ⟨t, rfl, rfl, _⟩
  · simp [noS] at h0
  · rfl
theorem OneS.no {s : SlI} {p : List BTr} (h : OneS s p) (h0 : ¬ 0 < s.2.length) : p.map sl = [] := by
  rcases h with ⟨rfl, rfl⟩ | ⟨t, rfl, rfl, h1⟩
  · rfl
  · exact absurd h1 h0
theorem OneS.of {p : List BTr} {r : Int} (h : p.map bt = [] ∨ ∃ t, p.map bt = [t] ∧ Bn.GT t ∧ t.1 = r) : OneS (csl p) p ∧ p.length ≤ 1 ∧ ∀ t ∈ p, Bn.GT (bt t) ∧ t.1 = r := by
  rcases p with _ | ⟨t, _ | ⟨u, p⟩⟩
  · exact ⟨.inl ⟨rfl, rfl⟩, by simp, fun t ht => by cases ht⟩
  · rcases h with h | ⟨t', e, h1, h2⟩
    · simp at h
    · simp only [List.map_cons, List.map_nil, List.cons.injEq, and_true] at e
      subst e
      exact ⟨.inr ⟨t, rfl, rfl, h1.ne⟩, by simp, fun u hu => by simp at hu; subst hu; exact ⟨h1, h2⟩⟩
  · rcases h with h | ⟨t', e, _⟩
    · simp at h
    · simp at e
/-- what there is while the document melds: the trees of each rank, what came out, what is carried -/
def BkT (Φ : Nat → Prop) (ts : List BTr) : Prop := ∀ t ∈ ts, ∀ p, t.2.1.1 = some p → 0 < t.2.2.length → Φ p.block
theorem BkT.sub {Φ : Nat → Prop} {ts us : List BTr} (h : BkT Φ ts) (hs : ∀ t ∈ us, t ∈ ts) : BkT Φ us := fun t ht => h t (hs t ht)
theorem BkT.app {Φ : Nat → Prop} {ts us : List BTr} (h : BkT Φ ts) (h' : BkT Φ us) : BkT Φ (ts ++ us) := fun t ht => by
  rcases List.mem_append.1 ht with ht | ht
  · exact h t ht
  · exact h' t ht
theorem BkT.nil (Φ : Nat → Prop) : BkT Φ [] := fun t ht => by cases ht
structure MJ (Φ : Nat → Prop) (w wr : World) (gx gy : Nat) (X Y : Nat → SlI) (os c : List BTr) (ov : Value) : Prop where
  ix : OwnS slC 1 35 wr w.heap.size gx 8 8 X
  iy : OwnS slC 1 35 wr w.heap.size gy 8 8 Y
  oo : OwnTr wr w.heap.size ov os
  ok : OkT wr (c ++ os)
  o1 : ∀ g, ov.ownBlock = some g → g ≠ gx ∧ g ≠ gy ∧ g < wr.heap.size ∧ w.heap.size ≤ g
  ot : ∀ g, ov.ownBlock = some g → ApT g (c ++ os)
  below : Below w.heap.size w wr
  src : BkT Φ (c ++ os)
section
variable {Φ : Nat → Prop}
variable {w wr w' : World} {gx gy : Nat} {X Y : Nat → SlI} {os c c' : List BTr} {ov v' : Value} {row : Option Nat} {t : BTr}
theorem MJ.belowW (h : MJ Φ w wr gx gy X Y os c ov) (hB : Below wr.heap.size wr w') : MJ Φ w w' gx gy X Y os c ov :=
  ⟨h.ix.below hB, h.iy.below hB, h.oo.below hB, h.ok.below hB, fun g hg => by have := h.o1 g hg; have := hB.size; omega, h.ot, h.below.tr hB, h.src⟩
theorem MJ.carry (h : MJ Φ w wr gx gy X Y os c ov) (hok : OkT wr c') (hap : ∀ g, ov.ownBlock = some g → ApT g c') (hsrc : BkT Φ c') : MJ Φ w wr gx gy X Y os c' ov :=
  ⟨h.ix, h.iy, h.oo, hok.app (h.ok.sub fun t ht => List.mem_append.2 (.inr ht)), h.o1, fun g hg => (hap g hg).app ((h.ot g hg).sub fun t ht => List.mem_append.2 (.inr ht)), h.below, hsrc.app (h.src.sub fun t ht => List.mem_append.2 (.inr ht))⟩
theorem MJ.push (h : MJ Φ w wr gx gy X Y os c ov) (ht : t ∈ c) (ho : OwnTr w' w.heap.size v' (os ++ [t])) (hg : wr.grownBy w' row) (hrow : row = none ∨ row = ov.ownBlock) (hbase : ∀ g, row = some g → w.heap.size ≤ g)
    (hlt : ∀ g, v'.ownBlock = some g → g < w'.heap.size) (hsep : ∀ u, Sep wr ov u → Sep w' v' u) : MJ Φ w w' gx gy X Y (os ++ [t]) c v' := by
  have hx := h.ix.lt
  have hy := h.iy.lt
  have hrn : ∀ g, row = some g → ov.ownBlock = some g := fun g hg => by
    rcases hrow with e | e
    · rw [e] at hg; cases hg
    · rw [← e]; exact hg
  have hapg : ∀ g, v'.ownBlock = some g → ∀ k, k < wr.heap.size → (∀ g', ov.ownBlock = some g' → g' ≠ k) → g ≠ k := fun g hg k hk hn e => by
    subst e
    refine (hsep (.slice (some ⟨g, 0, none⟩) 1 1) ⟨fun g' hg' => (h.o1 g' hg').2.2.1, fun g' hg' => ?_, fun g' h1 h2 => ?_⟩).apart g hg rfl
    · simp [Value.ownBlock] at hg'; omega
    · simp [Value.ownBlock] at h2; exact hn g' h1 h2.symm
  have hmem : ∀ u ∈ c ++ (os ++ [t]), u ∈ c ++ os := fun u hu => by
    rcases List.mem_append.1 hu with hu | hu
    · exact List.mem_append.2 (.inl hu)
    · rcases List.mem_append.1 hu with hu | hu
      · exact List.mem_append.2 (.inr hu)
      · simp at hu; subst hu; exact List.mem_append.2 (.inl ht)
  refine ⟨h.ix.keep hg (fun e => (h.o1 gx (hrn gx e)).1 rfl), h.iy.keep hg (fun e => (h.o1 gy (hrn gy e)).2.1 rfl), ho, ?_, fun g hg' => ⟨hapg g hg' gx hx (fun g' h1 => (h.o1 g' h1).1), hapg g hg' gy hy (fun g' h1 => (h.o1 g' h1).2.1), hlt g hg', (Own.blk ho g hg' (by simp)).1⟩, ?_, h.below.gr0 hg hbase, h.src.sub hmem⟩
  · exact (h.ok.keep hg fun g e => h.ot g (hrn g e)).sub hmem
  · intro g hg'
    refine ApT.sub (ts := c ++ os) (fun u hu p hp h0 e => ?_) hmem
    have hpl := h.ok.lt u hu p hp h0
    exact hapg g hg' p.block hpl (fun g' h1 e2 => h.ot g' h1 u hu p hp h0 e2.symm) e.symm
end
/-- trees that a call gives back, of items that may have been there before -/
def MeldT (Φ : Nat → Prop) (w w' : World) (v : Value) (h : List Bn.BT) : Prop := ∃ A c us, v = .slice A us.length c ∧ us.length ≤ c ∧ RowOf trC 2 w' A us.length (lf us) ∧ OkT w' us ∧ us.map bt = h ∧ Below w.heap.size w w' ∧ BkT Φ us ∧ ∀ p, A = some p → 0 < us.length → w.heap.size ≤ p.block
end Rk
