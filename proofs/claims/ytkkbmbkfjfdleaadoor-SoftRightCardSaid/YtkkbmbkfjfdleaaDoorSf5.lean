/- Soft heaps in memory: pushed and popped, as the laws ask it; the closed fact. -/
import Derived.Test.YtkkbmbkfjfdleaaDoorSf3
import Derived.Test.YtkkbmbkfjfdleaaDoorSf4
namespace Rk
open Go Go.RowKit Go.Proofs
attribute [local irreducible] OpV OpU OpC WL QL WC WX OL RL TL TM
/-- a heap that keeps its promises -/
structure SH (w : World) (hp R n : Nat) (ts : List Sf.T) (F : Nat → Prop) : Prop where
  mem : SHp w hp R n ts F
  st : Sf.St R n ts
theorem SH.other {w w' : World} {hp R n : Nat} {ts : List Sf.T} {F : Nat → Prop} (h : SH w hp R n ts F) (hs : w.heap.size ≤ w'.heap.size) (hb : ∀ x, F x → w'.heap[x]? = w.heap[x]?) : SH w' hp R n ts F := ⟨h.mem.other hs hb, h.st⟩
theorem SH.below {w w' : World} {hp R n : Nat} {ts : List Sf.T} {F : Nat → Prop} (h : SH w hp R n ts F) (hb : Below w.heap.size w w') : SH w' hp R n ts F := ⟨h.mem.below hb, h.st⟩
/-- a list of the call's own that has nothing to do with F -/
structure LO (w : World) (B : Nat) (F : Nat → Prop) (v : Value) (l : List It) : Prop where
  own : OwnL itC 2 30 w B v l
  lt : ∀ g, v.ownBlock = some g → g < w.heap.size
  out : ∀ g, v.ownBlock = some g → ¬ F g
section
variable {w w' : World} {B : Nat} {F F' : Nat → Prop} {v v' : Value} {l : List It} {a : It} {row : Option Nat}
theorem LO.nil (w : World) (B : Nat) (F : Nat → Prop) : LO w B F (.slice none 0 0) [] := ⟨OwnL.nil _ _ _ _ _ _, fun g hg => (by simp [Value.ownBlock] at hg), fun g hg => (by simp [Value.ownBlock] at hg)⟩
theorem LO.chg (h : LO w B F v l) (hc : Chg w w' F F') : LO w' B F' v l :=
  ⟨h.own.chg hc (fun g hf hv => h.out g hv hf) h.lt, fun g hg => Nat.lt_of_lt_of_le (h.lt g hg) hc.size, fun g hg => hc.stay (h.out g hg) (h.lt g hg)⟩
theorem LO.below (h : LO w B F v l) (hb : Below w.heap.size w w') : LO w' B F v l := ⟨h.own.below hb, fun g hg => Nat.lt_of_lt_of_le (h.lt g hg) hb.size, h.out⟩
theorem LO.mono (h : LO w B F v l) (hf : ∀ g, v.ownBlock = some g → ¬ F' g) : LO w B F' v l := ⟨h.own, h.lt, hf⟩
theorem LO.push (h : LO w B F v l) (hl : ∀ x, F x → x < w.heap.size) (ho : OwnL itC 2 30 w' B v' (l ++ [a])) (hlt : ∀ g, v'.ownBlock = some g → g < w'.heap.size) (hsep : ∀ u, Sep w v u → Sep w' v' u) : LO w' B F v' (l ++ [a]) :=
  ⟨ho, hlt, fun g hg hf => (hsep (.slice (some ⟨g, 0, none⟩) 1 1) ⟨h.lt, fun g' hg' => by simp [Value.ownBlock] at hg'; subst hg'; exact hl _ hf, fun g' h1 h2 => by
    simp [Value.ownBlock] at h2
    subst h2
    exact h.out _ h1 hf⟩).apart g hg rfl⟩
theorem LO.rest (h : LO w B F v l) (hl : ∀ x, F x → x < w.heap.size) (hg : w.grownBy w' row) (hrow : row = none ∨ row = v.ownBlock) : w.heap.size ≤ w'.heap.size ∧ ∀ x, F x → w'.heap[x]? = w.heap[x]? :=
  ⟨hg.size, fun x hx => hg.block x (hl x hx) fun e => by
    rcases hrow with h1 | h1
    · rw [h1] at e; cases e
    · exact h.out x (by rw [← h1]; exact e.symm) hx⟩
theorem LO.kept {G : Nat → Prop} (h : LO w B G v l) (hs : w.heap.size ≤ w'.heap.size) (hb : ∀ x, F x → w'.heap[x]? = w.heap[x]?) (hv : ∀ g, v.ownBlock = some g → F g) : LO w' B G v l :=
  ⟨h.own.other fun g hg => hb g (hv g hg), fun g hg => Nat.lt_of_lt_of_le (h.lt g hg) hs, h.out⟩
end
/-- what a pushing gives -/
def PushR (w : World) (hp R n : Nat) (ts : List Sf.T) (F : Nat → Prop) (x : It) (v : Value) (w' : World) : Prop := ∃ n' ts' F', SH w' hp R n' ts' F' ∧ Chg w w' F F' ∧
  ((okIt x = true ∧ n < 400 ∧ v = .nilIface ∧ n' = n + 1 ∧ (Sf.allF ts').Perm (x :: Sf.allF ts)) ∨ (¬ (okIt x = true ∧ n < 400) ∧ (∃ e, e ≠ 0 ∧ v = errOf e) ∧ n' = n ∧ ts' = ts))
theorem okIt_err (x : It) : itemsErr 1 (lf [x]) = if okIt x = true then 0 else 1 := by
  unfold itemsErr
  rw [if_neg (by omega)]
  simp [segL, lf]
theorem push2 (w : World) (hp R n : Nat) (ts : List Sf.T) (F : Nat → Prop) (x : It) (hS : SH w hp R n ts F) (hR : R ≤ 8) (hn : n ≤ 400) :
    Calls Tryd.prog 7 #[ptV hp, itV x] w (Ret (PushR w hp R n ts F x)) := by
  obtain ⟨out, hout⟩ := Sf.push_ex hS.st x
  refine (push_any w hp R n ts out F x hS.mem hS.st hR hn hout).mono fun q w' hq => ?_
  cases q with
  | panicked ch => exact hq
  | outgrown => exact hq
  | returned v =>
    obtain ⟨h1, h2, h3⟩ := hq
    by_cases hx : okIt x = true
    · have e0 : itemsErr 1 (lf [x]) = 0 := by rw [okIt_err, if_pos hx]
      by_cases h4 : n = 400
      · obtain ⟨rfl, a, b⟩ := h2 e0 h4
        exact ⟨n, ts, F, ⟨a, hS.st⟩, b, .inr ⟨fun h => by omega, ⟨4, by omega, rfl⟩, rfl, rfl⟩⟩
      · obtain ⟨rfl, F', a, b⟩ := h3 e0 h4
        obtain ⟨c1, c2⟩ := Sf.push_st hS.st hout
        exact ⟨n + 1, out, F', ⟨a, c1⟩, b, .inl ⟨hx, by omega, rfl, rfl, c2⟩⟩
    · have e1 : itemsErr 1 (lf [x]) = 1 := by rw [okIt_err, if_neg hx]
      obtain ⟨rfl, a, b⟩ := h1 (by omega)
      exact ⟨n, ts, F, ⟨a, hS.st⟩, b, .inr ⟨fun h => hx h.1, ⟨_, by rw [e1]; omega, rfl⟩, rfl, rfl⟩⟩
/-- what a popping gives -/
def PopR (w : World) (hp R n : Nat) (ts : List Sf.T) (F : Nat → Prop) (v : Value) (w' : World) : Prop := (ts = [] ∧ v = .tuple #[itV (0, 0), .int .i64 0, errOf 5] ∧ SH w' hp R n ts F ∧ Chg w w' F F) ∨
  (ts ≠ [] ∧ ∃ x key ts' F', v = .tuple #[itV x, .int .i64 key, .nilIface] ∧ SH w' hp R n ts' F' ∧ Chg w w' F F' ∧ (x :: Sf.allF ts').Perm (Sf.allF ts) ∧ x.1 ≤ key ∧ (n < 2 ^ (R + 1) → x.1 = key ∧ ∀ y ∈ Sf.allF ts, key ≤ y.1))
theorem pop2 (w : World) (hp R n : Nat) (ts : List Sf.T) (F : Nat → Prop) (hS : SH w hp R n ts F) (hn : n ≤ 400) :
    Calls Tryd.prog 8 #[ptV hp] w (Ret (PopR w hp R n ts F)) := by
  by_cases hne : ts = []
  · refine (pop_any w hp R n ts F .nil hS.mem hS.st hn (fun h => absurd hne h)).mono fun q w' hq => ?_
    cases q with
    | panicked ch => exact hq
    | outgrown => exact hq
    | returned v =>
      obtain ⟨rfl, a, b⟩ := hq.1 hne
      exact .inl ⟨hne, rfl, ⟨a, hS.st⟩, b⟩
  · have hpos : 0 < ts.length := List.length_pos_iff.2 hne
    have hlt := Sf.leastT_lt (lf ts) ts.length ts.length (Nat.le_refl _) hpos
    have hg := hS.st.good (lf ts (Sf.leastT (lf ts) ts.length)) (by rw [lf_get hlt]; exact List.getElem_mem _)
    obtain ⟨t', ht'⟩ := Sf.popT_ex hg
    refine (pop_any w hp R n ts F t' hS.mem hS.st hn (fun _ => ht')).mono fun q w' hq => ?_
    cases q with
    | panicked ch => exact hq
    | outgrown => exact hq
    | returned v =>
      obtain ⟨rfl, F', a, b⟩ := hq.2 hne
      rw [lf_get hlt] at ht'
      obtain ⟨c1, x, c2, c3, c4⟩ := Sf.pop_st hS.st hlt ht'
      have hx : lf (lf ts (Sf.leastT (lf ts) ts.length)).items 0 = x := by
        rw [lf_get hlt]
        cases hi : (ts[Sf.leastT (lf ts) ts.length]).items with
        | nil => rw [hi] at c2; cases c2
        | cons y ys => rw [hi] at c2; injection c2
      rw [hx]
      refine .inr ⟨hne, x, _, _, F', rfl, ⟨a, c1⟩, b, c3, by rw [lf_get hlt]; exact c4, fun hn2 => ⟨?_, ?_⟩⟩
      · have := Sf.right_head hg (hS.st.ranks (m := R) hn2 _ (by rw [lf_get hlt]; exact List.getElem_mem _)) (x := x) (by rw [lf_get hlt]; exact c2)
        exact this
      · exact Sf.right_least hS.st hn2 (lf ts) (fun i hi => lf_get hi)
/-- a new heap -/
theorem new2 (rank : Int) (w : World) : Calls Tryd.prog 6 #[.int .i64 rank] w (Ret fun v w' => Below w.heap.size w w' ∧ ((rank < 0 ∨ 8 < rank) → v = .tuple #[.pointer none, errOf 1]) ∧
    (¬ (rank < 0 ∨ 8 < rank) → v = .tuple #[ptV w.heap.size, .nilIface] ∧ SH w' w.heap.size rank.toNat 0 [] (fun x => x = w.heap.size))) :=
  (new_any rank w).mono fun q w' hq => by
    cases q with
    | panicked ch => exact hq
    | outgrown => exact hq
    | returned v => exact ⟨hq.1, hq.2.1, fun h => ⟨(hq.2.2 h).1, (hq.2.2 h).2, Sf.St.nil _⟩⟩
theorem allF_ne {ts : List Sf.T} (h : Sf.allF ts ≠ []) : ts ≠ [] := fun e => h (by rw [e]; rfl)
theorem SH.empty {w : World} {hp R n : Nat} {ts : List Sf.T} {F : Nat → Prop} (h : SH w hp R n ts F) : Sf.allF ts = [] ↔ ts = [] := by
  constructor
  · intro e
    cases ts with
    | nil => rfl
    | cons t r =>
      have hg := h.st.good t (by simp)
      have e2 : Sf.allF (t :: r) = t.all ++ Sf.allF r := rfl
      rw [e2, Sf.all_set t hg.2.1] at e
      have := hg.1.items_ne hg.2.1
      simp at e
      exact absurd e.1 this
  · rintro rfl; rfl
set_option maxHeartbeats 2000000 in
theorem softFact_any (w : World) : Calls Tryd.prog 5 #[] w (Ret fun v w' => v = .bool true ∧ Below w.heap.size w w') := by
  refine calls_of (l := []) Tryd.func5 rfl Tryd.ntmps5 rfl ?_
  with_reducible repeat (first | refine WL.move ?_ | refine WL.assign ?_ | refine WL.ldKey ?_ | refine WL.ldId ?_ | refine WL.ldIt ?_ | refine WL.itemAddrN ?_ | refine WL.itemAddrP ?_ | refine WL.itemAddrM ?_ | refine WL.toU ?_ | refine WL.shr1 ?_ | refine WL.toI ?_ | refine WL.sub1N ?_ | refine WL.subN ?_ | refine WL.neqItem ?_ | refine WL.eqIt ?_ | refine WL.eqBool ?_ | refine WL.neqBool ?_ | refine WL.quoN ?_ | refine WL.quo2N ?_ | refine WL.lss ?_ | refine WL.leq ?_ | refine WL.gtr ?_ | refine WL.geq ?_ | refine WL.add ?_ | refine WL.sub ?_ | refine WL.mul ?_ | refine WL.quo ?_ | refine WL.rem ?_ | refine WL.eqlI ?_ | refine WL.neqI ?_ | refine WL.not ?_ | refine WL.pick_t ?_ | refine WL.pick_f ?_ | refine WL.extract ?_ | refine WL.lenItems ?_ | refine WL.errI ?_ | refine WL.keyAddr ?_ | refine WL.idAddr ?_ | refine WL.itemAddr ?_ | refine WL.neqE0 ?_ | refine WL.neqE1 ?_ | refine WL.eqlE0 ?_ | refine WL.eqlE1 ?_ | refine WL.item0 ?_ | refine WL.item ?_ | refine WL.itemsNil ?_ | refine WL.itemsTo ?_ | refine WL.itemsFrom ?_ | refine WL.yesA ?_ | refine WL.noA ?_ | refine WL.noUA ?_ | refine WC.seq ?_ | refine WC.region fun K hK => ?_ | refine WC.block ?_ | refine WC.skip ?_ | refine WC.exit ?_ | refine WC.ret ?_ | (refine WL.nil (hK _ _ ?_); clear hK K) | refine WX.then_n ?_ | refine WX.then_x ?_ | refine WX.then_r ?_ | refine WX.block_n ?_ | refine WX.block_r ?_ | refine WX.block_x ?_ | refine WX.block_oA ?_ )
  refine WL.call (OpC.static Tryd.func6 (by kernel_rfl) rfl rfl) rfl (new2 2 w) ?_
  rintro _ w1 ⟨hB1, _, hyes⟩
  obtain ⟨rfl, hS1⟩ := hyes (by omega)
  with_reducible repeat (first | refine WL.move ?_ | refine WL.assign ?_ | refine WL.ldKey ?_ | refine WL.ldId ?_ | refine WL.ldIt ?_ | refine WL.itemAddrN ?_ | refine WL.itemAddrP ?_ | refine WL.itemAddrM ?_ | refine WL.toU ?_ | refine WL.shr1 ?_ | refine WL.toI ?_ | refine WL.sub1N ?_ | refine WL.subN ?_ | refine WL.neqItem ?_ | refine WL.eqIt ?_ | refine WL.eqBool ?_ | refine WL.neqBool ?_ | refine WL.quoN ?_ | refine WL.quo2N ?_ | refine WL.lss ?_ | refine WL.leq ?_ | refine WL.gtr ?_ | refine WL.geq ?_ | refine WL.add ?_ | refine WL.sub ?_ | refine WL.mul ?_ | refine WL.quo ?_ | refine WL.rem ?_ | refine WL.eqlI ?_ | refine WL.neqI ?_ | refine WL.not ?_ | refine WL.pick_t ?_ | refine WL.pick_f ?_ | refine WL.extract ?_ | refine WL.lenItems ?_ | refine WL.errI ?_ | refine WL.keyAddr ?_ | refine WL.idAddr ?_ | refine WL.itemAddr ?_ | refine WL.neqE0 ?_ | refine WL.neqE1 ?_ | refine WL.eqlE0 ?_ | refine WL.eqlE1 ?_ | refine WL.item0 ?_ | refine WL.item ?_ | refine WL.itemsNil ?_ | refine WL.itemsTo ?_ | refine WL.itemsFrom ?_ | refine WL.yesA ?_ | refine WL.noA ?_ | refine WL.noUA ?_ | refine WC.seq ?_ | refine WC.region fun K hK => ?_ | refine WC.block ?_ | refine WC.skip ?_ | refine WC.exit ?_ | refine WC.ret ?_ | (refine WL.nil (hK _ _ ?_); clear hK K) | refine WX.then_n ?_ | refine WX.then_x ?_ | refine WX.then_r ?_ | refine WX.block_n ?_ | refine WX.block_r ?_ | refine WX.block_x ?_ | refine WX.block_oA ?_ )
  refine WC.cond_false rfl ?_
  with_reducible repeat (first | refine WL.move ?_ | refine WL.assign ?_ | refine WL.ldKey ?_ | refine WL.ldId ?_ | refine WL.ldIt ?_ | refine WL.itemAddrN ?_ | refine WL.itemAddrP ?_ | refine WL.itemAddrM ?_ | refine WL.toU ?_ | refine WL.shr1 ?_ | refine WL.toI ?_ | refine WL.sub1N ?_ | refine WL.subN ?_ | refine WL.neqItem ?_ | refine WL.eqIt ?_ | refine WL.eqBool ?_ | refine WL.neqBool ?_ | refine WL.quoN ?_ | refine WL.quo2N ?_ | refine WL.lss ?_ | refine WL.leq ?_ | refine WL.gtr ?_ | refine WL.geq ?_ | refine WL.add ?_ | refine WL.sub ?_ | refine WL.mul ?_ | refine WL.quo ?_ | refine WL.rem ?_ | refine WL.eqlI ?_ | refine WL.neqI ?_ | refine WL.not ?_ | refine WL.pick_t ?_ | refine WL.pick_f ?_ | refine WL.extract ?_ | refine WL.lenItems ?_ | refine WL.errI ?_ | refine WL.keyAddr ?_ | refine WL.idAddr ?_ | refine WL.itemAddr ?_ | refine WL.neqE0 ?_ | refine WL.neqE1 ?_ | refine WL.eqlE0 ?_ | refine WL.eqlE1 ?_ | refine WL.item0 ?_ | refine WL.item ?_ | refine WL.itemsNil ?_ | refine WL.itemsTo ?_ | refine WL.itemsFrom ?_ | refine WL.yesA ?_ | refine WL.noA ?_ | refine WL.noUA ?_ | refine WC.seq ?_ | refine WC.region fun K hK => ?_ | refine WC.block ?_ | refine WC.skip ?_ | refine WC.exit ?_ | refine WC.ret ?_ | (refine WL.nil (hK _ _ ?_); clear hK K) | refine WX.then_n ?_ | refine WX.then_x ?_ | refine WX.then_r ?_ | refine WX.block_n ?_ | refine WX.block_r ?_ | refine WX.block_x ?_ | refine WX.block_oA ?_ )
  refine WL.call (OpC.static Tryd.func7 (by kernel_rfl) rfl rfl) rfl (push2 w1 w.heap.size 2 0 [] _ (4, 3) hS1 (by omega) (by omega)) ?_
  rintro _ w2 ⟨n', ts', F', hS2, hC2, h | h⟩
  · obtain ⟨_, _, rfl, rfl, hp⟩ := h
    have hne : ts' ≠ [] := allF_ne (fun e => by rw [e] at hp; have := hp.length_eq; simp [Sf.allF] at this)
    have hB2 := hC2.below hB1 (fun g hg => by obtain rfl : g = w.heap.size := hg; exact Nat.le_refl _)
    with_reducible repeat (first | refine WL.move ?_ | refine WL.assign ?_ | refine WL.ldKey ?_ | refine WL.ldId ?_ | refine WL.ldIt ?_ | refine WL.itemAddrN ?_ | refine WL.itemAddrP ?_ | refine WL.itemAddrM ?_ | refine WL.toU ?_ | refine WL.shr1 ?_ | refine WL.toI ?_ | refine WL.sub1N ?_ | refine WL.subN ?_ | refine WL.neqItem ?_ | refine WL.eqIt ?_ | refine WL.eqBool ?_ | refine WL.neqBool ?_ | refine WL.quoN ?_ | refine WL.quo2N ?_ | refine WL.lss ?_ | refine WL.leq ?_ | refine WL.gtr ?_ | refine WL.geq ?_ | refine WL.add ?_ | refine WL.sub ?_ | refine WL.mul ?_ | refine WL.quo ?_ | refine WL.rem ?_ | refine WL.eqlI ?_ | refine WL.neqI ?_ | refine WL.not ?_ | refine WL.pick_t ?_ | refine WL.pick_f ?_ | refine WL.extract ?_ | refine WL.lenItems ?_ | refine WL.errI ?_ | refine WL.keyAddr ?_ | refine WL.idAddr ?_ | refine WL.itemAddr ?_ | refine WL.neqE0 ?_ | refine WL.neqE1 ?_ | refine WL.eqlE0 ?_ | refine WL.eqlE1 ?_ | refine WL.item0 ?_ | refine WL.item ?_ | refine WL.itemsNil ?_ | refine WL.itemsTo ?_ | refine WL.itemsFrom ?_ | refine WL.yesA ?_ | refine WL.noA ?_ | refine WL.noUA ?_ | refine WC.seq ?_ | refine WC.region fun K hK => ?_ | refine WC.block ?_ | refine WC.skip ?_ | refine WC.exit ?_ | refine WC.ret ?_ | (refine WL.nil (hK _ _ ?_); clear hK K) | refine WX.then_n ?_ | refine WX.then_x ?_ | refine WX.then_r ?_ | refine WX.block_n ?_ | refine WX.block_r ?_ | refine WX.block_x ?_ | refine WX.block_oA ?_ )
    refine WL.call (OpC.static Tryd.func8 (by kernel_rfl) rfl rfl) rfl (pop2 w2 w.heap.size 2 1 ts' F' hS2 (by omega)) ?_
    rintro _ w3 (⟨h0, _⟩ | ⟨_, x, key, ts2, F2, rfl, hS3, hC3, hp3, _, hr⟩)
    · exact absurd h0 hne
    obtain ⟨hk, _⟩ := hr (by decide)
    have hx : x = (4, 3) := by
      have h1 : x ∈ Sf.allF ts' := hp3.mem_iff.1 (by simp)
      have h2 := hp.mem_iff.1 h1
      simpa [Sf.allF] using h2
    subst hx
    obtain rfl : key = 4 := hk.symm
    have hB3 := hC3.below hB2 (hC2.base (B := w.heap.size) (fun g hg => by obtain rfl : g = w.heap.size := hg; exact Nat.le_refl _) hB1.size)
    with_reducible repeat (first | refine WL.move ?_ | refine WL.assign ?_ | refine WL.ldKey ?_ | refine WL.ldId ?_ | refine WL.ldIt ?_ | refine WL.itemAddrN ?_ | refine WL.itemAddrP ?_ | refine WL.itemAddrM ?_ | refine WL.toU ?_ | refine WL.shr1 ?_ | refine WL.toI ?_ | refine WL.sub1N ?_ | refine WL.subN ?_ | refine WL.neqItem ?_ | refine WL.eqIt ?_ | refine WL.eqBool ?_ | refine WL.neqBool ?_ | refine WL.quoN ?_ | refine WL.quo2N ?_ | refine WL.lss ?_ | refine WL.leq ?_ | refine WL.gtr ?_ | refine WL.geq ?_ | refine WL.add ?_ | refine WL.sub ?_ | refine WL.mul ?_ | refine WL.quo ?_ | refine WL.rem ?_ | refine WL.eqlI ?_ | refine WL.neqI ?_ | refine WL.not ?_ | refine WL.pick_t ?_ | refine WL.pick_f ?_ | refine WL.extract ?_ | refine WL.lenItems ?_ | refine WL.errI ?_ | refine WL.keyAddr ?_ | refine WL.idAddr ?_ | refine WL.itemAddr ?_ | refine WL.neqE0 ?_ | refine WL.neqE1 ?_ | refine WL.eqlE0 ?_ | refine WL.eqlE1 ?_ | refine WL.item0 ?_ | refine WL.item ?_ | refine WL.itemsNil ?_ | refine WL.itemsTo ?_ | refine WL.itemsFrom ?_ | refine WL.yesA ?_ | refine WL.noA ?_ | refine WL.noUA ?_ | refine WC.seq ?_ | refine WC.region fun K hK => ?_ | refine WC.block ?_ | refine WC.skip ?_ | refine WC.exit ?_ | refine WC.ret ?_ | (refine WL.nil (hK _ _ ?_); clear hK K) | refine WX.then_n ?_ | refine WX.then_x ?_ | refine WX.then_r ?_ | refine WX.block_n ?_ | refine WX.block_r ?_ | refine WX.block_x ?_ | refine WX.block_oA ?_ )
    refine WL.box tyItem rfl rfl rfl (itC_one _) fun w4 hg4 hb4 hz4 => ?_
    replace hb4 : Bk w4 w3.heap.size 30 (itC (4, 3)) := hb4
    have hB4 := hB3.tr (below_of_grown hg4)
    with_reducible repeat (first | refine WL.move ?_ | refine WL.assign ?_ | refine WL.ldKey ?_ | refine WL.ldId ?_ | refine WL.ldIt ?_ | refine WL.itemAddrN ?_ | refine WL.itemAddrP ?_ | refine WL.itemAddrM ?_ | refine WL.toU ?_ | refine WL.shr1 ?_ | refine WL.toI ?_ | refine WL.sub1N ?_ | refine WL.subN ?_ | refine WL.neqItem ?_ | refine WL.eqIt ?_ | refine WL.eqBool ?_ | refine WL.neqBool ?_ | refine WL.quoN ?_ | refine WL.quo2N ?_ | refine WL.lss ?_ | refine WL.leq ?_ | refine WL.gtr ?_ | refine WL.geq ?_ | refine WL.add ?_ | refine WL.sub ?_ | refine WL.mul ?_ | refine WL.quo ?_ | refine WL.rem ?_ | refine WL.eqlI ?_ | refine WL.neqI ?_ | refine WL.not ?_ | refine WL.pick_t ?_ | refine WL.pick_f ?_ | refine WL.extract ?_ | refine WL.lenItems ?_ | refine WL.errI ?_ | refine WL.keyAddr ?_ | refine WL.idAddr ?_ | refine WL.itemAddr ?_ | refine WL.neqE0 ?_ | refine WL.neqE1 ?_ | refine WL.eqlE0 ?_ | refine WL.eqlE1 ?_ | refine WL.item0 ?_ | refine WL.item ?_ | refine WL.itemsNil ?_ | refine WL.itemsTo ?_ | refine WL.itemsFrom ?_ | refine WL.yesA ?_ | refine WL.noA ?_ | refine WL.noUA ?_ | refine WC.seq ?_ | refine WC.region fun K hK => ?_ | refine WC.block ?_ | refine WC.skip ?_ | refine WC.exit ?_ | refine WC.ret ?_ | (refine WL.nil (hK _ _ ?_); clear hK K) | refine WX.then_n ?_ | refine WX.then_x ?_ | refine WX.then_r ?_ | refine WX.block_n ?_ | refine WX.block_r ?_ | refine WX.block_x ?_ | refine WX.block_oA ?_ )
    refine WL.ldCI (g := w3.heap.size) (j := 0) (u := .int .i64 4) ?_
    with_reducible repeat (first | refine WL.move ?_ | refine WL.assign ?_ | refine WL.ldKey ?_ | refine WL.ldId ?_ | refine WL.ldIt ?_ | refine WL.itemAddrN ?_ | refine WL.itemAddrP ?_ | refine WL.itemAddrM ?_ | refine WL.toU ?_ | refine WL.shr1 ?_ | refine WL.toI ?_ | refine WL.sub1N ?_ | refine WL.subN ?_ | refine WL.neqItem ?_ | refine WL.eqIt ?_ | refine WL.eqBool ?_ | refine WL.neqBool ?_ | refine WL.quoN ?_ | refine WL.quo2N ?_ | refine WL.lss ?_ | refine WL.leq ?_ | refine WL.gtr ?_ | refine WL.geq ?_ | refine WL.add ?_ | refine WL.sub ?_ | refine WL.mul ?_ | refine WL.quo ?_ | refine WL.rem ?_ | refine WL.eqlI ?_ | refine WL.neqI ?_ | refine WL.not ?_ | refine WL.pick_t ?_ | refine WL.pick_f ?_ | refine WL.extract ?_ | refine WL.lenItems ?_ | refine WL.errI ?_ | refine WL.keyAddr ?_ | refine WL.idAddr ?_ | refine WL.itemAddr ?_ | refine WL.neqE0 ?_ | refine WL.neqE1 ?_ | refine WL.eqlE0 ?_ | refine WL.eqlE1 ?_ | refine WL.item0 ?_ | refine WL.item ?_ | refine WL.itemsNil ?_ | refine WL.itemsTo ?_ | refine WL.itemsFrom ?_ | refine WL.yesA ?_ | refine WL.noA ?_ | refine WL.noUA ?_ | refine WC.seq ?_ | refine WC.region fun K hK => ?_ | refine WC.block ?_ | refine WC.skip ?_ | refine WC.exit ?_ | refine WC.ret ?_ | (refine WL.nil (hK _ _ ?_); clear hK K) | refine WX.then_n ?_ | refine WX.then_x ?_ | refine WX.then_r ?_ | refine WX.block_n ?_ | refine WX.block_r ?_ | refine WX.block_x ?_ | refine WX.block_oA ?_ )
    refine WL.ldCI (g := w3.heap.size) (j := 1) (u := .int .i64 3) ?_
    with_reducible repeat (first | refine WL.move ?_ | refine WL.assign ?_ | refine WL.ldKey ?_ | refine WL.ldId ?_ | refine WL.ldIt ?_ | refine WL.itemAddrN ?_ | refine WL.itemAddrP ?_ | refine WL.itemAddrM ?_ | refine WL.toU ?_ | refine WL.shr1 ?_ | refine WL.toI ?_ | refine WL.sub1N ?_ | refine WL.subN ?_ | refine WL.neqItem ?_ | refine WL.eqIt ?_ | refine WL.eqBool ?_ | refine WL.neqBool ?_ | refine WL.quoN ?_ | refine WL.quo2N ?_ | refine WL.lss ?_ | refine WL.leq ?_ | refine WL.gtr ?_ | refine WL.geq ?_ | refine WL.add ?_ | refine WL.sub ?_ | refine WL.mul ?_ | refine WL.quo ?_ | refine WL.rem ?_ | refine WL.eqlI ?_ | refine WL.neqI ?_ | refine WL.not ?_ | refine WL.pick_t ?_ | refine WL.pick_f ?_ | refine WL.extract ?_ | refine WL.lenItems ?_ | refine WL.errI ?_ | refine WL.keyAddr ?_ | refine WL.idAddr ?_ | refine WL.itemAddr ?_ | refine WL.neqE0 ?_ | refine WL.neqE1 ?_ | refine WL.eqlE0 ?_ | refine WL.eqlE1 ?_ | refine WL.item0 ?_ | refine WL.item ?_ | refine WL.itemsNil ?_ | refine WL.itemsTo ?_ | refine WL.itemsFrom ?_ | refine WL.yesA ?_ | refine WL.noA ?_ | refine WL.noUA ?_ | refine WC.seq ?_ | refine WC.region fun K hK => ?_ | refine WC.block ?_ | refine WC.skip ?_ | refine WC.exit ?_ | refine WC.ret ?_ | (refine WL.nil (hK _ _ ?_); clear hK K) | refine WX.then_n ?_ | refine WX.then_x ?_ | refine WX.then_r ?_ | refine WX.block_n ?_ | refine WX.block_r ?_ | refine WX.block_x ?_ | refine WX.block_oA ?_ )
    exact WX.ret1 rfl rfl ⟨rfl, hB4⟩
  · exact absurd ⟨by decide, by omega⟩ h.1
end Rk
