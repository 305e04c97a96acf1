/- The contract of pick.parts: the items of a list by a key: those below it, those of it, those above. -/
import Derived.Test.YtkgdfkgkkjcahaaCell
import Derived.Test.YtkgdfkgkkjcahaaExI
import Derived.Test.YtkgdfkgkkjcahaaItV
namespace Rk
open Go Go.RowKit Go.Proofs
abbrev TA : TypeId := 46
theorem unTA : Try.prog.underlying 46 = some (.array 3 22) := by kernel_rfl
theorem tyTA : Ty Try.prog 46 true 3 72 (.agg #[.slice none 0 0, .slice none 0 0, .slice none 0 0]) := Ty.mk' (by kernel_rfl) (fun _ => by kernel_rfl) rfl
theorem tyItems : Ty Try.prog 22 false 1 24 (.slice none 0 0) := Ty.mk' (by kernel_rfl) (fun _ => by kernel_rfl) rfl
section
variable {E : Env} {w : World} {t : TypeId} {x y : Operand} {bk o j : Nat}
theorem OpV.arrAddr (hx : evE E x = some (.pointer (some ⟨bk, o, none⟩))) (hi : evE E y = some (.int .i64 (j : Int))) (hn : j < 3) :
    OpV Try.prog (.indexAddr 46 x y) t E w (.pointer (some ⟨bk, o + j, none⟩)) w := fun ρ hρ _ _ _ _ => by
  have h1 : (j : Int) < 3 := by omega
  simp [execOp, hρ _ _ hx, hρ _ _ hi, go_sem, Instr.indexAt, run_underlying unTA, tyItems.size, asIntOf, Addr.add, Instr.sureAddr, hn]
section
variable {ops : Array Oper} {K : Env → World → Prop} {N d_ : Nat} {rest : List Oper} {pos : String} {after : Array Edge} {C : World → Prop} {R : Env → Prop}
theorem WL.arrAddr  (h_ : WL Try.prog ops K N ((d_, (.pointer (some ⟨bk, o + j, none⟩))) :: E) rest w) (hx : evE E x = some (.pointer (some ⟨bk, o, none⟩)) := by with_unfolding_all exact rfl) (hi : evE E y = some (.int .i64 (j : Int)) := by with_unfolding_all exact rfl) (hn : j < 3 := by omega) (hd_ : Nat.blt d_ N = true := by with_unfolding_all exact rfl) :
    WL Try.prog ops K N E (⟨some d_, .indexAddr 46 x y, t, pos, after, none⟩ :: rest) w := WL.step (OpV.arrAddr hx hi hn) hd_ h_
theorem QL.arrAddr  (h_ : QL Try.prog ops C R N ((d_, (.pointer (some ⟨bk, o + j, none⟩))) :: E) rest) (hx : evE E x = some (.pointer (some ⟨bk, o, none⟩)) := by with_unfolding_all exact rfl) (hi : evE E y = some (.int .i64 (j : Int)) := by with_unfolding_all exact rfl) (hn : j < 3 := by omega) (hd_ : Nat.blt d_ N = true := by with_unfolding_all exact rfl) :
    QL Try.prog ops C R N E (⟨some d_, .indexAddr 46 x y, t, pos, after, none⟩ :: rest) := QL.step (fun _ _ => OpV.arrAddr hx hi hn) hd_ h_
theorem RL.arrAddr  (h_ : R ((d_, (.pointer (some ⟨bk, o + j, none⟩))) :: E)) (hx : evE E x = some (.pointer (some ⟨bk, o, none⟩)) := by with_unfolding_all exact rfl) (hi : evE E y = some (.int .i64 (j : Int)) := by with_unfolding_all exact rfl) (hn : j < 3 := by omega) (hd_ : Nat.blt d_ N = true := by with_unfolding_all exact rfl) :
    RL Try.prog ops C R N E ⟨some d_, .indexAddr 46 x y, t, pos, after, none⟩ := RL.step (fun _ _ => OpV.arrAddr hx hi hn) hd_ h_
end
end
section
variable {ops : Array Oper} {K : Env → World → Prop} {R : Env → Prop} {N : Nat} {E : Env} {rest : List Oper} {w : World} {t : TypeId} {pos : String} {after : Array Edge} {d : Nat} {x : Operand} {g j : Nat} {te : TypeId} {cs : List Value} {u : Value}
theorem WL.ldCL (h : WL Try.prog ops K N ((d, u) :: E) rest w) (hx : evE E x = some (.pointer (some ⟨g, j, none⟩)) := by with_unfolding_all exact rfl) (hb : Bk w g te cs := by assumption) (hu : cs[j]? = some u := by with_unfolding_all exact rfl) (hd : Nat.blt d N = true := by with_unfolding_all exact rfl) : WL Try.prog ops K N E (⟨some d, .load 22 x, t, pos, after, none⟩ :: rest) w := WL.step (OpV.load1 tyItems hx (hb.cell hu)) hd h
theorem QL.ldCL (h : QL Try.prog ops (fun w' => Below w.heap.size w w') R N ((d, u) :: E) rest) (hx : evE E x = some (.pointer (some ⟨g, j, none⟩)) := by with_unfolding_all exact rfl) (hb : Bk w g te cs := by assumption) (hu : cs[j]? = some u := by with_unfolding_all exact rfl) (hd : Nat.blt d N = true := by with_unfolding_all exact rfl) : QL Try.prog ops (fun w' => Below w.heap.size w w') R N E (⟨some d, .load 22 x, t, pos, after, none⟩ :: rest) := QL.step (fun _ hw => OpV.load1 tyItems hx ((hb.below hw).cell hu)) hd h
theorem RL.ldCLB (h : R ((d, u) :: E)) (hx : evE E x = some (.pointer (some ⟨g, j, none⟩)) := by with_unfolding_all exact rfl) (hb : Bk w g te cs := by assumption) (hu : cs[j]? = some u := by with_unfolding_all exact rfl) (hd : Nat.blt d N = true := by with_unfolding_all exact rfl) : RL Try.prog ops (fun w' => Below w.heap.size w w') R N E ⟨some d, .load 22 x, t, pos, after, none⟩ := RL.step (fun _ hw => OpV.load1 tyItems hx ((hb.below hw).cell hu)) hd h
theorem RL.ldCLH (h : R ((d, u) :: E)) (hx : evE E x = some (.pointer (some ⟨g, j, none⟩)) := by with_unfolding_all exact rfl) (hb : Bk w g te cs := by assumption) (hu : cs[j]? = some u := by with_unfolding_all exact rfl) (hd : Nat.blt d N = true := by with_unfolding_all exact rfl) : RL Try.prog ops (fun w' => w'.heap = w.heap) R N E ⟨some d, .load 22 x, t, pos, after, none⟩ := RL.step (fun _ hw => OpV.load1 tyItems hx ((hb.heap hw).cell hu)) hd h
end
attribute [local irreducible] OpV OpU OpC WL QL WC WX OL RL TL TM
/-- which part an item belongs to -/
def side (key : Int) (x : It) : Nat := if x.1 < key then 0 else if key < x.1 then 2 else 1
def partL (key : Int) (k : Nat) (l : List It) : List It := l.filter fun x => side key x == k
/-- three lists of the call's own, in a block's three cells -/
structure Three (w : World) (B gb : Nat) (V : Nat → Value) (L : Nat → List It) : Prop where
  blk : Bk w gb 46 [V 0, V 1, V 2]
  base : B ≤ gb
  own : ∀ k, k < 3 → OwnIL w B (V k) (L k)
  lt : ∀ k, k < 3 → ∀ g, (V k).ownBlock = some g → g < w.heap.size ∧ g ≠ gb
  apart : ∀ j k, j < 3 → k < 3 → j ≠ k → ∀ g, (V j).ownBlock = some g → (V k).ownBlock ≠ some g
theorem three_get (V : Nat → Value) {k : Nat} (h : k < 3) : [V 0, V 1, V 2][k]? = some (V k) := by
  rcases (show k = 0 ∨ k = 1 ∨ k = 2 by omega) with rfl | rfl | rfl <;> rfl
theorem three_put (V : Nat → Value) (v : Value) {k : Nat} (h : k < 3) : putAt [V 0, V 1, V 2] k [v] = [(fun j => if j = k then v else V j) 0, (fun j => if j = k then v else V j) 1, (fun j => if j = k then v else V j) 2] := by
  rcases (show k = 0 ∨ k = 1 ∨ k = 2 by omega) with rfl | rfl | rfl <;> rfl
theorem Three.below {w w' : World} {B gb : Nat} {V : Nat → Value} {L : Nat → List It} (h : Three w B gb V L) (hb : Below w.heap.size w w') : Three w' B gb V L :=
  ⟨h.blk.below hb, h.base, fun k hk => (h.own k hk).below hb, fun k hk g hg => ⟨Nat.lt_of_lt_of_le (h.lt k hk g hg).1 hb.size, (h.lt k hk g hg).2⟩, h.apart⟩
theorem partL_snoc (key : Int) (k : Nat) (f : Nat → It) (i : Nat) : partL key k (segL f (i + 1)) = if k = side key (f i) then partL key k (segL f i) ++ [f i] else partL key k (segL f i) := by
  unfold partL
  rw [segL_succ, List.filter_append]
  by_cases h : k = side key (f i)
  · rw [if_pos h]; simp [h]
  · rw [if_neg h]; simp; omega

set_option maxHeartbeats 2000000 in
theorem parts_any (A : Option Addr) (n c : Nat) (f : Nat → It) (key : Int) (w : World) (hr : RowOf itC 2 w A n f) (hn : n ≤ 1000) :
    Calls Try.prog 17 #[.slice A n c, .int .i64 key] w (Ret fun v w' => Below w.heap.size w w' ∧ ∃ V : Nat → Value, v = .agg #[V 0, V 1, V 2] ∧ ∀ k, k < 3 → OwnIL w' w.heap.size (V k) (partL key k (segL f n))) := by
  refine calls_of (l := [.slice A n c, .int .i64 key]) Try.func17 rfl Try.ntmps17 rfl ?_
  with_reducible repeat (first | refine WL.move ?_ | refine WL.assign ?_ | refine WL.ldKey ?_ | refine WL.ldId ?_ | refine WL.ldIt ?_ | refine WL.itemAddrN ?_ | refine WL.itemAddrP ?_ | refine WL.itemAddrM ?_ | refine WL.toU ?_ | refine WL.shr1 ?_ | refine WL.toI ?_ | refine WL.sub1N ?_ | refine WL.subN ?_ | refine WL.neqItem ?_ | refine WL.eqIt ?_ | refine WL.eqBool ?_ | refine WL.neqBool ?_ | refine WL.quoN ?_ | refine WL.quo2N ?_ | refine WL.lss ?_ | refine WL.leq ?_ | refine WL.gtr ?_ | refine WL.geq ?_ | refine WL.add ?_ | refine WL.sub ?_ | refine WL.mul ?_ | refine WL.quo ?_ | refine WL.rem ?_ | refine WL.eqlI ?_ | refine WL.neqI ?_ | refine WL.not ?_ | refine WL.pick_t ?_ | refine WL.pick_f ?_ | refine WL.extract ?_ | refine WL.lenItems ?_ | refine WL.errI ?_ | refine WL.keyAddr ?_ | refine WL.idAddr ?_ | refine WL.itemAddr ?_ | refine WL.neqE0 ?_ | refine WL.neqE1 ?_ | refine WL.eqlE0 ?_ | refine WL.eqlE1 ?_ | refine WL.item0 ?_ | refine WL.item ?_ | refine WL.itemsNil ?_ | refine WL.itemsTo ?_ | refine WL.itemsFrom ?_ | refine WL.yesA ?_ | refine WL.noA ?_ | refine WL.noUA ?_ | refine WC.seq ?_ | refine WC.region fun K hK => ?_ | refine WC.block ?_ | refine WC.skip ?_ | refine WC.exit ?_ | refine WC.ret ?_ | (refine WL.nil (hK _ _ ?_); clear hK K) | refine WX.then_n ?_ | refine WX.then_x ?_ | refine WX.then_r ?_ | refine WX.block_n ?_ | refine WX.block_r ?_ | refine WX.block_x ?_ | refine WX.block_oA ?_ )
  refine WL.alloc tyTA rfl fun w1 hg1 hb1 hz1 => ?_
  have hB1 := below_of_grown hg1
  have ht1 : Three w1 w.heap.size w.heap.size (fun _ => .slice none 0 0) (fun k => partL key k (segL f 0)) :=
    ⟨hb1, Nat.le_refl _, fun k _ => OwnL.nil _ _ _ _ _ _, fun k _ g hg => (by simp [Value.ownBlock] at hg), fun j k _ _ _ g hg => (by simp [Value.ownBlock] at hg)⟩
  with_reducible repeat (first | refine WL.move ?_ | refine WL.assign ?_ | refine WL.ldKey ?_ | refine WL.ldId ?_ | refine WL.ldIt ?_ | refine WL.itemAddrN ?_ | refine WL.itemAddrP ?_ | refine WL.itemAddrM ?_ | refine WL.toU ?_ | refine WL.shr1 ?_ | refine WL.toI ?_ | refine WL.sub1N ?_ | refine WL.subN ?_ | refine WL.neqItem ?_ | refine WL.eqIt ?_ | refine WL.eqBool ?_ | refine WL.neqBool ?_ | refine WL.quoN ?_ | refine WL.quo2N ?_ | refine WL.lss ?_ | refine WL.leq ?_ | refine WL.gtr ?_ | refine WL.geq ?_ | refine WL.add ?_ | refine WL.sub ?_ | refine WL.mul ?_ | refine WL.quo ?_ | refine WL.rem ?_ | refine WL.eqlI ?_ | refine WL.neqI ?_ | refine WL.not ?_ | refine WL.pick_t ?_ | refine WL.pick_f ?_ | refine WL.extract ?_ | refine WL.lenItems ?_ | refine WL.errI ?_ | refine WL.keyAddr ?_ | refine WL.idAddr ?_ | refine WL.itemAddr ?_ | refine WL.neqE0 ?_ | refine WL.neqE1 ?_ | refine WL.eqlE0 ?_ | refine WL.eqlE1 ?_ | refine WL.item0 ?_ | refine WL.item ?_ | refine WL.itemsNil ?_ | refine WL.itemsTo ?_ | refine WL.itemsFrom ?_ | refine WL.yesA ?_ | refine WL.noA ?_ | refine WL.noUA ?_ | refine WC.seq ?_ | refine WC.region fun K hK => ?_ | refine WC.block ?_ | refine WC.skip ?_ | refine WC.exit ?_ | refine WC.ret ?_ | (refine WL.nil (hK _ _ ?_); clear hK K) | refine WX.then_n ?_ | refine WX.then_x ?_ | refine WX.then_r ?_ | refine WX.block_n ?_ | refine WX.block_r ?_ | refine WX.block_x ?_ | refine WX.block_oA ?_ )
  refine WC.loopE2 (fun (i : Nat) (_ : Nat → Value) => [(1, .int .i64 key), (4, .pointer (some ⟨w.heap.size, 0, none⟩)), (8, .slice A n c), (9, .int .i64 n), (10, .int .i64 i)]) (fun i V q wr => i ≤ n ∧ q = n - i ∧ Three wr w.heap.size w.heap.size V (fun k => partL key k (segL f i)) ∧ Below w.heap.size w wr) n 0 (fun _ => .slice none 0 0) ⟨by omega, rfl, ht1, hB1⟩ Sub.auto ?_
  rintro i V q wr ⟨hi, rfl, ht, hB⟩
  with_reducible repeat (first | refine WL.move ?_ | refine WL.assign ?_ | refine WL.ldKey ?_ | refine WL.ldId ?_ | refine WL.ldIt ?_ | refine WL.itemAddrN ?_ | refine WL.itemAddrP ?_ | refine WL.itemAddrM ?_ | refine WL.toU ?_ | refine WL.shr1 ?_ | refine WL.toI ?_ | refine WL.sub1N ?_ | refine WL.subN ?_ | refine WL.neqItem ?_ | refine WL.eqIt ?_ | refine WL.eqBool ?_ | refine WL.neqBool ?_ | refine WL.quoN ?_ | refine WL.quo2N ?_ | refine WL.lss ?_ | refine WL.leq ?_ | refine WL.gtr ?_ | refine WL.geq ?_ | refine WL.add ?_ | refine WL.sub ?_ | refine WL.mul ?_ | refine WL.quo ?_ | refine WL.rem ?_ | refine WL.eqlI ?_ | refine WL.neqI ?_ | refine WL.not ?_ | refine WL.pick_t ?_ | refine WL.pick_f ?_ | refine WL.extract ?_ | refine WL.lenItems ?_ | refine WL.errI ?_ | refine WL.keyAddr ?_ | refine WL.idAddr ?_ | refine WL.itemAddr ?_ | refine WL.neqE0 ?_ | refine WL.neqE1 ?_ | refine WL.eqlE0 ?_ | refine WL.eqlE1 ?_ | refine WL.item0 ?_ | refine WL.item ?_ | refine WL.itemsNil ?_ | refine WL.itemsTo ?_ | refine WL.itemsFrom ?_ | refine WL.yesA ?_ | refine WL.noA ?_ | refine WL.noUA ?_ | refine WC.seq ?_ | refine WC.region fun K hK => ?_ | refine WC.block ?_ | refine WC.skip ?_ | refine WC.exit ?_ | refine WC.ret ?_ | (refine WL.nil (hK _ _ ?_); clear hK K) | refine WX.then_n ?_ | refine WX.then_x ?_ | refine WX.then_r ?_ | refine WX.block_n ?_ | refine WX.block_r ?_ | refine WX.block_x ?_ | refine WX.block_oA ?_ )
  refine WC.condD rfl (fun h => ?_) (fun h => ?_)
  · have hrw := hr.below hB
    obtain ⟨b, o, rfl, _⟩ := hr.ne (by omega)
    with_reducible repeat (first | refine WL.move ?_ | refine WL.assign ?_ | refine WL.ldKey ?_ | refine WL.ldId ?_ | refine WL.ldIt ?_ | refine WL.itemAddrN ?_ | refine WL.itemAddrP ?_ | refine WL.itemAddrM ?_ | refine WL.toU ?_ | refine WL.shr1 ?_ | refine WL.toI ?_ | refine WL.sub1N ?_ | refine WL.subN ?_ | refine WL.neqItem ?_ | refine WL.eqIt ?_ | refine WL.eqBool ?_ | refine WL.neqBool ?_ | refine WL.quoN ?_ | refine WL.quo2N ?_ | refine WL.lss ?_ | refine WL.leq ?_ | refine WL.gtr ?_ | refine WL.geq ?_ | refine WL.add ?_ | refine WL.sub ?_ | refine WL.mul ?_ | refine WL.quo ?_ | refine WL.rem ?_ | refine WL.eqlI ?_ | refine WL.neqI ?_ | refine WL.not ?_ | refine WL.pick_t ?_ | refine WL.pick_f ?_ | refine WL.extract ?_ | refine WL.lenItems ?_ | refine WL.errI ?_ | refine WL.keyAddr ?_ | refine WL.idAddr ?_ | refine WL.itemAddr ?_ | refine WL.neqE0 ?_ | refine WL.neqE1 ?_ | refine WL.eqlE0 ?_ | refine WL.eqlE1 ?_ | refine WL.item0 ?_ | refine WL.item ?_ | refine WL.itemsNil ?_ | refine WL.itemsTo ?_ | refine WL.itemsFrom ?_ | refine WL.yesA ?_ | refine WL.noA ?_ | refine WL.noUA ?_ | refine WC.seq ?_ | refine WC.region fun K hK => ?_ | refine WC.block ?_ | refine WC.skip ?_ | refine WC.exit ?_ | refine WC.ret ?_ | (refine WL.nil (hK _ _ ?_); clear hK K) | refine WX.then_n ?_ | refine WX.then_x ?_ | refine WX.then_r ?_ | refine WX.block_n ?_ | refine WX.block_r ?_ | refine WX.block_x ?_ | refine WX.block_oA ?_ )
    refine WL.box tyItem rfl rfl rfl (itC_one _) fun w3 hg3 hx3 hz3 => ?_
    have hB3 := below_of_grown hg3
    replace hx3 : Bk w3 wr.heap.size 29 (itC (f i)) := hx3
    have ht3 := ht.below hB3
    have hBw3 := hB.tr hB3
    have hgw : w.heap.size < wr.heap.size := ht.blk.lt
    have hxV : ∀ k, k < 3 → ∀ g, (V k).ownBlock = some g → g ≠ wr.heap.size := fun k hk g hg => by have := (ht.lt k hk g hg).1; omega
    have hlen : ∀ k, (partL key k (segL f i)).length ≤ 1000 := fun k => by
      have := List.length_filter_le (fun x => side key x == k) (segL f i)
      rw [segL_length] at this
      unfold partL; omega
    with_reducible repeat (first | refine WL.move ?_ | refine WL.assign ?_ | refine WL.ldKey ?_ | refine WL.ldId ?_ | refine WL.ldIt ?_ | refine WL.itemAddrN ?_ | refine WL.itemAddrP ?_ | refine WL.itemAddrM ?_ | refine WL.toU ?_ | refine WL.shr1 ?_ | refine WL.toI ?_ | refine WL.sub1N ?_ | refine WL.subN ?_ | refine WL.neqItem ?_ | refine WL.eqIt ?_ | refine WL.eqBool ?_ | refine WL.neqBool ?_ | refine WL.quoN ?_ | refine WL.quo2N ?_ | refine WL.lss ?_ | refine WL.leq ?_ | refine WL.gtr ?_ | refine WL.geq ?_ | refine WL.add ?_ | refine WL.sub ?_ | refine WL.mul ?_ | refine WL.quo ?_ | refine WL.rem ?_ | refine WL.eqlI ?_ | refine WL.neqI ?_ | refine WL.not ?_ | refine WL.pick_t ?_ | refine WL.pick_f ?_ | refine WL.extract ?_ | refine WL.lenItems ?_ | refine WL.errI ?_ | refine WL.keyAddr ?_ | refine WL.idAddr ?_ | refine WL.itemAddr ?_ | refine WL.neqE0 ?_ | refine WL.neqE1 ?_ | refine WL.eqlE0 ?_ | refine WL.eqlE1 ?_ | refine WL.item0 ?_ | refine WL.item ?_ | refine WL.itemsNil ?_ | refine WL.itemsTo ?_ | refine WL.itemsFrom ?_ | refine WL.yesA ?_ | refine WL.noA ?_ | refine WL.noUA ?_ | refine WC.seq_s ?_ | refine WC.seq_r ?_ | refine WC.seq_b ?_ | refine WC.seq_t ?_ | refine WC.seq_k ?_ | refine WC.seq_e ?_ | refine WC.seq_l ?_ | refine WC.region fun K hK => ?_ | refine WC.block ?_ | refine WC.skip ?_ | refine WC.exit ?_ | refine WC.ret ?_ | (refine WL.nil (hK _ _ ?_); clear hK K) | refine WX.then_n ?_ | refine WX.then_x ?_ | refine WX.then_r ?_ | refine WX.block_n ?_ | refine WX.block_r ?_ | refine WX.block_x ?_ | refine WX.block_oA ?_ )
    refine WC.joinE0 [(1, .int .i64 key), (4, .pointer (some ⟨w.heap.size, 0, none⟩)), (6, .pointer (some ⟨wr.heap.size, 0, none⟩)), (7, .int .i64 (side key (f i) : Nat)), (8, .slice (some ⟨b, o, none⟩) n c), (9, .int .i64 n), (10, .int .i64 i)] (fun w' => w' = w3) ?_ ?_
    · with_reducible repeat (first | refine WL.move ?_ | refine WL.assign ?_ | refine WL.ldKey ?_ | refine WL.ldId ?_ | refine WL.ldIt ?_ | refine WL.itemAddrN ?_ | refine WL.itemAddrP ?_ | refine WL.itemAddrM ?_ | refine WL.toU ?_ | refine WL.shr1 ?_ | refine WL.toI ?_ | refine WL.sub1N ?_ | refine WL.subN ?_ | refine WL.neqItem ?_ | refine WL.eqIt ?_ | refine WL.eqBool ?_ | refine WL.neqBool ?_ | refine WL.quoN ?_ | refine WL.quo2N ?_ | refine WL.lss ?_ | refine WL.leq ?_ | refine WL.gtr ?_ | refine WL.geq ?_ | refine WL.add ?_ | refine WL.sub ?_ | refine WL.mul ?_ | refine WL.quo ?_ | refine WL.rem ?_ | refine WL.eqlI ?_ | refine WL.neqI ?_ | refine WL.not ?_ | refine WL.pick_t ?_ | refine WL.pick_f ?_ | refine WL.extract ?_ | refine WL.lenItems ?_ | refine WL.errI ?_ | refine WL.keyAddr ?_ | refine WL.idAddr ?_ | refine WL.itemAddr ?_ | refine WL.neqE0 ?_ | refine WL.neqE1 ?_ | refine WL.eqlE0 ?_ | refine WL.eqlE1 ?_ | refine WL.item0 ?_ | refine WL.item ?_ | refine WL.itemsNil ?_ | refine WL.itemsTo ?_ | refine WL.itemsFrom ?_ | refine WL.yesA ?_ | refine WL.noA ?_ | refine WL.noUA ?_ | refine WC.seq ?_ | refine WC.region fun K hK => ?_ | refine WC.block ?_ | refine WC.skip ?_ | refine WC.exit ?_ | refine WC.ret ?_ | (refine WL.nil (hK _ _ ?_); clear hK K) | refine WX.then_n ?_ | refine WX.then_x ?_ | refine WX.then_r ?_ | refine WX.block_n ?_ | refine WX.block_r ?_ | refine WX.block_x ?_ | refine WX.block_oA ?_ | refine WL.ldCI ?_ | refine WL.arrAddr ?_ | refine WL.ldCL ?_)
      refine WC.condD rfl (fun h2 => ?_) (fun h2 => ?_)
      · have e : side key (f i) = 0 := if_pos h2
        with_reducible repeat (first | refine WL.move ?_ | refine WL.assign ?_ | refine WL.ldKey ?_ | refine WL.ldId ?_ | refine WL.ldIt ?_ | refine WL.itemAddrN ?_ | refine WL.itemAddrP ?_ | refine WL.itemAddrM ?_ | refine WL.toU ?_ | refine WL.shr1 ?_ | refine WL.toI ?_ | refine WL.sub1N ?_ | refine WL.subN ?_ | refine WL.neqItem ?_ | refine WL.eqIt ?_ | refine WL.eqBool ?_ | refine WL.neqBool ?_ | refine WL.quoN ?_ | refine WL.quo2N ?_ | refine WL.lss ?_ | refine WL.leq ?_ | refine WL.gtr ?_ | refine WL.geq ?_ | refine WL.add ?_ | refine WL.sub ?_ | refine WL.mul ?_ | refine WL.quo ?_ | refine WL.rem ?_ | refine WL.eqlI ?_ | refine WL.neqI ?_ | refine WL.not ?_ | refine WL.pick_t ?_ | refine WL.pick_f ?_ | refine WL.extract ?_ | refine WL.lenItems ?_ | refine WL.errI ?_ | refine WL.keyAddr ?_ | refine WL.idAddr ?_ | refine WL.itemAddr ?_ | refine WL.neqE0 ?_ | refine WL.neqE1 ?_ | refine WL.eqlE0 ?_ | refine WL.eqlE1 ?_ | refine WL.item0 ?_ | refine WL.item ?_ | refine WL.itemsNil ?_ | refine WL.itemsTo ?_ | refine WL.itemsFrom ?_ | refine WL.yesA ?_ | refine WL.noA ?_ | refine WL.noUA ?_ | refine WC.seq ?_ | refine WC.region fun K hK => ?_ | refine WC.block ?_ | refine WC.skip ?_ | refine WC.exit ?_ | refine WC.ret ?_ | (refine WL.nil (hK _ _ ?_); clear hK K) | refine WX.then_n ?_ | refine WX.then_x ?_ | refine WX.then_r ?_ | refine WX.block_n ?_ | refine WX.block_r ?_ | refine WX.block_x ?_ | refine WX.block_oA ?_ )
        exact WX.meetE0 rfl Sub.auto
      · with_reducible repeat (first | refine WL.move ?_ | refine WL.assign ?_ | refine WL.ldKey ?_ | refine WL.ldId ?_ | refine WL.ldIt ?_ | refine WL.itemAddrN ?_ | refine WL.itemAddrP ?_ | refine WL.itemAddrM ?_ | refine WL.toU ?_ | refine WL.shr1 ?_ | refine WL.toI ?_ | refine WL.sub1N ?_ | refine WL.subN ?_ | refine WL.neqItem ?_ | refine WL.eqIt ?_ | refine WL.eqBool ?_ | refine WL.neqBool ?_ | refine WL.quoN ?_ | refine WL.quo2N ?_ | refine WL.lss ?_ | refine WL.leq ?_ | refine WL.gtr ?_ | refine WL.geq ?_ | refine WL.add ?_ | refine WL.sub ?_ | refine WL.mul ?_ | refine WL.quo ?_ | refine WL.rem ?_ | refine WL.eqlI ?_ | refine WL.neqI ?_ | refine WL.not ?_ | refine WL.pick_t ?_ | refine WL.pick_f ?_ | refine WL.extract ?_ | refine WL.lenItems ?_ | refine WL.errI ?_ | refine WL.keyAddr ?_ | refine WL.idAddr ?_ | refine WL.itemAddr ?_ | refine WL.neqE0 ?_ | refine WL.neqE1 ?_ | refine WL.eqlE0 ?_ | refine WL.eqlE1 ?_ | refine WL.item0 ?_ | refine WL.item ?_ | refine WL.itemsNil ?_ | refine WL.itemsTo ?_ | refine WL.itemsFrom ?_ | refine WL.yesA ?_ | refine WL.noA ?_ | refine WL.noUA ?_ | refine WC.seq ?_ | refine WC.region fun K hK => ?_ | refine WC.block ?_ | refine WC.skip ?_ | refine WC.exit ?_ | refine WC.ret ?_ | (refine WL.nil (hK _ _ ?_); clear hK K) | refine WX.then_n ?_ | refine WX.then_x ?_ | refine WX.then_r ?_ | refine WX.block_n ?_ | refine WX.block_r ?_ | refine WX.block_x ?_ | refine WX.block_oA ?_ | refine WL.ldCI ?_ | refine WL.arrAddr ?_ | refine WL.ldCL ?_)
        refine WC.condD rfl (fun h3 => ?_) (fun h3 => ?_)
        · have e : side key (f i) = 2 := by unfold side; rw [if_neg h2, if_pos h3]
          with_reducible repeat (first | refine WL.move ?_ | refine WL.assign ?_ | refine WL.ldKey ?_ | refine WL.ldId ?_ | refine WL.ldIt ?_ | refine WL.itemAddrN ?_ | refine WL.itemAddrP ?_ | refine WL.itemAddrM ?_ | refine WL.toU ?_ | refine WL.shr1 ?_ | refine WL.toI ?_ | refine WL.sub1N ?_ | refine WL.subN ?_ | refine WL.neqItem ?_ | refine WL.eqIt ?_ | refine WL.eqBool ?_ | refine WL.neqBool ?_ | refine WL.quoN ?_ | refine WL.quo2N ?_ | refine WL.lss ?_ | refine WL.leq ?_ | refine WL.gtr ?_ | refine WL.geq ?_ | refine WL.add ?_ | refine WL.sub ?_ | refine WL.mul ?_ | refine WL.quo ?_ | refine WL.rem ?_ | refine WL.eqlI ?_ | refine WL.neqI ?_ | refine WL.not ?_ | refine WL.pick_t ?_ | refine WL.pick_f ?_ | refine WL.extract ?_ | refine WL.lenItems ?_ | refine WL.errI ?_ | refine WL.keyAddr ?_ | refine WL.idAddr ?_ | refine WL.itemAddr ?_ | refine WL.neqE0 ?_ | refine WL.neqE1 ?_ | refine WL.eqlE0 ?_ | refine WL.eqlE1 ?_ | refine WL.item0 ?_ | refine WL.item ?_ | refine WL.itemsNil ?_ | refine WL.itemsTo ?_ | refine WL.itemsFrom ?_ | refine WL.yesA ?_ | refine WL.noA ?_ | refine WL.noUA ?_ | refine WC.seq ?_ | refine WC.region fun K hK => ?_ | refine WC.block ?_ | refine WC.skip ?_ | refine WC.exit ?_ | refine WC.ret ?_ | (refine WL.nil (hK _ _ ?_); clear hK K) | refine WX.then_n ?_ | refine WX.then_x ?_ | refine WX.then_r ?_ | refine WX.block_n ?_ | refine WX.block_r ?_ | refine WX.block_x ?_ | refine WX.block_oA ?_ )
          exact WX.meetE0 rfl Sub.auto
        · have e : side key (f i) = 1 := by unfold side; rw [if_neg h2, if_neg h3]
          with_reducible repeat (first | refine WL.move ?_ | refine WL.assign ?_ | refine WL.ldKey ?_ | refine WL.ldId ?_ | refine WL.ldIt ?_ | refine WL.itemAddrN ?_ | refine WL.itemAddrP ?_ | refine WL.itemAddrM ?_ | refine WL.toU ?_ | refine WL.shr1 ?_ | refine WL.toI ?_ | refine WL.sub1N ?_ | refine WL.subN ?_ | refine WL.neqItem ?_ | refine WL.eqIt ?_ | refine WL.eqBool ?_ | refine WL.neqBool ?_ | refine WL.quoN ?_ | refine WL.quo2N ?_ | refine WL.lss ?_ | refine WL.leq ?_ | refine WL.gtr ?_ | refine WL.geq ?_ | refine WL.add ?_ | refine WL.sub ?_ | refine WL.mul ?_ | refine WL.quo ?_ | refine WL.rem ?_ | refine WL.eqlI ?_ | refine WL.neqI ?_ | refine WL.not ?_ | refine WL.pick_t ?_ | refine WL.pick_f ?_ | refine WL.extract ?_ | refine WL.lenItems ?_ | refine WL.errI ?_ | refine WL.keyAddr ?_ | refine WL.idAddr ?_ | refine WL.itemAddr ?_ | refine WL.neqE0 ?_ | refine WL.neqE1 ?_ | refine WL.eqlE0 ?_ | refine WL.eqlE1 ?_ | refine WL.item0 ?_ | refine WL.item ?_ | refine WL.itemsNil ?_ | refine WL.itemsTo ?_ | refine WL.itemsFrom ?_ | refine WL.yesA ?_ | refine WL.noA ?_ | refine WL.noUA ?_ | refine WC.seq ?_ | refine WC.region fun K hK => ?_ | refine WC.block ?_ | refine WC.skip ?_ | refine WC.exit ?_ | refine WC.ret ?_ | (refine WL.nil (hK _ _ ?_); clear hK K) | refine WX.then_n ?_ | refine WX.then_x ?_ | refine WX.then_r ?_ | refine WX.block_n ?_ | refine WX.block_r ?_ | refine WX.block_x ?_ | refine WX.block_oA ?_ )
          exact WX.meetE0 rfl Sub.auto
    rintro w3 rfl
    have hk3 : side key (f i) < 3 := by unfold side; split; omega; split <;> omega
    have hsn := fun k => partL_snoc key k f i
    generalize side key (f i) = k0 at *
    refine WC.tm (fun w' => Bk w' w.heap.size 46 [V 0, V 1, V 2] ∧ Bk w' wr.heap.size 29 (itC (f i))) [8] (.pure 0 (.pure 1 (.pure 2 (.read 3 (.read 4 (.act 5 (.act 6 (.pure 7 (.last 8 .fin))))))))) mixed (by kernel_rfl) rfl (by kernel_rfl) (fun w' hb _ => ⟨ht3.blk.below hb, hx3.below hb⟩) fun K hK w4 hB4 hh4 => ?_
    replace ht3 := ht3.below hB4
    replace hx3 := hx3.below hB4
    replace hBw3 := hBw3.tr hB4
    with_reducible repeat (first | (refine TM.pureA ?_) | (refine TM.readA ?_) | refine RL.move ?_ | refine RL.assign ?_ | refine RL.ldKeyB ?_ | refine RL.ldKeyH ?_ | refine RL.ldIdB ?_ | refine RL.ldIdH ?_ | refine RL.ldItB ?_ | refine RL.ldItH ?_ | refine RL.itemAddrN ?_ | refine RL.itemAddrP ?_ | refine RL.itemAddrM ?_ | refine RL.toU ?_ | refine RL.shr1 ?_ | refine RL.toI ?_ | refine RL.sub1N ?_ | refine RL.subN ?_ | refine RL.neqItem ?_ | refine RL.eqIt ?_ | refine RL.eqBool ?_ | refine RL.neqBool ?_ | refine RL.quoN ?_ | refine RL.quo2N ?_ | refine RL.lss ?_ | refine RL.leq ?_ | refine RL.gtr ?_ | refine RL.geq ?_ | refine RL.add ?_ | refine RL.sub ?_ | refine RL.mul ?_ | refine RL.quo ?_ | refine RL.rem ?_ | refine RL.eqlI ?_ | refine RL.neqI ?_ | refine RL.not ?_ | refine RL.pick_t ?_ | refine RL.pick_f ?_ | refine RL.extract ?_ | refine RL.lenItems ?_ | refine RL.errI ?_ | refine RL.keyAddr ?_ | refine RL.idAddr ?_ | refine RL.itemAddr ?_ | refine RL.neqE0 ?_ | refine RL.neqE1 ?_ | refine RL.eqlE0 ?_ | refine RL.eqlE1 ?_ | refine RL.item0 ?_ | refine RL.item ?_ | refine RL.itemsNil ?_ | refine RL.itemsTo ?_ | refine RL.itemsFrom ?_ | refine RL.yesA ?_ | refine RL.noA ?_ | refine RL.noUA ?_ | refine RL.arrAddr ?_)
    refine TM.readA (RL.step (fun w' hw' => OpV.load1 tyItems rfl (hw'.1.cell (i := 0 + k0) (u := V k0) (by rw [Nat.zero_add]; exact three_get V hk3))) rfl ?_) ⟨ht3.blk, hx3⟩
    refine TM.readA (RL.step (fun w' hw' => OpV.loadK (cs := itC (f i)) tyItem rfl (itC_len _) (fun j u hu => by rw [Nat.zero_add]; exact hw'.2.cell hu)) rfl ?_) ⟨ht3.blk, hx3⟩
    refine TM.act rfl (WL.lit (xs := [.tmp 26]) (vs := [itV (f i)]) unItems tyItem rfl rfl (by simp [itC, Value.cells]) rfl rfl (by omega) fun w5 hg5 hb5 hz5 => WL.nil ?_)
    have hB5 := below_of_grown hg5
    replace ht3 := ht3.below hB5
    replace hx3 := hx3.below hB5
    refine ⟨⟨ht3.blk, hx3⟩, ?_⟩
    have hr5 : RowOf itC 2 w5 (some ⟨w4.heap.size, 0, none⟩) 1 (fun _ => f i) := hb5.toRow (enc := itC) (k := 2) (f := fun _ => f i) 0 fun i' hi' j u hu => by
      obtain rfl : i' = 0 := by omega
      simpa [itC, Value.cells] using hu
    refine TM.act rfl (WL.append itC_len itC_one (by omega) unItems tyItem rfl rfl rfl (ht3.own k0 hk3) hr5 (by have := hlen k0; omega) (by have := hlen k0; simp [maxLen]; omega) (by have := ht3.blk.lt; omega) fun v6 w6 row ho6 hg6 hrow6 hbase6 hv6 => WL.nil ?_)
    rw [show segL (fun _ => f i) 1 = [f i] from rfl] at ho6
    have hrne : ∀ g, row = some g → g ≠ w.heap.size ∧ g ≠ wr.heap.size := fun g hg => by
      rcases hrow6 with e | e
      · rw [e] at hg; cases hg
      · exact ⟨(ht3.lt k0 hk3 g (e ▸ hg)).2, hxV k0 hk3 g (e ▸ hg)⟩
    have hb6 := ht3.blk.keep hg6 (fun e => (hrne _ e).1 rfl)
    have hx6 := hx3.keep hg6 (fun e => (hrne _ e).2 rfl)
    refine ⟨⟨hb6, hx6⟩, ?_⟩
    obtain ⟨g6, cap6, e6, hS6⟩ := ho6.toS itC_len (by simp)
    have h6b : v6.ownBlock = some g6 := by rw [e6]; rfl
    with_reducible repeat (first | (refine TM.pureA ?_) | (refine TM.readA ?_) | refine RL.move ?_ | refine RL.assign ?_ | refine RL.ldKeyB ?_ | refine RL.ldKeyH ?_ | refine RL.ldIdB ?_ | refine RL.ldIdH ?_ | refine RL.ldItB ?_ | refine RL.ldItH ?_ | refine RL.itemAddrN ?_ | refine RL.itemAddrP ?_ | refine RL.itemAddrM ?_ | refine RL.toU ?_ | refine RL.shr1 ?_ | refine RL.toI ?_ | refine RL.sub1N ?_ | refine RL.subN ?_ | refine RL.neqItem ?_ | refine RL.eqIt ?_ | refine RL.eqBool ?_ | refine RL.neqBool ?_ | refine RL.quoN ?_ | refine RL.quo2N ?_ | refine RL.lss ?_ | refine RL.leq ?_ | refine RL.gtr ?_ | refine RL.geq ?_ | refine RL.add ?_ | refine RL.sub ?_ | refine RL.mul ?_ | refine RL.quo ?_ | refine RL.rem ?_ | refine RL.eqlI ?_ | refine RL.neqI ?_ | refine RL.not ?_ | refine RL.pick_t ?_ | refine RL.pick_f ?_ | refine RL.extract ?_ | refine RL.lenItems ?_ | refine RL.errI ?_ | refine RL.keyAddr ?_ | refine RL.idAddr ?_ | refine RL.itemAddr ?_ | refine RL.neqE0 ?_ | refine RL.neqE1 ?_ | refine RL.eqlE0 ?_ | refine RL.eqlE1 ?_ | refine RL.item0 ?_ | refine RL.item ?_ | refine RL.itemsNil ?_ | refine RL.itemsTo ?_ | refine RL.itemsFrom ?_ | refine RL.yesA ?_ | refine RL.noA ?_ | refine RL.noUA ?_ | refine RL.arrAddr ?_)
    have hcs6 : v6.cells.toList = [v6] := by rw [e6]; rfl
    refine TM.last rfl (WL.store (g := w.heap.size) (o := 0 + k0) tyItems rfl rfl (by rw [e6]; rfl) (by rw [hcs6, e6]; simp [Value.oneCell']) hb6 (by simp; omega) fun w7 hg7 hb7 hz7 => WL.nil ?_)
    refine TM.fin (hK _ _ ?_)
    clear hK K
    rw [hcs6, Nat.zero_add, three_put V v6 hk3] at hb7
    have hg6gb : g6 ≠ w.heap.size := by
      rcases hv6 with e | e
      · exact (ht3.lt k0 hk3 g6 (e ▸ h6b)).2
      · rw [h6b] at e; injection e with e; have := hB5.size; have := hB4.size; omega
    have ht7 : Three w7 w.heap.size w.heap.size (fun j => if j = k0 then v6 else V j) (fun k => partL key k (segL f (i + 1))) := by
      refine ⟨hb7, Nat.le_refl _, fun k hk => ?_, fun k hk g hg => ?_, fun j k hj hk hjk g hg => ?_⟩
      · show OwnIL w7 w.heap.size (if k = k0 then v6 else V k) (partL key k (segL f (i + 1)))
        rw [hsn k]
        by_cases e : k = k0
        · subst e
          rw [if_pos rfl, if_pos rfl]
          exact ho6.keep hg7 (by rw [h6b]; right; simp; exact fun h => hg6gb h)
        · rw [if_neg e, if_neg e]
          refine OwnL.keep (OwnL.keep (ht3.own k hk) hg6 ?_) hg7 ?_
          · cases e2 : (V k).ownBlock with
            | none => exact .inl rfl
            | some g =>
              right
              rcases hrow6 with r | r
              · rw [r]; simp
              · rw [r]; exact fun e3 => ht3.apart k k0 hk hk3 e g e2 e3.symm
          · cases e2 : (V k).ownBlock with
            | none => exact .inl rfl
            | some g => right; simp; exact (ht3.lt k hk g e2).2
      · replace hg : (if k = k0 then v6 else V k).ownBlock = some g := hg
        by_cases e : k = k0
        · rw [if_pos e, h6b] at hg
          injection hg with hg; subst hg
          exact ⟨Nat.lt_of_lt_of_le hS6.lt hg7.size, hg6gb⟩
        · rw [if_neg e] at hg
          have := ht3.lt k hk g hg
          exact ⟨Nat.lt_of_lt_of_le this.1 (Nat.le_trans hg6.size hg7.size), this.2⟩
      · have hnew : ∀ k, k < 3 → k ≠ k0 → (V k).ownBlock ≠ some g6 := fun k hk hne h => by
          rcases hv6 with e | e
          · exact ht3.apart k0 k hk3 hk (fun h => hne h.symm) g6 (e ▸ h6b) h
          · rw [h6b] at e; injection e with e
            have := (ht3.lt k hk g6 h).1; omega
        replace hg : (if j = k0 then v6 else V j).ownBlock = some g := hg
        show (if k = k0 then v6 else V k).ownBlock ≠ some g
        by_cases e1 : j = k0
        · rw [if_pos e1, h6b] at hg
          injection hg with hg; subst hg
          rw [if_neg (fun e2 => hjk (e1.trans e2.symm))]
          exact hnew k hk (fun e2 => hjk (e1.trans e2.symm))
        · rw [if_neg e1] at hg
          by_cases e2 : k = k0
          · rw [if_pos e2, h6b]
            intro e3; injection e3 with e3; subst e3
            exact hnew j hj e1 hg
          · rw [if_neg e2]; exact ht3.apart j k hj hk hjk g hg
    have hBw7 : Below w.heap.size w w7 := ((hBw3.tr hB5).gr0 hg6 hbase6).gr0 hg7 (fun g hg => by injection hg with hg; omega)
    with_reducible repeat (first | refine WL.move ?_ | refine WL.assign ?_ | refine WL.ldKey ?_ | refine WL.ldId ?_ | refine WL.ldIt ?_ | refine WL.itemAddrN ?_ | refine WL.itemAddrP ?_ | refine WL.itemAddrM ?_ | refine WL.toU ?_ | refine WL.shr1 ?_ | refine WL.toI ?_ | refine WL.sub1N ?_ | refine WL.subN ?_ | refine WL.neqItem ?_ | refine WL.eqIt ?_ | refine WL.eqBool ?_ | refine WL.neqBool ?_ | refine WL.quoN ?_ | refine WL.quo2N ?_ | refine WL.lss ?_ | refine WL.leq ?_ | refine WL.gtr ?_ | refine WL.geq ?_ | refine WL.add ?_ | refine WL.sub ?_ | refine WL.mul ?_ | refine WL.quo ?_ | refine WL.rem ?_ | refine WL.eqlI ?_ | refine WL.neqI ?_ | refine WL.not ?_ | refine WL.pick_t ?_ | refine WL.pick_f ?_ | refine WL.extract ?_ | refine WL.lenItems ?_ | refine WL.errI ?_ | refine WL.keyAddr ?_ | refine WL.idAddr ?_ | refine WL.itemAddr ?_ | refine WL.neqE0 ?_ | refine WL.neqE1 ?_ | refine WL.eqlE0 ?_ | refine WL.eqlE1 ?_ | refine WL.item0 ?_ | refine WL.item ?_ | refine WL.itemsNil ?_ | refine WL.itemsTo ?_ | refine WL.itemsFrom ?_ | refine WL.yesA ?_ | refine WL.noA ?_ | refine WL.noUA ?_ | refine WC.seq ?_ | refine WC.region fun K hK => ?_ | refine WC.block ?_ | refine WC.skip ?_ | refine WC.exit ?_ | refine WC.ret ?_ | (refine WL.nil (hK _ _ ?_); clear hK K) | refine WX.then_n ?_ | refine WX.then_x ?_ | refine WX.then_r ?_ | refine WX.block_n ?_ | refine WX.block_r ?_ | refine WX.block_x ?_ | refine WX.block_oA ?_ )
    exact WX.againE2 (i + 1) _ (n - (i + 1)) (by omega) ⟨by omega, rfl, ht7, hBw7⟩ Sub.auto
  · obtain rfl : i = n := by omega
    with_reducible repeat (first | refine WL.move ?_ | refine WL.assign ?_ | refine WL.ldKey ?_ | refine WL.ldId ?_ | refine WL.ldIt ?_ | refine WL.itemAddrN ?_ | refine WL.itemAddrP ?_ | refine WL.itemAddrM ?_ | refine WL.toU ?_ | refine WL.shr1 ?_ | refine WL.toI ?_ | refine WL.sub1N ?_ | refine WL.subN ?_ | refine WL.neqItem ?_ | refine WL.eqIt ?_ | refine WL.eqBool ?_ | refine WL.neqBool ?_ | refine WL.quoN ?_ | refine WL.quo2N ?_ | refine WL.lss ?_ | refine WL.leq ?_ | refine WL.gtr ?_ | refine WL.geq ?_ | refine WL.add ?_ | refine WL.sub ?_ | refine WL.mul ?_ | refine WL.quo ?_ | refine WL.rem ?_ | refine WL.eqlI ?_ | refine WL.neqI ?_ | refine WL.not ?_ | refine WL.pick_t ?_ | refine WL.pick_f ?_ | refine WL.extract ?_ | refine WL.lenItems ?_ | refine WL.errI ?_ | refine WL.keyAddr ?_ | refine WL.idAddr ?_ | refine WL.itemAddr ?_ | refine WL.neqE0 ?_ | refine WL.neqE1 ?_ | refine WL.eqlE0 ?_ | refine WL.eqlE1 ?_ | refine WL.item0 ?_ | refine WL.item ?_ | refine WL.itemsNil ?_ | refine WL.itemsTo ?_ | refine WL.itemsFrom ?_ | refine WL.yesA ?_ | refine WL.noA ?_ | refine WL.noUA ?_ | refine WC.seq ?_ | refine WC.region fun K hK => ?_ | refine WC.block ?_ | refine WC.skip ?_ | refine WC.exit ?_ | refine WC.ret ?_ | (refine WL.nil (hK _ _ ?_); clear hK K) | refine WX.then_n ?_ | refine WX.then_x ?_ | refine WX.then_r ?_ | refine WX.block_n ?_ | refine WX.block_r ?_ | refine WX.block_x ?_ | refine WX.block_oA ?_ )
    refine WL.step (OpV.loadK (cs := [V 0, V 1, V 2]) tyTA rfl rfl (fun j u hu => by rw [Nat.zero_add]; exact ht.blk.cell hu)) rfl ?_
    have h1 : ∀ u ∈ ([V 0, V 1, V 2] : List Value), u.oneCell' = true := by
      have hk : ∀ k, k < 3 → (V k).oneCell' = true := fun k hk => by obtain ⟨A', c', e, _⟩ := (ht.own k hk).form; rw [e]; rfl
      intro u hu
      simp at hu
      rcases hu with rfl | rfl | rfl
      · exact hk 0 (by omega)
      · exact hk 1 (by omega)
      · exact hk 2 (by omega)
    have hc1 : ∀ k, k < 3 → (V k).cells = #[V k] := fun k hk => by obtain ⟨A', c', e, _⟩ := (ht.own k hk).form; rw [e]; rfl
    refine WL.store (v := .agg ([V 0, V 1, V 2] : List Value).toArray) (g := w.heap.size) (o := 0) tyTA rfl rfl rfl (by intro u hu; exact h1 u hu) ht.blk (by simp) fun w2 hg2 hb2 hz2 => ?_
    replace hb2 : Bk w2 w.heap.size 46 [V 0, V 1, V 2] := hb2
    with_reducible repeat (first | refine WL.move ?_ | refine WL.assign ?_ | refine WL.ldKey ?_ | refine WL.ldId ?_ | refine WL.ldIt ?_ | refine WL.itemAddrN ?_ | refine WL.itemAddrP ?_ | refine WL.itemAddrM ?_ | refine WL.toU ?_ | refine WL.shr1 ?_ | refine WL.toI ?_ | refine WL.sub1N ?_ | refine WL.subN ?_ | refine WL.neqItem ?_ | refine WL.eqIt ?_ | refine WL.eqBool ?_ | refine WL.neqBool ?_ | refine WL.quoN ?_ | refine WL.quo2N ?_ | refine WL.lss ?_ | refine WL.leq ?_ | refine WL.gtr ?_ | refine WL.geq ?_ | refine WL.add ?_ | refine WL.sub ?_ | refine WL.mul ?_ | refine WL.quo ?_ | refine WL.rem ?_ | refine WL.eqlI ?_ | refine WL.neqI ?_ | refine WL.not ?_ | refine WL.pick_t ?_ | refine WL.pick_f ?_ | refine WL.extract ?_ | refine WL.lenItems ?_ | refine WL.errI ?_ | refine WL.keyAddr ?_ | refine WL.idAddr ?_ | refine WL.itemAddr ?_ | refine WL.neqE0 ?_ | refine WL.neqE1 ?_ | refine WL.eqlE0 ?_ | refine WL.eqlE1 ?_ | refine WL.item0 ?_ | refine WL.item ?_ | refine WL.itemsNil ?_ | refine WL.itemsTo ?_ | refine WL.itemsFrom ?_ | refine WL.yesA ?_ | refine WL.noA ?_ | refine WL.noUA ?_ | refine WC.seq ?_ | refine WC.region fun K hK => ?_ | refine WC.block ?_ | refine WC.skip ?_ | refine WC.exit ?_ | refine WC.ret ?_ | (refine WL.nil (hK _ _ ?_); clear hK K) | refine WX.then_n ?_ | refine WX.then_x ?_ | refine WX.then_r ?_ | refine WX.block_n ?_ | refine WX.block_r ?_ | refine WX.block_x ?_ | refine WX.block_oA ?_ )
    refine WX.ret1b tyTA rfl rfl hb2 rfl ⟨hB.gr0 hg2 (fun g hg => by injection hg with hg; omega), V, rfl, fun k hk => (ht.own k hk).keep hg2 ?_⟩
    cases e : (V k).ownBlock with
    | none => exact .inl rfl
    | some g => right; simp; exact (ht.lt k hk g e).2
end Rk
