/- The contract of runs.check; runs.Make's things in memory; the contract of what it puts to a run. -/
import Derived.Test.YtifkfbcckkakgaaDoorCFheld
import Derived.Test.YtifkfbcckkakgaaDoorRowL
import Derived.Test.YtifkfbcckkakgaaDoorRunsP
import Derived.Test.YtifkfbcckkakgaaDoorWithin
namespace Rk
open Go Go.RowKit Go.Proofs
theorem tyHH : Ty Tryd.prog 83 false 1 8 (.pointer none) := Ty.mk' (by kernel_rfl) (fun _ => by kernel_rfl) rfl
section
variable {ops : Array Oper} {K : Env → World → Prop} {R : Env → Prop} {N : Nat} {E : Env} {rest : List Oper} {w : World} {t : TypeId} {pos : String} {after : Array Edge} {d : Nat} {x : Operand} {g j : Nat} {te : TypeId} {cs : List Value} {u : Value}
theorem WL.ldCHH (h : WL Tryd.prog ops K N ((d, u) :: E) rest w) (hx : evE E x = some (.pointer (some ⟨g, j, none⟩)) := by with_unfolding_all exact rfl) (hb : Bk w g te cs := by assumption) (hu : cs[j]? = some u := by with_unfolding_all exact rfl) (hd : Nat.blt d N = true := by with_unfolding_all exact rfl) : WL Tryd.prog ops K N E (⟨some d, .load 83 x, t, pos, after, none⟩ :: rest) w := WL.step (OpV.load1 tyHH hx (hb.cell hu)) hd h
theorem QL.ldCHH (h : QL Tryd.prog ops (fun w' => Below w.heap.size w w') R N ((d, u) :: E) rest) (hx : evE E x = some (.pointer (some ⟨g, j, none⟩)) := by with_unfolding_all exact rfl) (hb : Bk w g te cs := by assumption) (hu : cs[j]? = some u := by with_unfolding_all exact rfl) (hd : Nat.blt d N = true := by with_unfolding_all exact rfl) : QL Tryd.prog ops (fun w' => Below w.heap.size w w') R N E (⟨some d, .load 83 x, t, pos, after, none⟩ :: rest) := QL.step (fun _ hw => OpV.load1 tyHH hx ((hb.below hw).cell hu)) hd h
theorem RL.ldCHHB (h : R ((d, u) :: E)) (hx : evE E x = some (.pointer (some ⟨g, j, none⟩)) := by with_unfolding_all exact rfl) (hb : Bk w g te cs := by assumption) (hu : cs[j]? = some u := by with_unfolding_all exact rfl) (hd : Nat.blt d N = true := by with_unfolding_all exact rfl) : RL Tryd.prog ops (fun w' => Below w.heap.size w w') R N E ⟨some d, .load 83 x, t, pos, after, none⟩ := RL.step (fun _ hw => OpV.load1 tyHH hx ((hb.below hw).cell hu)) hd h
theorem RL.ldCHHH (h : R ((d, u) :: E)) (hx : evE E x = some (.pointer (some ⟨g, j, none⟩)) := by with_unfolding_all exact rfl) (hb : Bk w g te cs := by assumption) (hu : cs[j]? = some u := by with_unfolding_all exact rfl) (hd : Nat.blt d N = true := by with_unfolding_all exact rfl) : RL Tryd.prog ops (fun w' => w'.heap = w.heap) R N E ⟨some d, .load 83 x, t, pos, after, none⟩ := RL.step (fun _ hw => OpV.load1 tyHH hx ((hb.heap hw).cell hu)) hd h
end
attribute [local irreducible] OpV OpU OpC WL QL WC WX OL RL TL TM
def inK (x : Int) : Bool := decide (-1000000 ≤ x) && decide (x ≤ 1000000)
theorem segK_all {f : Nat → Int} {n : Nat} {p : Int → Bool} : (segL f n).all p = true ↔ ∀ i, i < n → p (f i) = true := by
  simp only [segL, List.all_map, List.all_eq_true, List.mem_range, Function.comp]
/-- what is wrong with numbers -/
def numErr (n : Nat) (f : Nat → Int) : Nat := if 60 < n then 4 else if (segL f n).all inK then 0 else 1
theorem numErr_zero {n : Nat} {f : Nat → Int} : numErr n f = 0 ↔ n ≤ 60 ∧ ∀ i, i < n → inK (f i) = true := by
  unfold numErr
  by_cases h1 : 60 < n
  · rw [if_pos h1]; simp; omega
  · rw [if_neg h1]
    by_cases h2 : (segL f n).all inK = true
    · rw [if_pos h2]; exact ⟨fun _ => ⟨by omega, segK_all.1 h2⟩, fun _ => rfl⟩
    · rw [if_neg h2]; exact ⟨fun h => (by cases h), fun h => absurd (segK_all.2 h.2) h2⟩
theorem rcheck_any (A : Option Addr) (n c : Nat) (f : Nat → Int) (w : World) (hr : RowOf inC 1 w A n f) :
    Calls Tryd.prog 37 #[.slice A n c] w (Ret fun v w' => v = errOf (numErr n f) ∧ w' = w) := by
  refine calls_of (l := [.slice A n c]) Tryd.func37 rfl Tryd.ntmps37 rfl ?_
  with_reducible repeat (first | refine WL.move ?_ | refine WL.assign ?_ | refine WL.ldKey ?_ | refine WL.ldId ?_ | refine WL.ldInt ?_ | refine WL.ldIt ?_ | refine WL.itemAddrN ?_ | refine WL.itemAddrP ?_ | refine WL.itemAddrM ?_ | refine WL.toU ?_ | refine WL.shr1 ?_ | refine WL.toI ?_ | refine WL.sub1N ?_ | refine WL.subN ?_ | refine WL.neqItem ?_ | refine WL.eqIt ?_ | refine WL.eqBool ?_ | refine WL.neqBool ?_ | refine WL.quoN ?_ | refine WL.quo2N ?_ | refine WL.intAddrN ?_ | refine WL.intAddrM ?_ | refine WL.intAddr ?_ | refine WL.lenInts ?_ | refine WL.intsTo ?_ | refine WL.intsFrom ?_ | refine WL.lss ?_ | refine WL.leq ?_ | refine WL.gtr ?_ | refine WL.geq ?_ | refine WL.add ?_ | refine WL.sub ?_ | refine WL.mul ?_ | refine WL.quo ?_ | refine WL.rem ?_ | refine WL.eqlI ?_ | refine WL.neqI ?_ | refine WL.not ?_ | refine WL.pick_t ?_ | refine WL.pick_f ?_ | refine WL.extract ?_ | refine WL.lenItems ?_ | refine WL.errI ?_ | refine WL.keyAddr ?_ | refine WL.idAddr ?_ | refine WL.itemAddr ?_ | refine WL.neqE0 ?_ | refine WL.neqE1 ?_ | refine WL.eqlE0 ?_ | refine WL.eqlE1 ?_ | refine WL.item0 ?_ | refine WL.item ?_ | refine WL.itemsNil ?_ | refine WL.itemsTo ?_ | refine WL.itemsFrom ?_ | refine WL.yesA ?_ | refine WL.noA ?_ | refine WL.noUA ?_ | refine WC.seq ?_ | refine WC.region fun K hK => ?_ | refine WC.block ?_ | refine WC.skip ?_ | refine WC.exit ?_ | refine WC.ret ?_ | (refine WL.nil (hK _ _ ?_); clear hK K) | refine WX.then_n ?_ | refine WX.then_x ?_ | refine WX.then_r ?_ | refine WX.block_n ?_ | refine WX.block_r ?_ | refine WX.block_x ?_ | refine WX.block_oA ?_ )
  refine WC.condD rfl (fun h => ?_) (fun h => ?_)
  · with_reducible repeat (first | refine WL.move ?_ | refine WL.assign ?_ | refine WL.ldKey ?_ | refine WL.ldId ?_ | refine WL.ldInt ?_ | refine WL.ldIt ?_ | refine WL.itemAddrN ?_ | refine WL.itemAddrP ?_ | refine WL.itemAddrM ?_ | refine WL.toU ?_ | refine WL.shr1 ?_ | refine WL.toI ?_ | refine WL.sub1N ?_ | refine WL.subN ?_ | refine WL.neqItem ?_ | refine WL.eqIt ?_ | refine WL.eqBool ?_ | refine WL.neqBool ?_ | refine WL.quoN ?_ | refine WL.quo2N ?_ | refine WL.intAddrN ?_ | refine WL.intAddrM ?_ | refine WL.intAddr ?_ | refine WL.lenInts ?_ | refine WL.intsTo ?_ | refine WL.intsFrom ?_ | refine WL.lss ?_ | refine WL.leq ?_ | refine WL.gtr ?_ | refine WL.geq ?_ | refine WL.add ?_ | refine WL.sub ?_ | refine WL.mul ?_ | refine WL.quo ?_ | refine WL.rem ?_ | refine WL.eqlI ?_ | refine WL.neqI ?_ | refine WL.not ?_ | refine WL.pick_t ?_ | refine WL.pick_f ?_ | refine WL.extract ?_ | refine WL.lenItems ?_ | refine WL.errI ?_ | refine WL.keyAddr ?_ | refine WL.idAddr ?_ | refine WL.itemAddr ?_ | refine WL.neqE0 ?_ | refine WL.neqE1 ?_ | refine WL.eqlE0 ?_ | refine WL.eqlE1 ?_ | refine WL.item0 ?_ | refine WL.item ?_ | refine WL.itemsNil ?_ | refine WL.itemsTo ?_ | refine WL.itemsFrom ?_ | refine WL.yesA ?_ | refine WL.noA ?_ | refine WL.noUA ?_ | refine WC.seq ?_ | refine WC.region fun K hK => ?_ | refine WC.block ?_ | refine WC.skip ?_ | refine WC.exit ?_ | refine WC.ret ?_ | (refine WL.nil (hK _ _ ?_); clear hK K) | refine WX.then_n ?_ | refine WX.then_x ?_ | refine WX.then_r ?_ | refine WX.block_n ?_ | refine WX.block_r ?_ | refine WX.block_x ?_ | refine WX.block_oA ?_ )
    exact WX.ret1 rfl rfl ⟨by rw [show numErr n f = 4 from if_pos (by omega)]; rfl, rfl⟩
  · with_reducible repeat (first | refine WL.move ?_ | refine WL.assign ?_ | refine WL.ldKey ?_ | refine WL.ldId ?_ | refine WL.ldInt ?_ | refine WL.ldIt ?_ | refine WL.itemAddrN ?_ | refine WL.itemAddrP ?_ | refine WL.itemAddrM ?_ | refine WL.toU ?_ | refine WL.shr1 ?_ | refine WL.toI ?_ | refine WL.sub1N ?_ | refine WL.subN ?_ | refine WL.neqItem ?_ | refine WL.eqIt ?_ | refine WL.eqBool ?_ | refine WL.neqBool ?_ | refine WL.quoN ?_ | refine WL.quo2N ?_ | refine WL.intAddrN ?_ | refine WL.intAddrM ?_ | refine WL.intAddr ?_ | refine WL.lenInts ?_ | refine WL.intsTo ?_ | refine WL.intsFrom ?_ | refine WL.lss ?_ | refine WL.leq ?_ | refine WL.gtr ?_ | refine WL.geq ?_ | refine WL.add ?_ | refine WL.sub ?_ | refine WL.mul ?_ | refine WL.quo ?_ | refine WL.rem ?_ | refine WL.eqlI ?_ | refine WL.neqI ?_ | refine WL.not ?_ | refine WL.pick_t ?_ | refine WL.pick_f ?_ | refine WL.extract ?_ | refine WL.lenItems ?_ | refine WL.errI ?_ | refine WL.keyAddr ?_ | refine WL.idAddr ?_ | refine WL.itemAddr ?_ | refine WL.neqE0 ?_ | refine WL.neqE1 ?_ | refine WL.eqlE0 ?_ | refine WL.eqlE1 ?_ | refine WL.item0 ?_ | refine WL.item ?_ | refine WL.itemsNil ?_ | refine WL.itemsTo ?_ | refine WL.itemsFrom ?_ | refine WL.yesA ?_ | refine WL.noA ?_ | refine WL.noUA ?_ | refine WC.seq ?_ | refine WC.region fun K hK => ?_ | refine WC.block ?_ | refine WC.skip ?_ | refine WC.exit ?_ | refine WC.ret ?_ | (refine WL.nil (hK _ _ ?_); clear hK K) | refine WX.then_n ?_ | refine WX.then_x ?_ | refine WX.then_r ?_ | refine WX.block_n ?_ | refine WX.block_r ?_ | refine WX.block_x ?_ | refine WX.block_oA ?_ )
    refine WC.loopE (fun k : Nat => [(9, .slice A n c), (10, .int .i64 n), (11, .int .i64 k)]) (fun k q wr => k ≤ n ∧ q = n - k ∧ (∀ i, i < k → inK (f i) = true) ∧ wr = w) n 0 ⟨by omega, rfl, fun i hi => by omega, rfl⟩ Sub.auto ?_
    rintro k q wr ⟨hk, rfl, hok, rfl⟩
    with_reducible repeat (first | refine WL.move ?_ | refine WL.assign ?_ | refine WL.ldKey ?_ | refine WL.ldId ?_ | refine WL.ldInt ?_ | refine WL.ldIt ?_ | refine WL.itemAddrN ?_ | refine WL.itemAddrP ?_ | refine WL.itemAddrM ?_ | refine WL.toU ?_ | refine WL.shr1 ?_ | refine WL.toI ?_ | refine WL.sub1N ?_ | refine WL.subN ?_ | refine WL.neqItem ?_ | refine WL.eqIt ?_ | refine WL.eqBool ?_ | refine WL.neqBool ?_ | refine WL.quoN ?_ | refine WL.quo2N ?_ | refine WL.intAddrN ?_ | refine WL.intAddrM ?_ | refine WL.intAddr ?_ | refine WL.lenInts ?_ | refine WL.intsTo ?_ | refine WL.intsFrom ?_ | refine WL.lss ?_ | refine WL.leq ?_ | refine WL.gtr ?_ | refine WL.geq ?_ | refine WL.add ?_ | refine WL.sub ?_ | refine WL.mul ?_ | refine WL.quo ?_ | refine WL.rem ?_ | refine WL.eqlI ?_ | refine WL.neqI ?_ | refine WL.not ?_ | refine WL.pick_t ?_ | refine WL.pick_f ?_ | refine WL.extract ?_ | refine WL.lenItems ?_ | refine WL.errI ?_ | refine WL.keyAddr ?_ | refine WL.idAddr ?_ | refine WL.itemAddr ?_ | refine WL.neqE0 ?_ | refine WL.neqE1 ?_ | refine WL.eqlE0 ?_ | refine WL.eqlE1 ?_ | refine WL.item0 ?_ | refine WL.item ?_ | refine WL.itemsNil ?_ | refine WL.itemsTo ?_ | refine WL.itemsFrom ?_ | refine WL.yesA ?_ | refine WL.noA ?_ | refine WL.noUA ?_ | refine WC.seq ?_ | refine WC.region fun K hK => ?_ | refine WC.block ?_ | refine WC.skip ?_ | refine WC.exit ?_ | refine WC.ret ?_ | (refine WL.nil (hK _ _ ?_); clear hK K) | refine WX.then_n ?_ | refine WX.then_x ?_ | refine WX.then_r ?_ | refine WX.block_n ?_ | refine WX.block_r ?_ | refine WX.block_x ?_ | refine WX.block_oA ?_ )
    refine WC.condD rfl (fun h2 => ?_) (fun h2 => ?_)
    · obtain ⟨b, o, rfl, _⟩ := hr.ne (by omega)
      with_reducible repeat (first | refine WL.move ?_ | refine WL.assign ?_ | refine WL.ldKey ?_ | refine WL.ldId ?_ | refine WL.ldInt ?_ | refine WL.ldIt ?_ | refine WL.itemAddrN ?_ | refine WL.itemAddrP ?_ | refine WL.itemAddrM ?_ | refine WL.toU ?_ | refine WL.shr1 ?_ | refine WL.toI ?_ | refine WL.sub1N ?_ | refine WL.subN ?_ | refine WL.neqItem ?_ | refine WL.eqIt ?_ | refine WL.eqBool ?_ | refine WL.neqBool ?_ | refine WL.quoN ?_ | refine WL.quo2N ?_ | refine WL.intAddrN ?_ | refine WL.intAddrM ?_ | refine WL.intAddr ?_ | refine WL.lenInts ?_ | refine WL.intsTo ?_ | refine WL.intsFrom ?_ | refine WL.lss ?_ | refine WL.leq ?_ | refine WL.gtr ?_ | refine WL.geq ?_ | refine WL.add ?_ | refine WL.sub ?_ | refine WL.mul ?_ | refine WL.quo ?_ | refine WL.rem ?_ | refine WL.eqlI ?_ | refine WL.neqI ?_ | refine WL.not ?_ | refine WL.pick_t ?_ | refine WL.pick_f ?_ | refine WL.extract ?_ | refine WL.lenItems ?_ | refine WL.errI ?_ | refine WL.keyAddr ?_ | refine WL.idAddr ?_ | refine WL.itemAddr ?_ | refine WL.neqE0 ?_ | refine WL.neqE1 ?_ | refine WL.eqlE0 ?_ | refine WL.eqlE1 ?_ | refine WL.item0 ?_ | refine WL.item ?_ | refine WL.itemsNil ?_ | refine WL.itemsTo ?_ | refine WL.itemsFrom ?_ | refine WL.yesA ?_ | refine WL.noA ?_ | refine WL.noUA ?_ | refine WC.seq ?_ | refine WC.region fun K hK => ?_ | refine WC.block ?_ | refine WC.skip ?_ | refine WC.exit ?_ | refine WC.ret ?_ | (refine WL.nil (hK _ _ ?_); clear hK K) | refine WX.then_n ?_ | refine WX.then_x ?_ | refine WX.then_r ?_ | refine WX.block_n ?_ | refine WX.block_r ?_ | refine WX.block_x ?_ | refine WX.block_oA ?_ )
      refine WL.call (OpC.static Tryd.func30 (by kernel_rfl) rfl rfl) rfl (within_any _ _ _ _) ?_
      rintro v _ ⟨rfl, rfl⟩
      with_reducible repeat (first | refine WL.move ?_ | refine WL.assign ?_ | refine WL.ldKey ?_ | refine WL.ldId ?_ | refine WL.ldInt ?_ | refine WL.ldIt ?_ | refine WL.itemAddrN ?_ | refine WL.itemAddrP ?_ | refine WL.itemAddrM ?_ | refine WL.toU ?_ | refine WL.shr1 ?_ | refine WL.toI ?_ | refine WL.sub1N ?_ | refine WL.subN ?_ | refine WL.neqItem ?_ | refine WL.eqIt ?_ | refine WL.eqBool ?_ | refine WL.neqBool ?_ | refine WL.quoN ?_ | refine WL.quo2N ?_ | refine WL.intAddrN ?_ | refine WL.intAddrM ?_ | refine WL.intAddr ?_ | refine WL.lenInts ?_ | refine WL.intsTo ?_ | refine WL.intsFrom ?_ | refine WL.lss ?_ | refine WL.leq ?_ | refine WL.gtr ?_ | refine WL.geq ?_ | refine WL.add ?_ | refine WL.sub ?_ | refine WL.mul ?_ | refine WL.quo ?_ | refine WL.rem ?_ | refine WL.eqlI ?_ | refine WL.neqI ?_ | refine WL.not ?_ | refine WL.pick_t ?_ | refine WL.pick_f ?_ | refine WL.extract ?_ | refine WL.lenItems ?_ | refine WL.errI ?_ | refine WL.keyAddr ?_ | refine WL.idAddr ?_ | refine WL.itemAddr ?_ | refine WL.neqE0 ?_ | refine WL.neqE1 ?_ | refine WL.eqlE0 ?_ | refine WL.eqlE1 ?_ | refine WL.item0 ?_ | refine WL.item ?_ | refine WL.itemsNil ?_ | refine WL.itemsTo ?_ | refine WL.itemsFrom ?_ | refine WL.yesA ?_ | refine WL.noA ?_ | refine WL.noUA ?_ | refine WC.seq ?_ | refine WC.region fun K hK => ?_ | refine WC.block ?_ | refine WC.skip ?_ | refine WC.exit ?_ | refine WC.ret ?_ | (refine WL.nil (hK _ _ ?_); clear hK K) | refine WX.then_n ?_ | refine WX.then_x ?_ | refine WX.then_r ?_ | refine WX.block_n ?_ | refine WX.block_r ?_ | refine WX.block_x ?_ | refine WX.block_oA ?_ )
      cases hx : (decide (-1000000 ≤ f k) && decide (f k ≤ 1000000)) with
      | false =>
        refine WC.ifT rfl rfl ?_
        with_reducible repeat (first | refine WL.move ?_ | refine WL.assign ?_ | refine WL.ldKey ?_ | refine WL.ldId ?_ | refine WL.ldInt ?_ | refine WL.ldIt ?_ | refine WL.itemAddrN ?_ | refine WL.itemAddrP ?_ | refine WL.itemAddrM ?_ | refine WL.toU ?_ | refine WL.shr1 ?_ | refine WL.toI ?_ | refine WL.sub1N ?_ | refine WL.subN ?_ | refine WL.neqItem ?_ | refine WL.eqIt ?_ | refine WL.eqBool ?_ | refine WL.neqBool ?_ | refine WL.quoN ?_ | refine WL.quo2N ?_ | refine WL.intAddrN ?_ | refine WL.intAddrM ?_ | refine WL.intAddr ?_ | refine WL.lenInts ?_ | refine WL.intsTo ?_ | refine WL.intsFrom ?_ | refine WL.lss ?_ | refine WL.leq ?_ | refine WL.gtr ?_ | refine WL.geq ?_ | refine WL.add ?_ | refine WL.sub ?_ | refine WL.mul ?_ | refine WL.quo ?_ | refine WL.rem ?_ | refine WL.eqlI ?_ | refine WL.neqI ?_ | refine WL.not ?_ | refine WL.pick_t ?_ | refine WL.pick_f ?_ | refine WL.extract ?_ | refine WL.lenItems ?_ | refine WL.errI ?_ | refine WL.keyAddr ?_ | refine WL.idAddr ?_ | refine WL.itemAddr ?_ | refine WL.neqE0 ?_ | refine WL.neqE1 ?_ | refine WL.eqlE0 ?_ | refine WL.eqlE1 ?_ | refine WL.item0 ?_ | refine WL.item ?_ | refine WL.itemsNil ?_ | refine WL.itemsTo ?_ | refine WL.itemsFrom ?_ | refine WL.yesA ?_ | refine WL.noA ?_ | refine WL.noUA ?_ | refine WC.seq ?_ | refine WC.region fun K hK => ?_ | refine WC.block ?_ | refine WC.skip ?_ | refine WC.exit ?_ | refine WC.ret ?_ | (refine WL.nil (hK _ _ ?_); clear hK K) | refine WX.then_n ?_ | refine WX.then_x ?_ | refine WX.then_r ?_ | refine WX.block_n ?_ | refine WX.block_r ?_ | refine WX.block_x ?_ | refine WX.block_oA ?_ )
        exact WX.ret1 rfl rfl ⟨by
          rw [show numErr n f = 1 from by
            unfold numErr; rw [if_neg (by omega), if_neg (fun hh => by have := segK_all.1 hh k (by omega); unfold inK at this; rw [hx] at this; cases this)]]; rfl, rfl⟩
      | true =>
        refine WC.ifF rfl rfl ?_
        with_reducible repeat (first | refine WL.move ?_ | refine WL.assign ?_ | refine WL.ldKey ?_ | refine WL.ldId ?_ | refine WL.ldInt ?_ | refine WL.ldIt ?_ | refine WL.itemAddrN ?_ | refine WL.itemAddrP ?_ | refine WL.itemAddrM ?_ | refine WL.toU ?_ | refine WL.shr1 ?_ | refine WL.toI ?_ | refine WL.sub1N ?_ | refine WL.subN ?_ | refine WL.neqItem ?_ | refine WL.eqIt ?_ | refine WL.eqBool ?_ | refine WL.neqBool ?_ | refine WL.quoN ?_ | refine WL.quo2N ?_ | refine WL.intAddrN ?_ | refine WL.intAddrM ?_ | refine WL.intAddr ?_ | refine WL.lenInts ?_ | refine WL.intsTo ?_ | refine WL.intsFrom ?_ | refine WL.lss ?_ | refine WL.leq ?_ | refine WL.gtr ?_ | refine WL.geq ?_ | refine WL.add ?_ | refine WL.sub ?_ | refine WL.mul ?_ | refine WL.quo ?_ | refine WL.rem ?_ | refine WL.eqlI ?_ | refine WL.neqI ?_ | refine WL.not ?_ | refine WL.pick_t ?_ | refine WL.pick_f ?_ | refine WL.extract ?_ | refine WL.lenItems ?_ | refine WL.errI ?_ | refine WL.keyAddr ?_ | refine WL.idAddr ?_ | refine WL.itemAddr ?_ | refine WL.neqE0 ?_ | refine WL.neqE1 ?_ | refine WL.eqlE0 ?_ | refine WL.eqlE1 ?_ | refine WL.item0 ?_ | refine WL.item ?_ | refine WL.itemsNil ?_ | refine WL.itemsTo ?_ | refine WL.itemsFrom ?_ | refine WL.yesA ?_ | refine WL.noA ?_ | refine WL.noUA ?_ | refine WC.seq ?_ | refine WC.region fun K hK => ?_ | refine WC.block ?_ | refine WC.skip ?_ | refine WC.exit ?_ | refine WC.ret ?_ | (refine WL.nil (hK _ _ ?_); clear hK K) | refine WX.then_n ?_ | refine WX.then_x ?_ | refine WX.then_r ?_ | refine WX.block_n ?_ | refine WX.block_r ?_ | refine WX.block_x ?_ | refine WX.block_oA ?_ )
        refine WX.againE (k + 1) (n - (k + 1)) (by omega) ⟨by omega, rfl, fun i hi => ?_, rfl⟩ Sub.auto
        by_cases e : i = k
        · subst e; exact hx
        · exact hok i (by omega)
    · obtain rfl : k = n := by omega
      with_reducible repeat (first | refine WL.move ?_ | refine WL.assign ?_ | refine WL.ldKey ?_ | refine WL.ldId ?_ | refine WL.ldInt ?_ | refine WL.ldIt ?_ | refine WL.itemAddrN ?_ | refine WL.itemAddrP ?_ | refine WL.itemAddrM ?_ | refine WL.toU ?_ | refine WL.shr1 ?_ | refine WL.toI ?_ | refine WL.sub1N ?_ | refine WL.subN ?_ | refine WL.neqItem ?_ | refine WL.eqIt ?_ | refine WL.eqBool ?_ | refine WL.neqBool ?_ | refine WL.quoN ?_ | refine WL.quo2N ?_ | refine WL.intAddrN ?_ | refine WL.intAddrM ?_ | refine WL.intAddr ?_ | refine WL.lenInts ?_ | refine WL.intsTo ?_ | refine WL.intsFrom ?_ | refine WL.lss ?_ | refine WL.leq ?_ | refine WL.gtr ?_ | refine WL.geq ?_ | refine WL.add ?_ | refine WL.sub ?_ | refine WL.mul ?_ | refine WL.quo ?_ | refine WL.rem ?_ | refine WL.eqlI ?_ | refine WL.neqI ?_ | refine WL.not ?_ | refine WL.pick_t ?_ | refine WL.pick_f ?_ | refine WL.extract ?_ | refine WL.lenItems ?_ | refine WL.errI ?_ | refine WL.keyAddr ?_ | refine WL.idAddr ?_ | refine WL.itemAddr ?_ | refine WL.neqE0 ?_ | refine WL.neqE1 ?_ | refine WL.eqlE0 ?_ | refine WL.eqlE1 ?_ | refine WL.item0 ?_ | refine WL.item ?_ | refine WL.itemsNil ?_ | refine WL.itemsTo ?_ | refine WL.itemsFrom ?_ | refine WL.yesA ?_ | refine WL.noA ?_ | refine WL.noUA ?_ | refine WC.seq ?_ | refine WC.region fun K hK => ?_ | refine WC.block ?_ | refine WC.skip ?_ | refine WC.exit ?_ | refine WC.ret ?_ | (refine WL.nil (hK _ _ ?_); clear hK K) | refine WX.then_n ?_ | refine WX.then_x ?_ | refine WX.then_r ?_ | refine WX.block_n ?_ | refine WX.block_r ?_ | refine WX.block_x ?_ | refine WX.block_oA ?_ )
      exact WX.ret1 rfl rfl ⟨by rw [numErr_zero.2 ⟨by omega, hok⟩]; rfl, rfl⟩

open Runs in
def toE (x : Hd) : El_held := ((x.1 : Int), x.2)
abbrev fSoon : FuncId := 39
theorem key_inj_held {a b : El_held} (ha : okE_held a) (hb : okE_held b) (h1 : G.Key.key a ≤ G.Key.key b) (h2 : G.Key.key b ≤ G.Key.key a) : a = b := by
  simp only [G.Key.key, okE_held] at *
  exact Prod.ext (by omega) (by omega)
theorem key_le_held {x y : Runs.Hd} (hx : okE_held (toE x)) (hy : okE_held (toE y)) (h : Runs.le x y) : G.Key.key (toE x) ≤ G.Key.key (toE y) := by
  simp only [G.Key.key, okE_held, toE, Runs.le] at *
  omega
/-- what is popped is the first one held -/
theorem pop_is {l l' : List El_held} {x' : El_held} {x : Runs.Hd} {r : List Runs.Hd} (hok : ∀ y ∈ l, okE_held y) (hl : l.Perm ((x :: r).map toE)) (hs : Runs.SortedH (x :: r)) (hp : l.Perm (x' :: l')) (hle : ∀ y ∈ l', G.Key.key x' ≤ G.Key.key y) : x' = toE x ∧ l'.Perm (r.map toE) := by
  have hx : toE x ∈ l := hl.mem_iff.2 (by simp)
  have hx' : x' ∈ l := hp.mem_iff.2 (by simp)
  have h1 : G.Key.key x' ≤ G.Key.key (toE x) := by
    rcases List.mem_cons.1 (hp.mem_iff.1 hx) with e | h
    · rw [e]; exact Int.le_refl _
    · exact hle _ h
  have h2 : G.Key.key (toE x) ≤ G.Key.key x' := by
    have := hl.mem_iff.1 hx'
    rw [List.map_cons] at this
    rcases List.mem_cons.1 this with e | h
    · rw [e]; exact Int.le_refl _
    · obtain ⟨y, hy, rfl⟩ := List.mem_map.1 h
      exact key_le_held (hok _ hx) (hok _ hx') ((List.pairwise_cons.1 hs).1 y hy)
  have e := key_inj_held (hok _ hx') (hok _ hx) h1 h2
  subst e
  exact ⟨rfl, (hp.symm.trans (by simpa using hl)).cons_inv⟩

/-- runs.Make's things: the box of the heap, the box of the runs, the heap, the runs; 'col' tells whose a block is -/
structure MkSt (w : World) (B hb ob hp : Nat) (v ov : Value) (l : List El_held) (us : List Sl) (rows : List (List Int)) (col : Nat → Nat) : Prop where
  hbx : Bk w hb 83 [.pointer (some ⟨hp, 0, none⟩)]
  obx : Bk w ob 31 [ov]
  heap : HObj_held w B hp fSoon v l
  rws : RowsM w B ov us rows
  b0 : B ≤ hb
  b1 : B ≤ ob
  c0 : col hb = 0
  c1 : col ob = 1
  c2 : ∀ g, hF hp v g → col g = 2
  c3 : ∀ g, rF ov us g → col g = 3
def recolM (w : World) (col : Nat → Nat) (c : Nat) : Nat → Nat := fun g => if g < w.heap.size then col g else c
section
variable {w w' w1 w2 : World} {B hb ob hp : Nat} {v v' ov ov' : Value} {l l' : List El_held} {us us' : List Sl} {rows rows' : List (List Int)} {col : Nat → Nat} {F F' : Nat → Prop} {row : Option Nat}
theorem recolM_old {c g : Nat} (h : g < w.heap.size) : recolM w col c g = col g := if_pos h
theorem recolM_new {c : Nat} (hc : Chg w w' F F') (h : ∀ g, F g → col g = c) : ∀ g, F' g → recolM w col c g = c := fun g hg => by
  unfold recolM
  rcases (hc.next g hg).1 with h1 | h1
  · split
    · exact h g h1
    · rfl
  · rw [if_neg (by omega)]
theorem MkSt.below (h : MkSt w B hb ob hp v ov l us rows col) (hB : Below w.heap.size w w') : MkSt w' B hb ob hp v ov l us rows col :=
  ⟨h.hbx.below hB, h.obx.below hB, h.heap.below hB, h.rws.below hB, h.b0, h.b1, h.c0, h.c1, h.c2, h.c3⟩
/-- a foreign block was written -/
theorem MkSt.other {g : Nat} (h : MkSt w B hb ob hp v ov l us rows col) (hg : w.grownBy w' (some g)) (hl : g < w.heap.size) (hn : g ≠ hb ∧ g ≠ ob ∧ ¬ hF hp v g ∧ ¬ rF ov us g) : MkSt w' B hb ob hp v ov l us rows col := by
  have hc : Chg w w' (one g) (one g) := Chg.one hg hl
  exact ⟨h.hbx.chg hc (fun e => hn.1 e.symm), h.obx.chg hc (fun e => hn.2.1 e.symm), h.heap.chg hc (fun k a b => by cases a; exact hn.2.2.1 b), h.rws.chg hc (fun k a b => by cases a; exact hn.2.2.2 b), h.b0, h.b1, h.c0, h.c1, h.c2, h.c3⟩
theorem MkSt.heapC (h : MkSt w B hb ob hp v ov l us rows col) (hc : Chg w w' (hF hp v) (hF hp v')) (h' : HObj_held w' B hp fSoon v' l') : MkSt w' B hb ob hp v' ov l' us rows (recolM w col 2) ∧ Below B w w' := by
  refine ⟨⟨h.hbx.chg hc (fun hf => by have := h.c2 _ hf; have := h.c0; omega), h.obx.chg hc (fun hf => by have := h.c2 _ hf; have := h.c1; omega), h', h.rws.chg hc (fun g a b => by have := h.c2 g a; have := h.c3 g b; omega), h.b0, h.b1, ?_, ?_, recolM_new hc h.c2, ?_⟩, ⟨hc.os, hc.tape, hc.output, hc.size, fun k hk => hc.block k (by have := h.b0; have := h.hbx.lt; omega) (fun hf => by have := h.heap.ge k hf; omega)⟩⟩
  · rw [recolM_old h.hbx.lt]; exact h.c0
  · rw [recolM_old h.obx.lt]; exact h.c1
  · intro g hg; rw [recolM_old (h.rws.lt g hg).1]; exact h.c3 g hg
/-- the runs turned -/
theorem MkSt.rows1 (h : MkSt w B hb ob hp v ov l us rows col) (hc : Chg w w' (rF ov us) (rF ov us')) (hr : RowsM w' B ov us' rows') : MkSt w' B hb ob hp v ov l us' rows' (recolM w col 3) ∧ Below B w w' := by
  refine ⟨⟨h.hbx.chg hc (fun hf => by have := h.c3 _ hf; have := h.c0; omega), h.obx.chg hc (fun hf => by have := h.c3 _ hf; have := h.c1; omega), h.heap.chg hc (fun g a b => by have := h.c2 g b; have := h.c3 g a; omega), hr, h.b0, h.b1, ?_, ?_, ?_, recolM_new hc h.c3⟩,
    ⟨hc.os, hc.tape, hc.output, hc.size, fun k hk => hc.block k (by have := h.b0; have := h.hbx.lt; omega) (fun hf => by have := (h.rws.lt k hf).2; omega)⟩⟩
  · rw [recolM_old h.hbx.lt]; exact h.c0
  · rw [recolM_old h.obx.lt]; exact h.c1
  · intro g hg; rw [recolM_old (h.heap.lt g hg)]; exact h.c2 g hg
theorem MkSt.rows2 (h : MkSt w B hb ob hp v ov l us rows col) (hc : Chg w w1 (rF ov us) (rF ov' us')) (hr : RowsM w1 B ov' us' rows') (hg : w1.grownBy w2 (some ob)) (hbk : Bk w2 ob 31 [ov']) : MkSt w2 B hb ob hp v ov' l us' rows' (recolM w col 3) ∧ Below B w w2 := by
  have hob : ¬ rF ov' us' ob := fun hf => by
    rcases (hc.next ob hf).1 with h1 | h1
    · have := h.c3 ob h1; have := h.c1; omega
    · have := h.obx.lt; omega
  have hbo : hb ≠ ob := fun e => by have := h.c0; have := h.c1; rw [e] at *; omega
  have hhp : ¬ hF hp v ob := fun hf => by have := h.c2 ob hf; have := h.c1; omega
  have hl1 : ob < w1.heap.size := Nat.lt_of_lt_of_le h.obx.lt hc.size
  have h1 := h.heap.chg hc (fun g a b => by have := h.c2 g b; have := h.c3 g a; omega)
  refine ⟨⟨(h.hbx.chg hc (fun hf => by have := h.c3 _ hf; have := h.c0; omega)).keep hg (by simp; exact fun e => hbo e.symm), hbk, h1.chg (Chg.one hg hl1) (fun g a b => by cases a; exact hhp b), hr.keep hg hl1 hob, h.b0, h.b1, ?_, ?_, ?_, recolM_new hc h.c3⟩,
    ⟨hg.os.trans hc.os, hg.tape.trans hc.tape, hg.output.trans hc.output, Nat.le_trans hc.size hg.size, fun k hk => ?_⟩⟩
  · rw [recolM_old h.hbx.lt]; exact h.c0
  · rw [recolM_old h.obx.lt]; exact h.c1
  · intro g hg; rw [recolM_old (h.heap.lt g hg)]; exact h.c2 g hg
  · have hkw : k < w.heap.size := by have := h.b0; have := h.hbx.lt; omega
    exact (hg.block k (Nat.lt_of_lt_of_le hkw hc.size) (by have := h.b1; simp; omega)).trans (hc.block k hkw (fun hf => by have := (h.rws.lt k hf).2; omega))
/-- what a push of an empty run turns -/
theorem RowsM.pushC (h : RowsM w B ov us rows) (h' : RowsM w1 B ov' (us ++ [(none, 0, 0)]) rows') (hg : w.grownBy w1 row) (hrow : row = none ∨ row = ov.ownBlock) (hsep : ∀ u, Sep w ov u → Sep w1 ov' u) : Chg w w1 (rF ov us) (rF ov' (us ++ [(none, 0, 0)])) :=
  ⟨hg.os, hg.tape, hg.output, hg.size, fun k hk hn => hg.block k hk (by
    rcases hrow with e | e
    · rw [e]; simp
    · rw [e]; exact fun e2 => hn (.inl e2.symm)), fun g hf => ⟨by
    rcases hf with hf | ⟨u, hu, hf⟩
    · rcases Nat.lt_or_ge g w.heap.size with hlt | hge
      · left; left
        apply Classical.byContradiction
        intro hn
        have := hsep (.slice (some ⟨g, 0, none⟩) 0 0) ⟨fun k hk => (h.lt k (.inl hk)).1, fun k hk => (by simp [Value.ownBlock] at hk; omega), fun k hk hk2 => (by simp [Value.ownBlock] at hk2; subst hk2; exact hn hk)⟩
        exact this.apart g hf rfl
      · exact .inr hge
    · rcases List.mem_append.1 hu with hu | hu
      · exact .inl (.inr ⟨u, hu, hf⟩)
      · obtain rfl := List.mem_singleton.1 hu
        simp [Value.ownBlock] at hf, (h'.lt g hf).1⟩⟩
/-- what a longer last run turns -/
theorem RowsM.lastC {ui : List Sl} {u u' : Sl} {g : Nat} (h : RowsM w B ov (ui ++ [u]) rows) (h' : RowsM w2 B ov (ui ++ [u']) rows') (hg : w.grownBy w1 row) (hrow : row = none ∨ row = (slV u).ownBlock)
    (hv : (slV u').ownBlock = (slV u).ownBlock ∨ ∃ g, (slV u').ownBlock = some g ∧ w.heap.size ≤ g) (hov : ov.ownBlock = some g) (hg2 : w1.grownBy w2 (some g)) : Chg w w2 (rF ov (ui ++ [u])) (rF ov (ui ++ [u'])) :=
  ⟨hg2.os.trans hg.os, hg2.tape.trans hg.tape, hg2.output.trans hg.output, Nat.le_trans hg.size hg2.size, fun k hk hn => (hg2.block k (Nat.lt_of_lt_of_le hk hg.size) (fun e => hn (.inl (hov.trans e.symm)))).trans (hg.block k hk (by
    rcases hrow with e | e
    · rw [e]; simp
    · rw [e]; exact fun e2 => hn (.inr ⟨u, by simp, e2.symm⟩))), fun k hf => ⟨by
    rcases hf with hf | ⟨a, ha, hf⟩
    · exact .inl (.inl hf)
    · rcases List.mem_append.1 ha with ha | ha
      · exact .inl (.inr ⟨a, by simp [ha], hf⟩)
      · obtain rfl := List.mem_singleton.1 ha
        rcases hv with e | ⟨k', e, h2⟩
        · exact .inl (.inr ⟨u, by simp, e ▸ hf⟩)
        · rw [e] at hf; injection hf with hf; exact .inr (by omega), (h'.lt k hf).1⟩⟩
end
end Rk
