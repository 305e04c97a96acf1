/- The contract of the laws' pair of items; what a literal makes. -/
import Derived.Test.YtflbanfdkhjkmaaDoorOrd1
import Derived.Test.YtflbanfdkhjkmaaDoorOwn
namespace Rk
open Go Go.RowKit Go.Proofs
attribute [local irreducible] OpV OpU OpC WL QL WC WX OL RL
abbrev OwnIL (w : World) (B : Nat) (v : Value) (l : List It) : Prop := OwnL itC 2 24 w B v l
abbrev itV (x : It) : Value := .agg (itC x).toArray
theorem OwnL.lit {α : Type} {enc : α → List Value} {k : Nat} (hk : ∀ x, (enc x).length = k) {e : TypeId} {w : World} {B g : Nat} {l : List α} (hb : Bk w g e (l.flatMap enc)) (hB : B ≤ g) (hm : l.length ≤ maxLen) {n : Nat} (hn : n = l.length) :
    OwnL enc k e w B (.slice (some ⟨g, 0, none⟩) n n) l := by
  subst hn
  exact Own.whole hb hB (flat_length hk l) hm

theorem pair_any (a b : Int) (w : World) : Calls Tryd.prog 38 #[.int .i64 a, .int .i64 b] w (Ret fun v w' => OwnIL w' w.heap.size v [(a, 1), (b, 2)] ∧ Below w.heap.size w w') := by
  refine calls_of (l := [.int .i64 a, .int .i64 b]) Tryd.func38 rfl Tryd.ntmps38 rfl ?_
  with_reducible repeat (first | refine WL.move ?_ | refine WL.assign ?_ | refine WL.lss ?_ | refine WL.leq ?_ | refine WL.gtr ?_ | refine WL.geq ?_ | refine WL.add ?_ | refine WL.sub ?_ | refine WL.mul ?_ | refine WL.quo ?_ | refine WL.rem ?_ | refine WL.eqlI ?_ | refine WL.neqI ?_ | refine WL.not ?_ | refine WL.pick_t ?_ | refine WL.pick_f ?_ | refine WL.extract ?_ | refine WL.lenItems ?_ | refine WL.errI ?_ | refine WL.keyAddr ?_ | refine WL.idAddr ?_ | refine WL.itemAddr ?_ | refine WL.neqE0 ?_ | refine WL.neqE1 ?_ | refine WL.eqlE0 ?_ | refine WL.eqlE1 ?_ | refine WL.item0 ?_ | refine WL.item ?_ | refine WL.itemsNil ?_ | refine WL.itemsTo ?_ | refine WL.itemsFrom ?_ | refine WL.yesA ?_ | refine WL.noA ?_ | refine WL.noUA ?_ | refine WC.seq ?_ | refine WC.region fun K hK => ?_ | refine WC.block ?_ | refine WC.skip ?_ | refine WC.exit ?_ | refine WC.ret ?_ | refine WX.then_n ?_ | refine WX.then_x ?_ | refine WX.then_r ?_ | refine WX.block_n ?_ | refine WX.block_r ?_ | refine WX.block_x ?_ | (refine WL.nil (hK _ _ ?_); clear hK K) | refine WX.block_oA ?_ )
  refine WL.lit (xs := [.tmp 6, .tmp 8]) (vs := [itV (a, 1), itV (b, 2)]) unItems tyItem rfl rfl (by simp [itC, Value.cells]) rfl rfl (by omega) fun w1 hg1 hb1 hz1 => ?_
  with_reducible repeat (first | refine WL.move ?_ | refine WL.assign ?_ | refine WL.lss ?_ | refine WL.leq ?_ | refine WL.gtr ?_ | refine WL.geq ?_ | refine WL.add ?_ | refine WL.sub ?_ | refine WL.mul ?_ | refine WL.quo ?_ | refine WL.rem ?_ | refine WL.eqlI ?_ | refine WL.neqI ?_ | refine WL.not ?_ | refine WL.pick_t ?_ | refine WL.pick_f ?_ | refine WL.extract ?_ | refine WL.lenItems ?_ | refine WL.errI ?_ | refine WL.keyAddr ?_ | refine WL.idAddr ?_ | refine WL.itemAddr ?_ | refine WL.neqE0 ?_ | refine WL.neqE1 ?_ | refine WL.eqlE0 ?_ | refine WL.eqlE1 ?_ | refine WL.item0 ?_ | refine WL.item ?_ | refine WL.itemsNil ?_ | refine WL.itemsTo ?_ | refine WL.itemsFrom ?_ | refine WL.yesA ?_ | refine WL.noA ?_ | refine WL.noUA ?_ | refine WC.seq ?_ | refine WC.region fun K hK => ?_ | refine WC.block ?_ | refine WC.skip ?_ | refine WC.exit ?_ | refine WC.ret ?_ | refine WX.then_n ?_ | refine WX.then_x ?_ | refine WX.then_r ?_ | refine WX.block_n ?_ | refine WX.block_r ?_ | refine WX.block_x ?_ | (refine WL.nil (hK _ _ ?_); clear hK K) | refine WX.block_oA ?_ )
  exact WX.ret1 rfl rfl ⟨OwnL.lit (l := [(a, 1), (b, 2)]) itC_len hb1 (Nat.le_refl _) (by simp [maxLen]) rfl, below_of_grown hg1⟩

end Rk
