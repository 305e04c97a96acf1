/- The contract of slices.Clone; errors of items. -/
import Derived.Test.YtagochiomonmhaaDoorItV
namespace Rk
open Go Go.RowKit Go.Proofs
attribute [local irreducible] OpV OpU OpC WL QL WC WX OL RL
theorem clone_any (A : Option Addr) (n c : Nat) (f : Nat → It) (w : World) (hr : RowOf itC 2 w A n f) (hn : n ≤ 1000) :
    Calls Tryd.prog 29 #[.slice A n c] w (Ret fun v w' => OwnIL w' w.heap.size v (segL f n) ∧ Below w.heap.size w w') := by
  refine calls_of (l := [.slice A n c]) Tryd.func29 rfl Tryd.ntmps29 rfl ?_
  with_reducible repeat (first | refine WL.move ?_ | refine WL.assign ?_ | refine WL.lss ?_ | refine WL.leq ?_ | refine WL.gtr ?_ | refine WL.geq ?_ | refine WL.add ?_ | refine WL.sub ?_ | refine WL.mul ?_ | refine WL.quo ?_ | refine WL.rem ?_ | refine WL.eqlI ?_ | refine WL.neqI ?_ | refine WL.not ?_ | refine WL.pick_t ?_ | refine WL.pick_f ?_ | refine WL.extract ?_ | refine WL.lenItems ?_ | refine WL.errI ?_ | refine WL.keyAddr ?_ | refine WL.idAddr ?_ | refine WL.itemAddr ?_ | refine WL.neqE0 ?_ | refine WL.neqE1 ?_ | refine WL.eqlE0 ?_ | refine WL.eqlE1 ?_ | refine WL.item0 ?_ | refine WL.item ?_ | refine WL.itemsNil ?_ | refine WL.itemsTo ?_ | refine WL.itemsFrom ?_ | refine WL.yesA ?_ | refine WL.noA ?_ | refine WL.noUA ?_ | refine WC.seq ?_ | refine WC.region fun K hK => ?_ | refine WC.block ?_ | refine WC.skip ?_ | refine WC.exit ?_ | refine WC.ret ?_ | refine WX.then_n ?_ | refine WX.then_x ?_ | refine WX.then_r ?_ | refine WX.block_n ?_ | refine WX.block_r ?_ | refine WX.block_x ?_ | (refine WL.nil (hK _ _ ?_); clear hK K) | refine WX.block_oA ?_ )
  refine WC.cond rfl (fun h => ?_) (fun h => ?_)
  · have h0 : n = 0 := by
      rcases Nat.eq_zero_or_pos n with h0 | h0
      · exact h0
      · obtain ⟨b, o, hA, _⟩ := hr h0
        rw [hA] at h; cases h
    subst h0
    with_reducible repeat (first | refine WL.move ?_ | refine WL.assign ?_ | refine WL.lss ?_ | refine WL.leq ?_ | refine WL.gtr ?_ | refine WL.geq ?_ | refine WL.add ?_ | refine WL.sub ?_ | refine WL.mul ?_ | refine WL.quo ?_ | refine WL.rem ?_ | refine WL.eqlI ?_ | refine WL.neqI ?_ | refine WL.not ?_ | refine WL.pick_t ?_ | refine WL.pick_f ?_ | refine WL.extract ?_ | refine WL.lenItems ?_ | refine WL.errI ?_ | refine WL.keyAddr ?_ | refine WL.idAddr ?_ | refine WL.itemAddr ?_ | refine WL.neqE0 ?_ | refine WL.neqE1 ?_ | refine WL.eqlE0 ?_ | refine WL.eqlE1 ?_ | refine WL.item0 ?_ | refine WL.item ?_ | refine WL.itemsNil ?_ | refine WL.itemsTo ?_ | refine WL.itemsFrom ?_ | refine WL.yesA ?_ | refine WL.noA ?_ | refine WL.noUA ?_ | refine WC.seq ?_ | refine WC.region fun K hK => ?_ | refine WC.block ?_ | refine WC.skip ?_ | refine WC.exit ?_ | refine WC.ret ?_ | refine WX.then_n ?_ | refine WX.then_x ?_ | refine WX.then_r ?_ | refine WX.block_n ?_ | refine WX.block_r ?_ | refine WX.block_x ?_ | (refine WL.nil (hK _ _ ?_); clear hK K) | refine WX.block_oA ?_ )
    exact WX.ret1 rfl rfl ⟨OwnL.nil _ _ _ _ _ _, Below.refl _ _⟩
  · with_reducible repeat (first | refine WL.move ?_ | refine WL.assign ?_ | refine WL.lss ?_ | refine WL.leq ?_ | refine WL.gtr ?_ | refine WL.geq ?_ | refine WL.add ?_ | refine WL.sub ?_ | refine WL.mul ?_ | refine WL.quo ?_ | refine WL.rem ?_ | refine WL.eqlI ?_ | refine WL.neqI ?_ | refine WL.not ?_ | refine WL.pick_t ?_ | refine WL.pick_f ?_ | refine WL.extract ?_ | refine WL.lenItems ?_ | refine WL.errI ?_ | refine WL.keyAddr ?_ | refine WL.idAddr ?_ | refine WL.itemAddr ?_ | refine WL.neqE0 ?_ | refine WL.neqE1 ?_ | refine WL.eqlE0 ?_ | refine WL.eqlE1 ?_ | refine WL.item0 ?_ | refine WL.item ?_ | refine WL.itemsNil ?_ | refine WL.itemsTo ?_ | refine WL.itemsFrom ?_ | refine WL.yesA ?_ | refine WL.noA ?_ | refine WL.noUA ?_ | refine WC.seq ?_ | refine WC.region fun K hK => ?_ | refine WC.block ?_ | refine WC.skip ?_ | refine WC.exit ?_ | refine WC.ret ?_ | refine WX.then_n ?_ | refine WX.then_x ?_ | refine WX.then_r ?_ | refine WX.block_n ?_ | refine WX.block_r ?_ | refine WX.block_x ?_ | (refine WL.nil (hK _ _ ?_); clear hK K) | refine WX.block_oA ?_ )
    refine WL.lit (xs := []) (vs := []) unItems tyItem rfl rfl (by simp) rfl rfl (by omega) fun w1 hg1 hb1 hz1 => ?_
    with_reducible repeat (first | refine WL.move ?_ | refine WL.assign ?_ | refine WL.lss ?_ | refine WL.leq ?_ | refine WL.gtr ?_ | refine WL.geq ?_ | refine WL.add ?_ | refine WL.sub ?_ | refine WL.mul ?_ | refine WL.quo ?_ | refine WL.rem ?_ | refine WL.eqlI ?_ | refine WL.neqI ?_ | refine WL.not ?_ | refine WL.pick_t ?_ | refine WL.pick_f ?_ | refine WL.extract ?_ | refine WL.lenItems ?_ | refine WL.errI ?_ | refine WL.keyAddr ?_ | refine WL.idAddr ?_ | refine WL.itemAddr ?_ | refine WL.neqE0 ?_ | refine WL.neqE1 ?_ | refine WL.eqlE0 ?_ | refine WL.eqlE1 ?_ | refine WL.item0 ?_ | refine WL.item ?_ | refine WL.itemsNil ?_ | refine WL.itemsTo ?_ | refine WL.itemsFrom ?_ | refine WL.yesA ?_ | refine WL.noA ?_ | refine WL.noUA ?_ | refine WC.seq ?_ | refine WC.region fun K hK => ?_ | refine WC.block ?_ | refine WC.skip ?_ | refine WC.exit ?_ | refine WC.ret ?_ | refine WX.then_n ?_ | refine WX.then_x ?_ | refine WX.then_r ?_ | refine WX.block_n ?_ | refine WX.block_r ?_ | refine WX.block_x ?_ | (refine WL.nil (hK _ _ ?_); clear hK K) | refine WX.block_oA ?_ )
    have hB1 := below_of_grown hg1
    refine WL.append itC_len itC_one (by omega) unItems tyItem rfl rfl rfl (B := w.heap.size) (OwnL.nil _ _ _ _ _ _) (hr.below hB1) (by simp; omega) (by simp [maxLen]; omega) hB1.size fun v w2 row ho hg2 _ hrow hat => ?_
    with_reducible repeat (first | refine WL.move ?_ | refine WL.assign ?_ | refine WL.lss ?_ | refine WL.leq ?_ | refine WL.gtr ?_ | refine WL.geq ?_ | refine WL.add ?_ | refine WL.sub ?_ | refine WL.mul ?_ | refine WL.quo ?_ | refine WL.rem ?_ | refine WL.eqlI ?_ | refine WL.neqI ?_ | refine WL.not ?_ | refine WL.pick_t ?_ | refine WL.pick_f ?_ | refine WL.extract ?_ | refine WL.lenItems ?_ | refine WL.errI ?_ | refine WL.keyAddr ?_ | refine WL.idAddr ?_ | refine WL.itemAddr ?_ | refine WL.neqE0 ?_ | refine WL.neqE1 ?_ | refine WL.eqlE0 ?_ | refine WL.eqlE1 ?_ | refine WL.item0 ?_ | refine WL.item ?_ | refine WL.itemsNil ?_ | refine WL.itemsTo ?_ | refine WL.itemsFrom ?_ | refine WL.yesA ?_ | refine WL.noA ?_ | refine WL.noUA ?_ | refine WC.seq ?_ | refine WC.region fun K hK => ?_ | refine WC.block ?_ | refine WC.skip ?_ | refine WC.exit ?_ | refine WC.ret ?_ | refine WX.then_n ?_ | refine WX.then_x ?_ | refine WX.then_r ?_ | refine WX.block_n ?_ | refine WX.block_r ?_ | refine WX.block_x ?_ | (refine WL.nil (hK _ _ ?_); clear hK K) | refine WX.block_oA ?_ )
    exact WX.ret1 rfl rfl ⟨by simpa using ho, hB1.gr0 hg2 hrow⟩

theorem itemsErr_le {n : Nat} {f : Nat → It} (h : itemsErr n f = 0) : n ≤ 60 := by
  unfold itemsErr at h
  split at h
  · cases h
  · omega
theorem itemsErr_all {n : Nat} {f : Nat → It} (h : itemsErr n f = 0) : ∀ i, i < n → okIt (f i) = true := by
  unfold itemsErr at h
  split at h
  · cases h
  · split at h
    · rename_i h2; exact segL_all.1 h2
    · cases h
theorem errOf_zero : errOf 0 = .nilIface := rfl
theorem errOf_pos {e : Nat} (h : e ≠ 0) : errOf e = .iface 47 (.int .i64 e) := by simp [errOf, h]

end Rk
