/- The contract of pick.middle: a key that is there; the plain law of parts. -/
import Derived.Test.YtkgdfkgkkjcahaaPickA
import Derived.Test.YtkgdfkgkkjcahaaSort6
import Derived.BigFrame
namespace Rk
open Go Go.RowKit Go.Proofs
section
variable {P : Program} {E : Env} {w : World} {t : TypeId} {x y : Operand} {a b : Int} {ats : Array TypeId}
theorem OpV.minI (hx : evE E x = some (.int .i64 a)) (hy : evE E y = some (.int .i64 b)) : OpV P (.call { callee := .builtin .min, args := #[x, y], argTypes := ats }) t E w (.int .i64 (if b < a then b else a)) w := fun ρ hρ _ _ _ _ => by
  simp [execOp, resolve, hρ _ _ hx, hρ _ _ hy, go_sem, invoke, builtin]
end
attribute [local irreducible] OpV OpU OpC WL QL WC WX OL RL TL TM
theorem keyF_part (key k : Int) (s : Nat) (l : List It) : keyF k (partL key s l) = if side key (k, 0) = s then keyF k l else [] := by
  unfold keyF partL
  rw [List.filter_filter]
  by_cases h : side key (k, 0) = s
  · rw [if_pos h]
    refine List.filter_congr fun x _ => ?_
    by_cases hx : x.1 = k
    · have : side key x = s := by rw [← h]; unfold side; rw [hx]
      simp [hx, this]
    · simp [hx]
  · rw [if_neg h]
    refine List.filter_eq_nil_iff.2 fun x _ hh => h ?_
    simp only [Bool.and_eq_true, decide_eq_true_eq, beq_iff_eq] at hh
    rw [← hh.2]; unfold side; rw [hh.1]
theorem mem_part {key : Int} {s : Nat} {l : List It} {x : It} : x ∈ partL key s l ↔ x ∈ l ∧ side key x = s := by simp [partL]
/-- sorted is: those below sorted, those of it, those above sorted -/
theorem sortK_parts (key : Int) (l : List It) : sortK l = sortK (partL key 0 l) ++ (partL key 1 l ++ sortK (partL key 2 l)) := by
  have m0 : ∀ x ∈ sortK (partL key 0 l), x.1 < key := fun x hx => by
    have := (mem_part.1 ((sortK_stab _).mem.1 hx)).2
    unfold side at this; split at this
    · assumption
    · split at this <;> omega
  have m1 : ∀ x ∈ partL key 1 l, x.1 = key := fun x hx => by
    have := (mem_part.1 hx).2
    unfold side at this; split at this
    · omega
    · split at this <;> omega
  have m2 : ∀ x ∈ sortK (partL key 2 l), key < x.1 := fun x hx => by
    have := (mem_part.1 ((sortK_stab _).mem.1 hx)).2
    unfold side at this; split at this
    · omega
    · split at this
      · assumption
      · omega
  refine (sortK_eq ?_ ?_).symm
  · unfold SortedK
    rw [List.pairwise_append, List.pairwise_append]
    refine ⟨sortK_sorted _, ⟨?_, sortK_sorted _, fun a ha b hb => by have := m1 a ha; have := m2 b hb; omega⟩, fun a ha b hb => ?_⟩
    · refine List.pairwise_of_forall_mem_list ?_
      intro a ha b hb
      have := m1 a ha; have := m1 b hb; omega
    · have := m0 a ha
      rcases List.mem_append.1 hb with hb | hb
      · have := m1 b hb; omega
      · have := m2 b hb; omega
  · intro k
    rw [keyF_append, keyF_append, sortK_stab _ k, sortK_stab _ k, keyF_part, keyF_part, keyF_part]
    rcases (show side key (k, 0) = 0 ∨ side key (k, 0) = 1 ∨ side key (k, 0) = 2 by unfold side; split; omega; split <;> omega) with h | h | h <;> simp [h]

set_option maxHeartbeats 2000000 in
theorem middle_any : ∀ (N n : Nat) (A : Option Addr) (c : Nat) (f : Nat → It) (w : World), n ≤ N → RowOf itC 2 w A n f → n ≤ c → 0 < n → itemsErr n f = 0 →
    Calls Try.prog 18 #[.slice A n c] w (Ret fun v w' => Below w.heap.size w w' ∧ ∃ x ∈ segL f n, v = .int .i64 x.1) := by
  intro N
  induction N with
  | zero => intro n A c f w h1 _ _ h2 _; omega
  | succ N ih =>
    intro n A c f w hN hr hc hn0 he
    have hn60 := itemsErr_le he
    have hall := itemsErr_all he
    refine calls_of (l := [.slice A n c]) Try.func18 rfl Try.ntmps18 rfl ?_
    with_reducible repeat (first | refine WL.move ?_ | refine WL.assign ?_ | refine WL.ldKey ?_ | refine WL.ldId ?_ | refine WL.ldIt ?_ | refine WL.itemAddrN ?_ | refine WL.itemAddrP ?_ | refine WL.itemAddrM ?_ | refine WL.toU ?_ | refine WL.shr1 ?_ | refine WL.toI ?_ | refine WL.sub1N ?_ | refine WL.subN ?_ | refine WL.neqItem ?_ | refine WL.eqIt ?_ | refine WL.eqBool ?_ | refine WL.neqBool ?_ | refine WL.quoN ?_ | refine WL.quo2N ?_ | refine WL.lss ?_ | refine WL.leq ?_ | refine WL.gtr ?_ | refine WL.geq ?_ | refine WL.add ?_ | refine WL.sub ?_ | refine WL.mul ?_ | refine WL.quo ?_ | refine WL.rem ?_ | refine WL.eqlI ?_ | refine WL.neqI ?_ | refine WL.not ?_ | refine WL.pick_t ?_ | refine WL.pick_f ?_ | refine WL.extract ?_ | refine WL.lenItems ?_ | refine WL.errI ?_ | refine WL.keyAddr ?_ | refine WL.idAddr ?_ | refine WL.itemAddr ?_ | refine WL.neqE0 ?_ | refine WL.neqE1 ?_ | refine WL.eqlE0 ?_ | refine WL.eqlE1 ?_ | refine WL.item0 ?_ | refine WL.item ?_ | refine WL.itemsNil ?_ | refine WL.itemsTo ?_ | refine WL.itemsFrom ?_ | refine WL.yesA ?_ | refine WL.noA ?_ | refine WL.noUA ?_ | refine WC.seq ?_ | refine WC.region fun K hK => ?_ | refine WC.block ?_ | refine WC.skip ?_ | refine WC.exit ?_ | refine WC.ret ?_ | (refine WL.nil (hK _ _ ?_); clear hK K) | refine WX.then_n ?_ | refine WX.then_x ?_ | refine WX.then_r ?_ | refine WX.block_n ?_ | refine WX.block_r ?_ | refine WX.block_x ?_ | refine WX.block_oA ?_ )
    refine WC.condD rfl (fun h => ?_) (fun h => ?_)
    · with_reducible repeat (first | refine WL.move ?_ | refine WL.assign ?_ | refine WL.ldKey ?_ | refine WL.ldId ?_ | refine WL.ldIt ?_ | refine WL.itemAddrN ?_ | refine WL.itemAddrP ?_ | refine WL.itemAddrM ?_ | refine WL.toU ?_ | refine WL.shr1 ?_ | refine WL.toI ?_ | refine WL.sub1N ?_ | refine WL.subN ?_ | refine WL.neqItem ?_ | refine WL.eqIt ?_ | refine WL.eqBool ?_ | refine WL.neqBool ?_ | refine WL.quoN ?_ | refine WL.quo2N ?_ | refine WL.lss ?_ | refine WL.leq ?_ | refine WL.gtr ?_ | refine WL.geq ?_ | refine WL.add ?_ | refine WL.sub ?_ | refine WL.mul ?_ | refine WL.quo ?_ | refine WL.rem ?_ | refine WL.eqlI ?_ | refine WL.neqI ?_ | refine WL.not ?_ | refine WL.pick_t ?_ | refine WL.pick_f ?_ | refine WL.extract ?_ | refine WL.lenItems ?_ | refine WL.errI ?_ | refine WL.keyAddr ?_ | refine WL.idAddr ?_ | refine WL.itemAddr ?_ | refine WL.neqE0 ?_ | refine WL.neqE1 ?_ | refine WL.eqlE0 ?_ | refine WL.eqlE1 ?_ | refine WL.item0 ?_ | refine WL.item ?_ | refine WL.itemsNil ?_ | refine WL.itemsTo ?_ | refine WL.itemsFrom ?_ | refine WL.yesA ?_ | refine WL.noA ?_ | refine WL.noUA ?_ | refine WC.seq ?_ | refine WC.region fun K hK => ?_ | refine WC.block ?_ | refine WC.skip ?_ | refine WC.exit ?_ | refine WC.ret ?_ | (refine WL.nil (hK _ _ ?_); clear hK K) | refine WX.then_n ?_ | refine WX.then_x ?_ | refine WX.then_r ?_ | refine WX.block_n ?_ | refine WX.block_r ?_ | refine WX.block_x ?_ | refine WX.block_oA ?_ )
      refine WL.call (OpC.static Try.func5 (by kernel_rfl) rfl rfl) rfl (sort_any A n c f _ hr) ?_
      rintro v w1 ⟨hB1, _, hgood⟩
      obtain ⟨v', rfl, ho⟩ := hgood he
      have hl : (sortK (segL f n)).length = n := by rw [sortK_length, segL_length]
      obtain ⟨A1, c1, rfl, _⟩ := ho.form
      have hrow := (ho.toRow itC_len).2.2
      rw [hl] at hrow ⊢
      obtain ⟨b1, o1, rfl, _⟩ := hrow.ne hn0
      with_reducible repeat (first | refine WL.move ?_ | refine WL.assign ?_ | refine WL.ldKey ?_ | refine WL.ldId ?_ | refine WL.ldIt ?_ | refine WL.itemAddrN ?_ | refine WL.itemAddrP ?_ | refine WL.itemAddrM ?_ | refine WL.toU ?_ | refine WL.shr1 ?_ | refine WL.toI ?_ | refine WL.sub1N ?_ | refine WL.subN ?_ | refine WL.neqItem ?_ | refine WL.eqIt ?_ | refine WL.eqBool ?_ | refine WL.neqBool ?_ | refine WL.quoN ?_ | refine WL.quo2N ?_ | refine WL.lss ?_ | refine WL.leq ?_ | refine WL.gtr ?_ | refine WL.geq ?_ | refine WL.add ?_ | refine WL.sub ?_ | refine WL.mul ?_ | refine WL.quo ?_ | refine WL.rem ?_ | refine WL.eqlI ?_ | refine WL.neqI ?_ | refine WL.not ?_ | refine WL.pick_t ?_ | refine WL.pick_f ?_ | refine WL.extract ?_ | refine WL.lenItems ?_ | refine WL.errI ?_ | refine WL.keyAddr ?_ | refine WL.idAddr ?_ | refine WL.itemAddr ?_ | refine WL.neqE0 ?_ | refine WL.neqE1 ?_ | refine WL.eqlE0 ?_ | refine WL.eqlE1 ?_ | refine WL.item0 ?_ | refine WL.item ?_ | refine WL.itemsNil ?_ | refine WL.itemsTo ?_ | refine WL.itemsFrom ?_ | refine WL.yesA ?_ | refine WL.noA ?_ | refine WL.noUA ?_ | refine WC.seq ?_ | refine WC.region fun K hK => ?_ | refine WC.block ?_ | refine WC.skip ?_ | refine WC.exit ?_ | refine WC.ret ?_ | (refine WL.nil (hK _ _ ?_); clear hK K) | refine WX.then_n ?_ | refine WX.then_x ?_ | refine WX.then_r ?_ | refine WX.block_n ?_ | refine WX.block_r ?_ | refine WX.block_x ?_ | refine WX.block_oA ?_ )
      refine WX.ret1 rfl rfl ⟨hB1, lf (sortK (segL f n)) (n / 2), ?_, rfl⟩
      rw [lf_get (by omega)]
      exact (sortK_stab _).mem.1 (List.getElem_mem _)
    · with_reducible repeat (first | refine WL.move ?_ | refine WL.assign ?_ | refine WL.ldKey ?_ | refine WL.ldId ?_ | refine WL.ldIt ?_ | refine WL.itemAddrN ?_ | refine WL.itemAddrP ?_ | refine WL.itemAddrM ?_ | refine WL.toU ?_ | refine WL.shr1 ?_ | refine WL.toI ?_ | refine WL.sub1N ?_ | refine WL.subN ?_ | refine WL.neqItem ?_ | refine WL.eqIt ?_ | refine WL.eqBool ?_ | refine WL.neqBool ?_ | refine WL.quoN ?_ | refine WL.quo2N ?_ | refine WL.lss ?_ | refine WL.leq ?_ | refine WL.gtr ?_ | refine WL.geq ?_ | refine WL.add ?_ | refine WL.sub ?_ | refine WL.mul ?_ | refine WL.quo ?_ | refine WL.rem ?_ | refine WL.eqlI ?_ | refine WL.neqI ?_ | refine WL.not ?_ | refine WL.pick_t ?_ | refine WL.pick_f ?_ | refine WL.extract ?_ | refine WL.lenItems ?_ | refine WL.errI ?_ | refine WL.keyAddr ?_ | refine WL.idAddr ?_ | refine WL.itemAddr ?_ | refine WL.neqE0 ?_ | refine WL.neqE1 ?_ | refine WL.eqlE0 ?_ | refine WL.eqlE1 ?_ | refine WL.item0 ?_ | refine WL.item ?_ | refine WL.itemsNil ?_ | refine WL.itemsTo ?_ | refine WL.itemsFrom ?_ | refine WL.yesA ?_ | refine WL.noA ?_ | refine WL.noUA ?_ | refine WC.seq ?_ | refine WC.region fun K hK => ?_ | refine WC.skip ?_ | refine WC.exit ?_ | refine WC.ret ?_ | (refine WL.nil (hK _ _ ?_); clear hK K) | refine WX.then_n ?_ | refine WX.then_x ?_ | refine WX.then_r ?_ | refine WX.block_n ?_ | refine WX.block_r ?_ | refine WX.block_x ?_ | refine WX.block_oA ?_ )
      refine WC.joinE2 (fun (v : Value) (_ : List It) => [(5, v)]) (fun v M wr => OwnIL wr w.heap.size v M ∧ (∀ x ∈ M, x ∈ segL f n) ∧ M ≠ [] ∧ M.length < n ∧ Below w.heap.size w wr) ?_ ?_
      · with_reducible repeat (first | refine WL.move ?_ | refine WL.assign ?_ | refine WL.ldKey ?_ | refine WL.ldId ?_ | refine WL.ldIt ?_ | refine WL.itemAddrN ?_ | refine WL.itemAddrP ?_ | refine WL.itemAddrM ?_ | refine WL.toU ?_ | refine WL.shr1 ?_ | refine WL.toI ?_ | refine WL.sub1N ?_ | refine WL.subN ?_ | refine WL.neqItem ?_ | refine WL.eqIt ?_ | refine WL.eqBool ?_ | refine WL.neqBool ?_ | refine WL.quoN ?_ | refine WL.quo2N ?_ | refine WL.lss ?_ | refine WL.leq ?_ | refine WL.gtr ?_ | refine WL.geq ?_ | refine WL.add ?_ | refine WL.sub ?_ | refine WL.mul ?_ | refine WL.quo ?_ | refine WL.rem ?_ | refine WL.eqlI ?_ | refine WL.neqI ?_ | refine WL.not ?_ | refine WL.pick_t ?_ | refine WL.pick_f ?_ | refine WL.extract ?_ | refine WL.lenItems ?_ | refine WL.errI ?_ | refine WL.keyAddr ?_ | refine WL.idAddr ?_ | refine WL.itemAddr ?_ | refine WL.neqE0 ?_ | refine WL.neqE1 ?_ | refine WL.eqlE0 ?_ | refine WL.eqlE1 ?_ | refine WL.item0 ?_ | refine WL.item ?_ | refine WL.itemsNil ?_ | refine WL.itemsTo ?_ | refine WL.itemsFrom ?_ | refine WL.yesA ?_ | refine WL.noA ?_ | refine WL.noUA ?_ | refine WC.seq ?_ | refine WC.region fun K hK => ?_ | refine WC.block ?_ | refine WC.skip ?_ | refine WC.exit ?_ | refine WC.ret ?_ | (refine WL.nil (hK _ _ ?_); clear hK K) | refine WX.then_n ?_ | refine WX.then_x ?_ | refine WX.then_r ?_ | refine WX.block_n ?_ | refine WX.block_r ?_ | refine WX.block_x ?_ | refine WX.block_oA ?_ )
        refine WC.loopE2 (fun (v : Value) (M : List It) => [(0, .slice A n c), (5, v), (6, .int .i64 (5 * M.length : Nat))]) (fun v M q wr => q = 60 - M.length ∧ OwnIL wr w.heap.size v M ∧ (∀ x ∈ M, x ∈ segL f n) ∧ 5 * M.length < n + 5 ∧ Below w.heap.size w wr) 60 (.slice none 0 0) [] ⟨by simp, OwnL.nil _ _ _ _ _ _, fun x hx => (by cases hx), by simp, Below.refl _ _⟩ Sub.auto ?_
        rintro v M q wr ⟨rfl, ho, hM, hlt, hB⟩
        with_reducible repeat (first | refine WL.move ?_ | refine WL.assign ?_ | refine WL.ldKey ?_ | refine WL.ldId ?_ | refine WL.ldIt ?_ | refine WL.itemAddrN ?_ | refine WL.itemAddrP ?_ | refine WL.itemAddrM ?_ | refine WL.toU ?_ | refine WL.shr1 ?_ | refine WL.toI ?_ | refine WL.sub1N ?_ | refine WL.subN ?_ | refine WL.neqItem ?_ | refine WL.eqIt ?_ | refine WL.eqBool ?_ | refine WL.neqBool ?_ | refine WL.quoN ?_ | refine WL.quo2N ?_ | refine WL.lss ?_ | refine WL.leq ?_ | refine WL.gtr ?_ | refine WL.geq ?_ | refine WL.add ?_ | refine WL.sub ?_ | refine WL.mul ?_ | refine WL.quo ?_ | refine WL.rem ?_ | refine WL.eqlI ?_ | refine WL.neqI ?_ | refine WL.not ?_ | refine WL.pick_t ?_ | refine WL.pick_f ?_ | refine WL.extract ?_ | refine WL.lenItems ?_ | refine WL.errI ?_ | refine WL.keyAddr ?_ | refine WL.idAddr ?_ | refine WL.itemAddr ?_ | refine WL.neqE0 ?_ | refine WL.neqE1 ?_ | refine WL.eqlE0 ?_ | refine WL.eqlE1 ?_ | refine WL.item0 ?_ | refine WL.item ?_ | refine WL.itemsNil ?_ | refine WL.itemsTo ?_ | refine WL.itemsFrom ?_ | refine WL.yesA ?_ | refine WL.noA ?_ | refine WL.noUA ?_ | refine WC.seq ?_ | refine WC.region fun K hK => ?_ | refine WC.block ?_ | refine WC.skip ?_ | refine WC.exit ?_ | refine WC.ret ?_ | (refine WL.nil (hK _ _ ?_); clear hK K) | refine WX.then_n ?_ | refine WX.then_x ?_ | refine WX.then_r ?_ | refine WX.block_n ?_ | refine WX.block_r ?_ | refine WX.block_x ?_ | refine WX.block_oA ?_ )
        refine WC.condD rfl (fun h2 => ?_) (fun h2 => ?_)
        · have hi : 5 * M.length < n := by omega
          generalize hii : 5 * M.length = i at *
          have hrw := hr.below hB
          obtain ⟨b, o, rfl, _⟩ := hr.ne hn0
          with_reducible repeat (first | refine WL.move ?_ | refine WL.assign ?_ | refine WL.ldKey ?_ | refine WL.ldId ?_ | refine WL.ldIt ?_ | refine WL.itemAddrN ?_ | refine WL.itemAddrP ?_ | refine WL.itemAddrM ?_ | refine WL.toU ?_ | refine WL.shr1 ?_ | refine WL.toI ?_ | refine WL.sub1N ?_ | refine WL.subN ?_ | refine WL.neqItem ?_ | refine WL.eqIt ?_ | refine WL.eqBool ?_ | refine WL.neqBool ?_ | refine WL.quoN ?_ | refine WL.quo2N ?_ | refine WL.lss ?_ | refine WL.leq ?_ | refine WL.gtr ?_ | refine WL.geq ?_ | refine WL.add ?_ | refine WL.sub ?_ | refine WL.mul ?_ | refine WL.quo ?_ | refine WL.rem ?_ | refine WL.eqlI ?_ | refine WL.neqI ?_ | refine WL.not ?_ | refine WL.pick_t ?_ | refine WL.pick_f ?_ | refine WL.extract ?_ | refine WL.lenItems ?_ | refine WL.errI ?_ | refine WL.keyAddr ?_ | refine WL.idAddr ?_ | refine WL.itemAddr ?_ | refine WL.neqE0 ?_ | refine WL.neqE1 ?_ | refine WL.eqlE0 ?_ | refine WL.eqlE1 ?_ | refine WL.item0 ?_ | refine WL.item ?_ | refine WL.itemsNil ?_ | refine WL.itemsTo ?_ | refine WL.itemsFrom ?_ | refine WL.yesA ?_ | refine WL.noA ?_ | refine WL.noUA ?_ | refine WC.seq ?_ | refine WC.region fun K hK => ?_ | refine WC.block ?_ | refine WC.skip ?_ | refine WC.exit ?_ | refine WC.ret ?_ | (refine WL.nil (hK _ _ ?_); clear hK K) | refine WX.then_n ?_ | refine WX.then_x ?_ | refine WX.then_r ?_ | refine WX.block_n ?_ | refine WX.block_r ?_ | refine WX.block_x ?_ | refine WX.block_oA ?_ )
          refine WL.step (OpV.minI rfl rfl) rfl ?_
          obtain ⟨j, hj, hj1, hj2, hj3⟩ : ∃ j : Nat, (if (n : Int) < (i : Int) + 5 then (n : Int) else (i : Int) + 5) = (j : Int) ∧ i < j ∧ j ≤ n ∧ j ≤ i + 5 := by
            by_cases hh : n < i + 5
            · exact ⟨n, by rw [if_pos (by omega)], by omega, by omega, by omega⟩
            · exact ⟨i + 5, by rw [if_neg (by omega)]; omega, by omega, by omega, by omega⟩
          rw [hj]
          with_reducible repeat (first | refine WL.move ?_ | refine WL.assign ?_ | refine WL.ldKey ?_ | refine WL.ldId ?_ | refine WL.ldIt ?_ | refine WL.itemAddrN ?_ | refine WL.itemAddrP ?_ | refine WL.itemAddrM ?_ | refine WL.toU ?_ | refine WL.shr1 ?_ | refine WL.toI ?_ | refine WL.sub1N ?_ | refine WL.subN ?_ | refine WL.neqItem ?_ | refine WL.eqIt ?_ | refine WL.eqBool ?_ | refine WL.neqBool ?_ | refine WL.quoN ?_ | refine WL.quo2N ?_ | refine WL.lss ?_ | refine WL.leq ?_ | refine WL.gtr ?_ | refine WL.geq ?_ | refine WL.add ?_ | refine WL.sub ?_ | refine WL.mul ?_ | refine WL.quo ?_ | refine WL.rem ?_ | refine WL.eqlI ?_ | refine WL.neqI ?_ | refine WL.not ?_ | refine WL.pick_t ?_ | refine WL.pick_f ?_ | refine WL.extract ?_ | refine WL.lenItems ?_ | refine WL.errI ?_ | refine WL.keyAddr ?_ | refine WL.idAddr ?_ | refine WL.itemAddr ?_ | refine WL.neqE0 ?_ | refine WL.neqE1 ?_ | refine WL.eqlE0 ?_ | refine WL.eqlE1 ?_ | refine WL.item0 ?_ | refine WL.item ?_ | refine WL.itemsNil ?_ | refine WL.itemsTo ?_ | refine WL.itemsFrom ?_ | refine WL.yesA ?_ | refine WL.noA ?_ | refine WL.noUA ?_ | refine WC.seq ?_ | refine WC.region fun K hK => ?_ | refine WC.block ?_ | refine WC.skip ?_ | refine WC.exit ?_ | refine WC.ret ?_ | (refine WL.nil (hK _ _ ?_); clear hK K) | refine WX.then_n ?_ | refine WX.then_x ?_ | refine WX.then_r ?_ | refine WX.block_n ?_ | refine WX.block_r ?_ | refine WX.block_x ?_ | refine WX.block_oA ?_ )
          refine WL.step (OpV.sliceLH (j1 := i) (j2 := j) unItems tyItem rfl rfl rfl (by omega) (by omega)) rfl ?_
          have hcut := hrw.cut (l := i) (m := j - i) (c := c) (by omega) hc
          have he2 : itemsErr (j - i) (fun k => f (i + k)) = 0 := by
            unfold itemsErr
            rw [if_neg (by omega), if_pos (segL_all.2 fun k hk => hall _ (by omega))]
          with_reducible repeat (first | refine WL.move ?_ | refine WL.assign ?_ | refine WL.ldKey ?_ | refine WL.ldId ?_ | refine WL.ldIt ?_ | refine WL.itemAddrN ?_ | refine WL.itemAddrP ?_ | refine WL.itemAddrM ?_ | refine WL.toU ?_ | refine WL.shr1 ?_ | refine WL.toI ?_ | refine WL.sub1N ?_ | refine WL.subN ?_ | refine WL.neqItem ?_ | refine WL.eqIt ?_ | refine WL.eqBool ?_ | refine WL.neqBool ?_ | refine WL.quoN ?_ | refine WL.quo2N ?_ | refine WL.lss ?_ | refine WL.leq ?_ | refine WL.gtr ?_ | refine WL.geq ?_ | refine WL.add ?_ | refine WL.sub ?_ | refine WL.mul ?_ | refine WL.quo ?_ | refine WL.rem ?_ | refine WL.eqlI ?_ | refine WL.neqI ?_ | refine WL.not ?_ | refine WL.pick_t ?_ | refine WL.pick_f ?_ | refine WL.extract ?_ | refine WL.lenItems ?_ | refine WL.errI ?_ | refine WL.keyAddr ?_ | refine WL.idAddr ?_ | refine WL.itemAddr ?_ | refine WL.neqE0 ?_ | refine WL.neqE1 ?_ | refine WL.eqlE0 ?_ | refine WL.eqlE1 ?_ | refine WL.item0 ?_ | refine WL.item ?_ | refine WL.itemsNil ?_ | refine WL.itemsTo ?_ | refine WL.itemsFrom ?_ | refine WL.yesA ?_ | refine WL.noA ?_ | refine WL.noUA ?_ | refine WC.seq ?_ | refine WC.region fun K hK => ?_ | refine WC.block ?_ | refine WC.skip ?_ | refine WC.exit ?_ | refine WC.ret ?_ | (refine WL.nil (hK _ _ ?_); clear hK K) | refine WX.then_n ?_ | refine WX.then_x ?_ | refine WX.then_r ?_ | refine WX.block_n ?_ | refine WX.block_r ?_ | refine WX.block_x ?_ | refine WX.block_oA ?_ )
          refine WL.call (OpC.static Try.func5 (by kernel_rfl) rfl rfl) rfl (sort_any _ (j - i) _ _ _ hcut) ?_
          rintro v2 w2 ⟨hB2, _, hgood⟩
          obtain ⟨v', rfl, ho2⟩ := hgood he2
          have hl : (sortK (segL (fun k => f (i + k)) (j - i))).length = j - i := by rw [sortK_length, segL_length]
          obtain ⟨A2, c2, rfl, _⟩ := ho2.form
          have hrow := (ho2.toRow itC_len).2.2
          have ho' := ho.below hB2
          have hBw2 := hB.tr hB2
          rw [hl] at hrow ⊢
          obtain ⟨b2, o2, rfl, _⟩ := hrow.ne (by omega)
          clear ho2
          with_reducible repeat (first | refine WL.move ?_ | refine WL.assign ?_ | refine WL.ldKey ?_ | refine WL.ldId ?_ | refine WL.ldIt ?_ | refine WL.itemAddrN ?_ | refine WL.itemAddrP ?_ | refine WL.itemAddrM ?_ | refine WL.toU ?_ | refine WL.shr1 ?_ | refine WL.toI ?_ | refine WL.sub1N ?_ | refine WL.subN ?_ | refine WL.neqItem ?_ | refine WL.eqIt ?_ | refine WL.eqBool ?_ | refine WL.neqBool ?_ | refine WL.quoN ?_ | refine WL.quo2N ?_ | refine WL.lss ?_ | refine WL.leq ?_ | refine WL.gtr ?_ | refine WL.geq ?_ | refine WL.add ?_ | refine WL.sub ?_ | refine WL.mul ?_ | refine WL.quo ?_ | refine WL.rem ?_ | refine WL.eqlI ?_ | refine WL.neqI ?_ | refine WL.not ?_ | refine WL.pick_t ?_ | refine WL.pick_f ?_ | refine WL.extract ?_ | refine WL.lenItems ?_ | refine WL.errI ?_ | refine WL.keyAddr ?_ | refine WL.idAddr ?_ | refine WL.itemAddr ?_ | refine WL.neqE0 ?_ | refine WL.neqE1 ?_ | refine WL.eqlE0 ?_ | refine WL.eqlE1 ?_ | refine WL.item0 ?_ | refine WL.item ?_ | refine WL.itemsNil ?_ | refine WL.itemsTo ?_ | refine WL.itemsFrom ?_ | refine WL.yesA ?_ | refine WL.noA ?_ | refine WL.noUA ?_ | refine WC.seq ?_ | refine WC.region fun K hK => ?_ | refine WC.block ?_ | refine WC.skip ?_ | refine WC.exit ?_ | refine WC.ret ?_ | (refine WL.nil (hK _ _ ?_); clear hK K) | refine WX.then_n ?_ | refine WX.then_x ?_ | refine WX.then_r ?_ | refine WX.block_n ?_ | refine WX.block_r ?_ | refine WX.block_x ?_ | refine WX.block_oA ?_ )
          refine WL.push (a := lf (sortK (segL (fun k => f (i + k)) (j - i))) ((j - i) / 2)) itC_len itC_one (by omega) unItems tyItem rfl rfl rfl rfl (fun _ => rfl) ho' (by first | omega | (simp; done) | (simp; omega)) (by first | omega | (simp; done) | (simp; omega)) (by omega) hBw2.size fun v3 w3 row q ho' hg' hrow hbase hlt hsep hsz => ?_
          with_reducible repeat (first | refine WL.move ?_ | refine WL.assign ?_ | refine WL.ldKey ?_ | refine WL.ldId ?_ | refine WL.ldIt ?_ | refine WL.itemAddrN ?_ | refine WL.itemAddrP ?_ | refine WL.itemAddrM ?_ | refine WL.toU ?_ | refine WL.shr1 ?_ | refine WL.toI ?_ | refine WL.sub1N ?_ | refine WL.subN ?_ | refine WL.neqItem ?_ | refine WL.eqIt ?_ | refine WL.eqBool ?_ | refine WL.neqBool ?_ | refine WL.quoN ?_ | refine WL.quo2N ?_ | refine WL.lss ?_ | refine WL.leq ?_ | refine WL.gtr ?_ | refine WL.geq ?_ | refine WL.add ?_ | refine WL.sub ?_ | refine WL.mul ?_ | refine WL.quo ?_ | refine WL.rem ?_ | refine WL.eqlI ?_ | refine WL.neqI ?_ | refine WL.not ?_ | refine WL.pick_t ?_ | refine WL.pick_f ?_ | refine WL.extract ?_ | refine WL.lenItems ?_ | refine WL.errI ?_ | refine WL.keyAddr ?_ | refine WL.idAddr ?_ | refine WL.itemAddr ?_ | refine WL.neqE0 ?_ | refine WL.neqE1 ?_ | refine WL.eqlE0 ?_ | refine WL.eqlE1 ?_ | refine WL.item0 ?_ | refine WL.item ?_ | refine WL.itemsNil ?_ | refine WL.itemsTo ?_ | refine WL.itemsFrom ?_ | refine WL.yesA ?_ | refine WL.noA ?_ | refine WL.noUA ?_ | refine WC.seq ?_ | refine WC.region fun K hK => ?_ | refine WC.block ?_ | refine WC.skip ?_ | refine WC.exit ?_ | refine WC.ret ?_ | (refine WL.nil (hK _ _ ?_); clear hK K) | refine WX.then_n ?_ | refine WX.then_x ?_ | refine WX.then_r ?_ | refine WX.block_n ?_ | refine WX.block_r ?_ | refine WX.block_x ?_ | refine WX.block_oA ?_ )
          generalize hx : lf (sortK (segL (fun k => f (i + k)) (j - i))) ((j - i) / 2) = x at *
          have hxm : x ∈ segL f n := by
            have h3 : x ∈ segL (fun k => f (i + k)) (j - i) := by
              rw [← hx, lf_get (by omega)]
              exact (sortK_stab _).mem.1 (List.getElem_mem _)
            simp only [segL, List.mem_map, List.mem_range] at h3 ⊢
            obtain ⟨k, hk, rfl⟩ := h3
            exact ⟨i + k, by omega, rfl⟩
          have hl3 : (M ++ [x]).length = M.length + 1 := by simp
          refine WX.againE2 v3 (M ++ [x]) (60 - (M ++ [x]).length) (by omega) ⟨rfl, ho', fun y hy => ?_, by omega, hBw2.gr0 hg' hbase⟩ Sub.auto
          rcases List.mem_append.1 hy with hy | hy
          · exact hM y hy
          · obtain rfl := List.mem_singleton.1 hy; exact hxm
        · with_reducible repeat (first | refine WL.move ?_ | refine WL.assign ?_ | refine WL.ldKey ?_ | refine WL.ldId ?_ | refine WL.ldIt ?_ | refine WL.itemAddrN ?_ | refine WL.itemAddrP ?_ | refine WL.itemAddrM ?_ | refine WL.toU ?_ | refine WL.shr1 ?_ | refine WL.toI ?_ | refine WL.sub1N ?_ | refine WL.subN ?_ | refine WL.neqItem ?_ | refine WL.eqIt ?_ | refine WL.eqBool ?_ | refine WL.neqBool ?_ | refine WL.quoN ?_ | refine WL.quo2N ?_ | refine WL.lss ?_ | refine WL.leq ?_ | refine WL.gtr ?_ | refine WL.geq ?_ | refine WL.add ?_ | refine WL.sub ?_ | refine WL.mul ?_ | refine WL.quo ?_ | refine WL.rem ?_ | refine WL.eqlI ?_ | refine WL.neqI ?_ | refine WL.not ?_ | refine WL.pick_t ?_ | refine WL.pick_f ?_ | refine WL.extract ?_ | refine WL.lenItems ?_ | refine WL.errI ?_ | refine WL.keyAddr ?_ | refine WL.idAddr ?_ | refine WL.itemAddr ?_ | refine WL.neqE0 ?_ | refine WL.neqE1 ?_ | refine WL.eqlE0 ?_ | refine WL.eqlE1 ?_ | refine WL.item0 ?_ | refine WL.item ?_ | refine WL.itemsNil ?_ | refine WL.itemsTo ?_ | refine WL.itemsFrom ?_ | refine WL.yesA ?_ | refine WL.noA ?_ | refine WL.noUA ?_ | refine WC.seq ?_ | refine WC.region fun K hK => ?_ | refine WC.block ?_ | refine WC.skip ?_ | refine WC.exit ?_ | refine WC.ret ?_ | (refine WL.nil (hK _ _ ?_); clear hK K) | refine WX.then_n ?_ | refine WX.then_x ?_ | refine WX.then_r ?_ | refine WX.block_n ?_ | refine WX.block_r ?_ | refine WX.block_x ?_ | refine WX.block_oA ?_ )
          refine WX.meetE2 v M ⟨ho, hM, fun e => ?_, by omega, hB⟩ Sub.auto
          subst e; simp at h2; omega
      · rintro v M w2 ⟨ho, hM, hne, hlt, hB⟩
        obtain ⟨A2, c2, rfl, hc2⟩ := ho.form
        have hrow := (ho.toRow itC_len).2.2
        have he2 : itemsErr M.length (lf M) = 0 := by
          unfold itemsErr
          rw [if_neg (by omega), if_pos (segL_all.2 fun k hk => ?_)]
          have hm : lf M k ∈ segL f n := hM _ (by rw [lf_get hk]; exact List.getElem_mem _)
          simp only [segL, List.mem_map, List.mem_range] at hm
          obtain ⟨q, hq, e⟩ := hm
          rw [← e]; exact hall q hq
        with_reducible repeat (first | refine WL.move ?_ | refine WL.assign ?_ | refine WL.ldKey ?_ | refine WL.ldId ?_ | refine WL.ldIt ?_ | refine WL.itemAddrN ?_ | refine WL.itemAddrP ?_ | refine WL.itemAddrM ?_ | refine WL.toU ?_ | refine WL.shr1 ?_ | refine WL.toI ?_ | refine WL.sub1N ?_ | refine WL.subN ?_ | refine WL.neqItem ?_ | refine WL.eqIt ?_ | refine WL.eqBool ?_ | refine WL.neqBool ?_ | refine WL.quoN ?_ | refine WL.quo2N ?_ | refine WL.lss ?_ | refine WL.leq ?_ | refine WL.gtr ?_ | refine WL.geq ?_ | refine WL.add ?_ | refine WL.sub ?_ | refine WL.mul ?_ | refine WL.quo ?_ | refine WL.rem ?_ | refine WL.eqlI ?_ | refine WL.neqI ?_ | refine WL.not ?_ | refine WL.pick_t ?_ | refine WL.pick_f ?_ | refine WL.extract ?_ | refine WL.lenItems ?_ | refine WL.errI ?_ | refine WL.keyAddr ?_ | refine WL.idAddr ?_ | refine WL.itemAddr ?_ | refine WL.neqE0 ?_ | refine WL.neqE1 ?_ | refine WL.eqlE0 ?_ | refine WL.eqlE1 ?_ | refine WL.item0 ?_ | refine WL.item ?_ | refine WL.itemsNil ?_ | refine WL.itemsTo ?_ | refine WL.itemsFrom ?_ | refine WL.yesA ?_ | refine WL.noA ?_ | refine WL.noUA ?_ | refine WC.seq ?_ | refine WC.region fun K hK => ?_ | refine WC.block ?_ | refine WC.skip ?_ | refine WC.exit ?_ | refine WC.ret ?_ | (refine WL.nil (hK _ _ ?_); clear hK K) | refine WX.then_n ?_ | refine WX.then_x ?_ | refine WX.then_r ?_ | refine WX.block_n ?_ | refine WX.block_r ?_ | refine WX.block_x ?_ | refine WX.block_oA ?_ )
        refine WL.call (OpC.static Try.func18 (by kernel_rfl) rfl rfl) rfl (ih M.length A2 c2 (lf M) _ (by omega) hrow hc2 (List.length_pos_iff.2 hne) he2) ?_
        rintro r w3 ⟨hB3, x, hx, rfl⟩
        rw [segL_lf] at hx
        with_reducible repeat (first | refine WL.move ?_ | refine WL.assign ?_ | refine WL.ldKey ?_ | refine WL.ldId ?_ | refine WL.ldIt ?_ | refine WL.itemAddrN ?_ | refine WL.itemAddrP ?_ | refine WL.itemAddrM ?_ | refine WL.toU ?_ | refine WL.shr1 ?_ | refine WL.toI ?_ | refine WL.sub1N ?_ | refine WL.subN ?_ | refine WL.neqItem ?_ | refine WL.eqIt ?_ | refine WL.eqBool ?_ | refine WL.neqBool ?_ | refine WL.quoN ?_ | refine WL.quo2N ?_ | refine WL.lss ?_ | refine WL.leq ?_ | refine WL.gtr ?_ | refine WL.geq ?_ | refine WL.add ?_ | refine WL.sub ?_ | refine WL.mul ?_ | refine WL.quo ?_ | refine WL.rem ?_ | refine WL.eqlI ?_ | refine WL.neqI ?_ | refine WL.not ?_ | refine WL.pick_t ?_ | refine WL.pick_f ?_ | refine WL.extract ?_ | refine WL.lenItems ?_ | refine WL.errI ?_ | refine WL.keyAddr ?_ | refine WL.idAddr ?_ | refine WL.itemAddr ?_ | refine WL.neqE0 ?_ | refine WL.neqE1 ?_ | refine WL.eqlE0 ?_ | refine WL.eqlE1 ?_ | refine WL.item0 ?_ | refine WL.item ?_ | refine WL.itemsNil ?_ | refine WL.itemsTo ?_ | refine WL.itemsFrom ?_ | refine WL.yesA ?_ | refine WL.noA ?_ | refine WL.noUA ?_ | refine WC.seq ?_ | refine WC.region fun K hK => ?_ | refine WC.block ?_ | refine WC.skip ?_ | refine WC.exit ?_ | refine WC.ret ?_ | (refine WL.nil (hK _ _ ?_); clear hK K) | refine WX.then_n ?_ | refine WX.then_x ?_ | refine WX.then_r ?_ | refine WX.block_n ?_ | refine WX.block_r ?_ | refine WX.block_x ?_ | refine WX.block_oA ?_ )
        exact WX.ret1 rfl rfl ⟨hB.tr hB3, x, hM x hx, rfl⟩
end Rk
