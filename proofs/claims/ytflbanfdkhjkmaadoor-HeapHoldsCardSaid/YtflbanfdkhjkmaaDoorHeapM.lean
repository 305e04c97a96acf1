/- What making, pushing and popping do to a heap; the laws' closed fact. -/
import Derived.Test.YtflbanfdkhjkmaaDoorHeap3
import Derived.Test.YtflbanfdkhjkmaaDoorPair
namespace Rk
open Go Go.RowKit Go.Proofs
attribute [local irreducible] OpV OpU OpC WL QL WC WX OL RL TL
theorem made_perm {n : Nat} (f : Nat → It) : (seg (makeF n (n / 2) f) 0 n).Perm (seg f 0 n) := makeF_perm n (n / 2) f (by omega)
theorem made_heap {n : Nat} (f : Nat → It) : HeapF (makeF n (n / 2) f) n := heapF_of_from (makeF_heap n (n / 2) f (by omega) (heapFrom_half f n _ (by omega)))
theorem perm_all {n : Nat} {f g : Nat → It} (h : (seg g 0 n).Perm (seg f 0 n)) {p : It → Prop} (hp : ∀ i, i < n → p (f i)) : ∀ i, i < n → p (g i) := by
  intro i hi
  have h1 : g i ∈ seg g 0 n := mem_seg.2 ⟨i, Nat.zero_le _, hi, rfl⟩
  obtain ⟨j, _, hj, he⟩ := mem_seg.1 (h.mem_iff.1 h1)
  rw [← he]; exact hp j hj
theorem itemsErr_zero {n : Nat} {f : Nat → It} : itemsErr n f = 0 ↔ n ≤ 60 ∧ ∀ i, i < n → okIt (f i) = true := by
  constructor
  · exact fun h => ⟨itemsErr_le h, itemsErr_all h⟩
  · rintro ⟨h1, h2⟩
    unfold itemsErr
    rw [if_neg (by omega), if_pos (segL_all.2 h2)]
theorem heapErr_zero {n : Nat} {f : Nat → It} : heapErr n f = 0 ↔ itemsErr n f = 0 ∧ HeapF f n := by
  unfold heapErr
  constructor
  · intro h
    split at h
    · rename_i h0
      split at h
      · rename_i h1; exact ⟨h0, heapOk_iff.1 h1⟩
      · cases h
    · rename_i h0; exact absurd h h0
  · rintro ⟨h0, h1⟩
    rw [if_pos h0, if_pos (heapOk_iff.2 h1)]
theorem made_err {n : Nat} {f : Nat → It} (h : itemsErr n f = 0) : heapErr n (makeF n (n / 2) f) = 0 := by
  obtain ⟨h1, h2⟩ := itemsErr_zero.1 h
  exact heapErr_zero.2 ⟨itemsErr_zero.2 ⟨h1, perm_all (made_perm f) (p := fun x => okIt x = true) h2⟩, made_heap f⟩
theorem made_least {n : Nat} (f : Nat → It) : ∀ i, i < n → (makeF n (n / 2) f 0).1 ≤ (f i).1 :=
  perm_all (made_perm f).symm (p := fun x => (makeF n (n / 2) f 0).1 ≤ x.1) (heap_least (made_heap f))

theorem fact_any (w : World) : Calls Tryd.prog 19 #[] w (Ret fun v w' => v = .bool true ∧ Below w.heap.size w w') := by
  refine calls_of (l := []) Tryd.func19 rfl Tryd.ntmps19 rfl ?_
  with_reducible repeat (first | refine WL.move ?_ | refine WL.assign ?_ | refine WL.lss ?_ | refine WL.leq ?_ | refine WL.gtr ?_ | refine WL.geq ?_ | refine WL.add ?_ | refine WL.sub ?_ | refine WL.mul ?_ | refine WL.quo ?_ | refine WL.rem ?_ | refine WL.eqlI ?_ | refine WL.neqI ?_ | refine WL.not ?_ | refine WL.pick_t ?_ | refine WL.pick_f ?_ | refine WL.extract ?_ | refine WL.lenItems ?_ | refine WL.errI ?_ | refine WL.keyAddr ?_ | refine WL.idAddr ?_ | refine WL.itemAddr ?_ | refine WL.neqE0 ?_ | refine WL.neqE1 ?_ | refine WL.eqlE0 ?_ | refine WL.eqlE1 ?_ | refine WL.item0 ?_ | refine WL.item ?_ | refine WL.itemsNil ?_ | refine WL.itemsTo ?_ | refine WL.itemsFrom ?_ | refine WL.yesA ?_ | refine WL.noA ?_ | refine WL.noUA ?_ | refine WC.seq ?_ | refine WC.region fun K hK => ?_ | refine WC.block ?_ | refine WC.skip ?_ | refine WC.exit ?_ | refine WC.ret ?_ | refine WX.then_n ?_ | refine WX.then_x ?_ | refine WX.then_r ?_ | refine WX.block_n ?_ | refine WX.block_r ?_ | refine WX.block_x ?_ | (refine WL.nil (hK _ _ ?_); clear hK K) | refine WX.block_oA ?_ )
  refine WL.call (OpC.static Tryd.func38 (by kernel_rfl) rfl rfl) rfl (pair_any 5 3 _) ?_
  rintro v w1 ⟨ho1, hB1⟩
  obtain ⟨A1, c1, rfl, hc1⟩ := ho1.form
  obtain ⟨_, _, hr1⟩ := ho1.toRow itC_len
  refine WL.call (OpC.static Tryd.func10 (by kernel_rfl) rfl rfl) rfl (make_any A1 2 c1 _ _ hr1) ?_
  rintro v w2 ⟨hB2, _, hok⟩
  obtain ⟨v', rfl, ho2⟩ := hok rfl
  have e2 : segL (makeF 2 (2 / 2) (lf [((5 : Int), (1 : Int)), (3, 2)])) 2 = [(3, 2), (5, 1)] := by rfl
  rw [e2] at ho2
  obtain ⟨g, cap, hv, hS⟩ := ho2.toS itC_len (by simp)
  replace hv : v' = .slice (some ⟨g, 0, none⟩) 2 cap := hv
  subst hv
  with_reducible repeat (first | refine WL.move ?_ | refine WL.assign ?_ | refine WL.lss ?_ | refine WL.leq ?_ | refine WL.gtr ?_ | refine WL.geq ?_ | refine WL.add ?_ | refine WL.sub ?_ | refine WL.mul ?_ | refine WL.quo ?_ | refine WL.rem ?_ | refine WL.eqlI ?_ | refine WL.neqI ?_ | refine WL.not ?_ | refine WL.pick_t ?_ | refine WL.pick_f ?_ | refine WL.extract ?_ | refine WL.lenItems ?_ | refine WL.errI ?_ | refine WL.keyAddr ?_ | refine WL.idAddr ?_ | refine WL.itemAddr ?_ | refine WL.neqE0 ?_ | refine WL.neqE1 ?_ | refine WL.eqlE0 ?_ | refine WL.eqlE1 ?_ | refine WL.item0 ?_ | refine WL.item ?_ | refine WL.itemsNil ?_ | refine WL.itemsTo ?_ | refine WL.itemsFrom ?_ | refine WL.yesA ?_ | refine WL.noA ?_ | refine WL.noUA ?_ | refine WC.seq ?_ | refine WC.region fun K hK => ?_ | refine WC.block ?_ | refine WC.skip ?_ | refine WC.exit ?_ | refine WC.ret ?_ | refine WX.then_n ?_ | refine WX.then_x ?_ | refine WX.then_r ?_ | refine WX.block_n ?_ | refine WX.block_r ?_ | refine WX.block_x ?_ | (refine WL.nil (hK _ _ ?_); clear hK K) | refine WX.block_oA ?_ )
  refine WL.step (OpV.load1 tyInt rfl (hS.cell (i := 0) (by simp) 0 _ rfl)) rfl ?_
  with_reducible repeat (first | refine WL.move ?_ | refine WL.assign ?_ | refine WL.lss ?_ | refine WL.leq ?_ | refine WL.gtr ?_ | refine WL.geq ?_ | refine WL.add ?_ | refine WL.sub ?_ | refine WL.mul ?_ | refine WL.quo ?_ | refine WL.rem ?_ | refine WL.eqlI ?_ | refine WL.neqI ?_ | refine WL.not ?_ | refine WL.pick_t ?_ | refine WL.pick_f ?_ | refine WL.extract ?_ | refine WL.lenItems ?_ | refine WL.errI ?_ | refine WL.keyAddr ?_ | refine WL.idAddr ?_ | refine WL.itemAddr ?_ | refine WL.neqE0 ?_ | refine WL.neqE1 ?_ | refine WL.eqlE0 ?_ | refine WL.eqlE1 ?_ | refine WL.item0 ?_ | refine WL.item ?_ | refine WL.itemsNil ?_ | refine WL.itemsTo ?_ | refine WL.itemsFrom ?_ | refine WL.yesA ?_ | refine WL.noA ?_ | refine WL.noUA ?_ | refine WC.seq ?_ | refine WC.region fun K hK => ?_ | refine WC.block ?_ | refine WC.skip ?_ | refine WC.exit ?_ | refine WC.ret ?_ | refine WX.then_n ?_ | refine WX.then_x ?_ | refine WX.then_r ?_ | refine WX.block_n ?_ | refine WX.block_r ?_ | refine WX.block_x ?_ | (refine WL.nil (hK _ _ ?_); clear hK K) | refine WX.block_oA ?_ )
  exact WX.ret1 rfl rfl ⟨rfl, hB1.tr hB2⟩

theorem seg0 (f : Nat → It) (n : Nat) : seg f 0 n = segL f n := by simp [seg, segL, List.range_eq_range']
theorem putF_heap {n : Nat} {f : Nat → It} (h : HeapF f n) (x : It) : HeapF (pushF n f x) (n + 1) := by
  refine riseF_heap (n + 1) (n + 1) n (putF n f x) (by omega) (by omega) (fun i h0 h1 hne => ?_) (fun i h0 h1 hup _ => by omega)
  have : i < n := by omega
  simp only [putF]
  rw [if_neg (by omega), if_neg (by omega)]
  exact h i h0 this
theorem pushF_perm (n : Nat) (f : Nat → It) (x : It) : (segL (pushF n f x) (n + 1)).Perm (segL f n ++ [x]) := by
  have h := riseF_perm (n + 1) (n + 1) n (putF n f x) (by omega)
  rw [seg0, seg0] at h
  refine h.trans (List.Perm.of_eq ?_)
  rw [← segL_put]; rfl
theorem popF_perm {n : Nat} (f : Nat → It) (hn : 0 < n) : (f 0 :: segL (popF n f) (n - 1)).Perm (segL f n) := by
  obtain ⟨m, rfl⟩ : ∃ m, n = m + 1 := ⟨n - 1, by omega⟩
  rw [Nat.add_sub_cancel, popF, Nat.add_sub_cancel]
  by_cases hm : m = 0
  · subst hm; simp [segL]
  · have h1 := sinkF_perm m m 0 (fun j => if j = 0 then f m else f j) (by omega)
    rw [seg0, seg0] at h1
    have h2 : (f 0 :: segL (fun j => if j = 0 then f m else f j) m).Perm (segL f (m + 1)) := by
      obtain ⟨k, rfl⟩ : ∃ k, m = k + 1 := ⟨m - 1, by omega⟩
      have e1 : segL (fun j => if j = 0 then f (k + 1) else f j) (k + 1) = f (k + 1) :: (List.range k).map (fun i => f (i + 1)) := by
        simp [segL, List.range_succ_eq_map, List.map_map, Function.comp]
      have e2 : segL f (k + 1 + 1) = f 0 :: (List.range k).map (fun i => f (i + 1)) ++ [f (k + 1)] := by
        rw [segL_succ]
        simp [segL, List.range_succ_eq_map, List.map_map, Function.comp]
      rw [e1, e2, List.cons_append]
      refine List.Perm.cons _ ?_
      exact (List.perm_append_singleton _ _).symm
    exact (List.Perm.cons _ h1).trans h2
theorem popF_heap {n : Nat} {f : Nat → It} (h : HeapF f n) : HeapF (popF n f) (n - 1) := by
  by_cases hn : n - 1 = 0
  · intro i hi hin; omega
  · refine heapF_of_from (sinkF_heap (n - 1) 0 (n - 1) 0 _ (by omega) (Nat.le_refl _) (by omega) (fun i hi hin _ hne => ?_) (fun i _ _ _ h0 => absurd h0 (by omega)))
    show (if (i - 1) / 2 = 0 then f (n - 1) else f ((i - 1) / 2)).1 ≤ (if i = 0 then f (n - 1) else f i).1
    rw [if_neg hne, if_neg (by omega)]
    exact h i hi (by omega)
end Rk
