/- Soft heaps in memory: the trees of a heap; join, New and Push. -/
import Derived.Test.YtkkbmbkfjfdleaaDoorSf1
import Derived.Test.YtkkbmbkfjfdleaaDoorItV
namespace Rk
open Go Go.RowKit Go.Proofs
instance : Inhabited Sf.T := ⟨.nil⟩
theorem errZ_ : errOf 0 = .nilIface := rfl
theorem errP_ {e : Nat} (h : e ≠ 0) : errOf e = .iface 47 (.int .i64 e) := by simp [errOf, h]
theorem evE_c {E : Env} {v : Value} : evE E (.const v) = some v := rfl
theorem OpV.mkJ_s {E : Env} {w : World} {t : TypeId} {x y z : Operand} {a : Int} {p q : Option Nat} (hx : evE E x = some (.int .i64 a)) (hy : evE E y = some (pV p)) (hz : evE E z = some (pV q)) :
    OpV Tryd.prog (.build 54 #[(1, x), (2, .const (.int .i64 1)), (4, y), (5, z)]) t E w (.agg #[.int .i64 0, .int .i64 a, .int .i64 1, .slice none 0 0, pV p, pV q]) w :=
  OpV.build (parts := [(1, x), (2, .const (.int .i64 1)), (4, y), (5, z)]) (ps := [(1, .int .i64 a), (2, .int .i64 1), (4, pV p), (5, pV q)]) (by simp [evp, hx, hy, hz, evE_c]) (by kernel_rfl)
theorem OpV.mkO_s {E : Env} {w : World} {t : TypeId} {x y : Operand} {a : Int} {A : Option Addr} {n c : Nat} (hx : evE E x = some (.int .i64 a)) (hy : evE E y = some (.slice A n c)) :
    OpV Tryd.prog (.build 54 #[(0, x), (2, .const (.int .i64 1)), (3, y)]) t E w (.agg #[.int .i64 a, .int .i64 0, .int .i64 1, .slice A n c, .pointer none, .pointer none]) w :=
  OpV.build (parts := [(0, x), (2, .const (.int .i64 1)), (3, y)]) (ps := [(0, .int .i64 a), (2, .int .i64 1), (3, .slice A n c)]) (by simp [evp, hx, hy, evE_c]) (by kernel_rfl)
theorem OpV.mkH_s {E : Env} {w : World} {t : TypeId} {x : Operand} {a : Int} (hx : evE E x = some (.int .i64 a)) :
    OpV Tryd.prog (.build 50 #[(0, x)]) t E w (.agg #[.int .i64 a, .int .i64 0, .slice none 0 0]) w :=
  OpV.build (parts := [(0, x)]) (ps := [(0, .int .i64 a)]) (by simp [evp, hx]) (by kernel_rfl)
attribute [local irreducible] OpV OpU OpC WL QL WC WX OL RL TL TM
/-- trees in memory, by their blocks -/
def FIn (w : World) : List Sf.T → List Nat → (Nat → Prop) → Prop
  | [], gs, _ => gs = []
  | t :: ts, gs, F => ∃ g gs' Ft Fr, gs = g :: gs' ∧ SIn w t (some g) Ft ∧ FIn w ts gs' Fr ∧ (∀ x, Ft x → F x) ∧ (∀ x, Fr x → F x) ∧ ∀ x, Ft x → ¬ Fr x
section
variable {w w' : World}
theorem FIn.len : ∀ {ts : List Sf.T} {gs : List Nat} {F : Nat → Prop}, FIn w ts gs F → gs.length = ts.length := by
  intro ts
  induction ts with
  | nil => intro gs F h; obtain rfl : gs = [] := h; rfl
  | cons t ts ih => intro gs F h; obtain ⟨g, gs', Ft, Fr, rfl, _, h2, _⟩ := h; simp [ih h2]
theorem FIn.other : ∀ {ts : List Sf.T} {gs : List Nat} {F : Nat → Prop}, FIn w ts gs F → w.heap.size ≤ w'.heap.size → (∀ x, F x → w'.heap[x]? = w.heap[x]?) → FIn w' ts gs F := by
  intro ts
  induction ts with
  | nil => intro gs F h _ _; exact h
  | cons t ts ih =>
    intro gs F h hs hb
    obtain ⟨g, gs', Ft, Fr, rfl, h1, h2, h3, h4, h5⟩ := h
    exact ⟨g, gs', Ft, Fr, rfl, h1.other hs fun x hx => hb x (h3 x hx), ih h2 hs fun x hx => hb x (h4 x hx), h3, h4, h5⟩
theorem FIn.mono {F F' : Nat → Prop} {ts : List Sf.T} {gs : List Nat} (h : FIn w ts gs F) (hf : ∀ x, F x → F' x) : FIn w ts gs F' := by
  cases ts with
  | nil => exact h
  | cons t ts =>
    obtain ⟨g, gs', Ft, Fr, rfl, h1, h2, h3, h4, h5⟩ := h
    exact ⟨g, gs', Ft, Fr, rfl, h1, h2, fun x hx => hf x (h3 x hx), fun x hx => hf x (h4 x hx), h5⟩
theorem FIn.drop : ∀ {ts : List Sf.T} {gs : List Nat} {F : Nat → Prop} (j : Nat), FIn w ts gs F → FIn w (ts.drop j) (gs.drop j) F := by
  intro ts
  induction ts with
  | nil => intro gs F j h; obtain rfl : gs = [] := h; simp [FIn]
  | cons t ts ih =>
    intro gs F j h
    cases j with
    | zero => exact h
    | succ j =>
      obtain ⟨g, gs', Ft, Fr, rfl, h1, h2, h3, h4, h5⟩ := h
      exact (ih j h2).mono h4
/-- the tree at a place: what it owns, and what there is once it has turned, or is gone -/
theorem FIn.at_ : ∀ {ts : List Sf.T} {gs : List Nat} {F : Nat → Prop} (p : Nat), FIn w ts gs F → p < ts.length → ∃ Ft, SIn w (lf ts p) (some (lf gs p)) Ft ∧ (∀ x, Ft x → F x) ∧
    ((∀ x, F x → x < w.heap.size) → ∀ w' t' Ft', Chg w w' Ft Ft' → SIn w' t' (some (lf gs p)) Ft' → FIn w' (ts.set p t') gs (fun x => F x ∨ Ft' x)) ∧ FIn w (ts.eraseIdx p) (gs.eraseIdx p) F := by
  intro ts
  induction ts with
  | nil => intro gs F p _ hp; simp at hp
  | cons t ts ih =>
    intro gs F p h hp
    obtain ⟨g, gs', Ft, Fr, rfl, h1, h2, h3, h4, h5⟩ := h
    cases p with
    | zero =>
      refine ⟨Ft, h1, h3, fun hlt w' t' Ft' hC ht => ?_, h2.mono h4⟩
      refine ⟨g, gs', Ft', Fr, rfl, ht, h2.other hC.size fun x hx => hC.block x (hlt x (h4 x hx)) fun e => h5 x e hx, fun x hx => .inr hx, fun x hx => .inl (h4 x hx), fun x h6 h7 => ?_⟩
      rcases (hC.next x h6).1 with h8 | h8
      · exact h5 x h8 h7
      · have := hlt x (h4 x h7); omega
    | succ p =>
      obtain ⟨Gt, k1, k2, k3, k4⟩ := ih p h2 (by simpa using hp)
      refine ⟨Gt, k1, fun x hx => h4 x (k2 x hx), fun hlt w' t' Ft' hC ht => ?_, ?_⟩
      · have hlr : ∀ x, Fr x → x < w.heap.size := fun x hx => hlt x (h4 x hx)
        refine ⟨g, gs', Ft, fun x => Fr x ∨ Ft' x, rfl, h1.other hC.size fun x hx => hC.block x (hlt x (h3 x hx)) fun e => h5 x hx (k2 x e), k3 hlr w' t' Ft' hC ht, fun x hx => .inl (h3 x hx), fun x hx => ?_, fun x h6 h7 => ?_⟩
        · rcases hx with hx | hx
          · exact .inl (h4 x hx)
          · exact .inr hx
        · rcases h7 with h7 | h7
          · exact h5 x h6 h7
          · rcases (hC.next x h7).1 with h8 | h8
            · exact h5 x h6 (k2 x h8)
            · have := hlt x (h3 x h6); omega
      · exact ⟨g, gs'.eraseIdx p, Ft, Fr, rfl, h1, k4, h3, h4, h5⟩
/-- the node of a tree -/
theorem SIn.bk {t : Sf.T} {g : Nat} {F : Nat → Prop} (h : SIn w t (some g) F) : ∃ v pl pr Fl Fr, SN w g t.key t.rank t.want t.items v pl pr Fl Fr F ∧ SIn w t.left pl Fl ∧ SIn w t.right pr Fr ∧ t ≠ .nil := by
  cases t with
  | nil => exact absurd (show some g = none from h) (by simp)
  | node k rk wt its l r =>
    obtain ⟨g', v, pl, pr, Fl, Fr, e, h1, h2, h3⟩ := h
    obtain rfl : g = g' := by injection e
    exact ⟨v, pl, pr, Fl, Fr, h1, h2, h3, by simp⟩
theorem SIn.mk {t : Sf.T} {g : Nat} {F Fl Fr : Nat → Prop} {v : Value} {pl pr : Option Nat} (h1 : SN w g t.key t.rank t.want t.items v pl pr Fl Fr F) (h2 : SIn w t.left pl Fl) (h3 : SIn w t.right pr Fr) (hn : t ≠ .nil) : SIn w t (some g) F := by
  cases t with
  | nil => exact absurd rfl hn
  | node k rk wt its l r => exact ⟨g, v, pl, pr, Fl, Fr, rfl, h1, h2, h3⟩
end
set_option maxHeartbeats 2000000 in
theorem join_any (w : World) (hp R n0 : Nat) (tv : Value) (hb : Bk w hp TSH (shC R n0 tv)) (t cur n' : Sf.T) (ga gb : Nat) (Fa Fb : Nat → Prop) (hA : SIn w t (some ga) Fa) (hB : SIn w cur (some gb) Fb) (hla : ∀ x, Fa x → x < w.heap.size) (hlb : ∀ x, Fb x → x < w.heap.size)
    (hd : ∀ x, Fa x → ¬ Fb x) (m : Nat) (hf : Sf.FillN m (Sf.pair R t cur) n') (hrk : t.rank ≤ 1000) (hwt : t.want ≤ 1000000) :
    Calls Tryd.prog 17 #[ptV hp, ptV ga, ptV gb] w (Ret fun v w' => ∃ g F', v = ptV g ∧ SIn w' n' (some g) F' ∧ Chg w w' (fun x => Fa x ∨ Fb x) F') := by
  refine calls_of (l := [ptV hp, ptV ga, ptV gb]) Tryd.func17 rfl Tryd.ntmps17 rfl ?_
  obtain ⟨va, pla, pra, Fla, Fra, hNa, hLa, hRa, hta⟩ := hA.bk
  have hba := hNa.blk
  with_reducible repeat (first | refine WL.move ?_ | refine WL.assign ?_ | refine WL.ldKey ?_ | refine WL.ldId ?_ | refine WL.ldIt ?_ | refine WL.itemAddrN ?_ | refine WL.itemAddrP ?_ | refine WL.itemAddrM ?_ | refine WL.toU ?_ | refine WL.shr1 ?_ | refine WL.toI ?_ | refine WL.sub1N ?_ | refine WL.subN ?_ | refine WL.neqItem ?_ | refine WL.eqIt ?_ | refine WL.eqBool ?_ | refine WL.neqBool ?_ | refine WL.quoN ?_ | refine WL.quo2N ?_ | refine WL.lss ?_ | refine WL.leq ?_ | refine WL.gtr ?_ | refine WL.geq ?_ | refine WL.add ?_ | refine WL.sub ?_ | refine WL.mul ?_ | refine WL.quo ?_ | refine WL.rem ?_ | refine WL.eqlI ?_ | refine WL.neqI ?_ | refine WL.not ?_ | refine WL.pick_t ?_ | refine WL.pick_f ?_ | refine WL.extract ?_ | refine WL.lenItems ?_ | refine WL.errI ?_ | refine WL.keyAddr ?_ | refine WL.idAddr ?_ | refine WL.itemAddr ?_ | refine WL.neqE0 ?_ | refine WL.neqE1 ?_ | refine WL.eqlE0 ?_ | refine WL.eqlE1 ?_ | refine WL.item0 ?_ | refine WL.item ?_ | refine WL.itemsNil ?_ | refine WL.itemsTo ?_ | refine WL.itemsFrom ?_ | refine WL.yesA ?_ | refine WL.noA ?_ | refine WL.noUA ?_ | refine WC.seq ?_ | refine WC.region fun K hK => ?_ | refine WC.block ?_ | refine WC.skip ?_ | refine WC.exit ?_ | refine WC.ret ?_ | (refine WL.nil (hK _ _ ?_); clear hK K) | refine WX.then_n ?_ | refine WX.then_x ?_ | refine WX.then_r ?_ | refine WX.block_n ?_ | refine WX.block_r ?_ | refine WX.block_x ?_ | refine WX.block_oA ?_ | refine WL.st_s0 ?_ | refine WL.st_s1 ?_ | refine WL.st_s2 ?_ | refine WL.st_s3 ?_ | refine WL.st_s4 ?_ | refine WL.st_s5 ?_ | refine WL.nilP ?_ | refine WL.ldn_k ?_ | refine WL.ldn_r ?_ | refine WL.ldn_w ?_ | refine WL.ldn_i ?_ | refine WL.ldn_l ?_ | refine WL.ldn_g ?_ | refine WL.elLen_s ?_ | refine WL.elAddrN_s ?_ | refine WL.st_sh0 ?_ | refine WL.st_sh1 ?_ | refine WL.st_sh2 ?_ | refine WL.ldh_r ?_ | refine WL.ldh_p ?_ | refine WL.ldh_t ?_ | refine WL.eqQ ?_ | refine WL.neQ ?_)
  refine WL.step (OpV.mkJ_s (p := some ga) (q := some gb) rfl rfl rfl) rfl ?_
  refine WL.boxOp rfl rfl fun w1 hg1 hb1 hz1 => ?_
  have hB1 : Below w.heap.size w w1 := below_of_grown hg1
  replace hb1 : Bk w1 w.heap.size TS (nC 0 (t.rank + 1) 1 (.slice none 0 0) (some ga) (some gb)) := by
    unfold nC; rw [show ((t.rank + 1 : Nat) : Int) = (t.rank : Int) + 1 from by omega]; exact hb1
  have hA1 := hA.below hla hB1
  have hB1' := hB.below hlb hB1
  have hba1 := hba.below hB1
  have hbh1 := hb.below hB1
  -- the new node
  obtain ⟨F1, hF1⟩ : ∃ F1 : Nat → Prop, F1 = fun x => x = w.heap.size ∨ (Fa x ∨ Fb x) := ⟨_, rfl⟩
  have hN1 : SN w1 w.heap.size 0 (t.rank + 1) 1 [] (.slice none 0 0) (some ga) (some gb) Fa Fb F1 := by
    refine ⟨hb1, OwnO.nil _ _ _ _ _ _, fun x hx => ?_, ?_, fun x hx => (by simp [Value.ownBlock] at hx), fun x hx => ?_, fun x hx => ?_, (by simp [Value.ownBlock]), fun hx => ?_, fun hx => ?_, fun x hx => (by simp [Value.ownBlock] at hx), fun x hx => (by simp [Value.ownBlock] at hx), hd⟩
    · rw [hF1] at hx
      rcases hx with rfl | hx | hx
      · omega
      · have := hla x hx; omega
      · have := hlb x hx; omega
    · rw [hF1]; exact .inl rfl
    · rw [hF1]; exact .inr (.inl hx)
    · rw [hF1]; exact .inr (.inr hx)
    · have := hla _ hx; omega
    · have := hlb _ hx; omega
  have hC1 : Chg w w1 (fun x => Fa x ∨ Fb x) F1 := ⟨hB1.os, hB1.tape, hB1.output, hB1.size, fun k hk _ => hB1.block k hk, fun x hx => by
    refine ⟨?_, hN1.lt x hx⟩
    rw [hF1] at hx
    rcases hx with rfl | hx
    · exact .inr (Nat.le_refl _)
    · exact .inl hx⟩
  with_reducible repeat (first | refine WL.move ?_ | refine WL.assign ?_ | refine WL.ldKey ?_ | refine WL.ldId ?_ | refine WL.ldIt ?_ | refine WL.itemAddrN ?_ | refine WL.itemAddrP ?_ | refine WL.itemAddrM ?_ | refine WL.toU ?_ | refine WL.shr1 ?_ | refine WL.toI ?_ | refine WL.sub1N ?_ | refine WL.subN ?_ | refine WL.neqItem ?_ | refine WL.eqIt ?_ | refine WL.eqBool ?_ | refine WL.neqBool ?_ | refine WL.quoN ?_ | refine WL.quo2N ?_ | refine WL.lss ?_ | refine WL.leq ?_ | refine WL.gtr ?_ | refine WL.geq ?_ | refine WL.add ?_ | refine WL.sub ?_ | refine WL.mul ?_ | refine WL.quo ?_ | refine WL.rem ?_ | refine WL.eqlI ?_ | refine WL.neqI ?_ | refine WL.not ?_ | refine WL.pick_t ?_ | refine WL.pick_f ?_ | refine WL.extract ?_ | refine WL.lenItems ?_ | refine WL.errI ?_ | refine WL.keyAddr ?_ | refine WL.idAddr ?_ | refine WL.itemAddr ?_ | refine WL.neqE0 ?_ | refine WL.neqE1 ?_ | refine WL.eqlE0 ?_ | refine WL.eqlE1 ?_ | refine WL.item0 ?_ | refine WL.item ?_ | refine WL.itemsNil ?_ | refine WL.itemsTo ?_ | refine WL.itemsFrom ?_ | refine WL.yesA ?_ | refine WL.noA ?_ | refine WL.noUA ?_ | refine WC.seq_s ?_ | refine WC.seq_r ?_ | refine WC.seq_b ?_ | refine WC.seq_t ?_ | refine WC.seq_k ?_ | refine WC.seq_e ?_ | refine WC.seq_l ?_ | refine WC.region fun K hK => ?_ | refine WC.block ?_ | refine WC.skip ?_ | refine WC.exit ?_ | refine WC.ret ?_ | (refine WL.nil (hK _ _ ?_); clear hK K) | refine WX.then_n ?_ | refine WX.then_x ?_ | refine WX.then_r ?_ | refine WX.block_n ?_ | refine WX.block_r ?_ | refine WX.block_x ?_ | refine WX.block_oA ?_ )
  refine WC.joinE0 [(7, ptV w.heap.size)] (fun w' => SN w' w.heap.size 0 (t.rank + 1) (Sf.wantOf R t) [] (.slice none 0 0) (some ga) (some gb) Fa Fb F1 ∧ SIn w' t (some ga) Fa ∧ SIn w' cur (some gb) Fb ∧ Chg w1 w' F1 F1) ?_ ?_
  · with_reducible repeat (first | refine WL.move ?_ | refine WL.assign ?_ | refine WL.ldKey ?_ | refine WL.ldId ?_ | refine WL.ldIt ?_ | refine WL.itemAddrN ?_ | refine WL.itemAddrP ?_ | refine WL.itemAddrM ?_ | refine WL.toU ?_ | refine WL.shr1 ?_ | refine WL.toI ?_ | refine WL.sub1N ?_ | refine WL.subN ?_ | refine WL.neqItem ?_ | refine WL.eqIt ?_ | refine WL.eqBool ?_ | refine WL.neqBool ?_ | refine WL.quoN ?_ | refine WL.quo2N ?_ | refine WL.lss ?_ | refine WL.leq ?_ | refine WL.gtr ?_ | refine WL.geq ?_ | refine WL.add ?_ | refine WL.sub ?_ | refine WL.mul ?_ | refine WL.quo ?_ | refine WL.rem ?_ | refine WL.eqlI ?_ | refine WL.neqI ?_ | refine WL.not ?_ | refine WL.pick_t ?_ | refine WL.pick_f ?_ | refine WL.extract ?_ | refine WL.lenItems ?_ | refine WL.errI ?_ | refine WL.keyAddr ?_ | refine WL.idAddr ?_ | refine WL.itemAddr ?_ | refine WL.neqE0 ?_ | refine WL.neqE1 ?_ | refine WL.eqlE0 ?_ | refine WL.eqlE1 ?_ | refine WL.item0 ?_ | refine WL.item ?_ | refine WL.itemsNil ?_ | refine WL.itemsTo ?_ | refine WL.itemsFrom ?_ | refine WL.yesA ?_ | refine WL.noA ?_ | refine WL.noUA ?_ | refine WC.seq ?_ | refine WC.region fun K hK => ?_ | refine WC.block ?_ | refine WC.skip ?_ | refine WC.exit ?_ | refine WC.ret ?_ | (refine WL.nil (hK _ _ ?_); clear hK K) | refine WX.then_n ?_ | refine WX.then_x ?_ | refine WX.then_r ?_ | refine WX.block_n ?_ | refine WX.block_r ?_ | refine WX.block_x ?_ | refine WX.block_oA ?_ )
    refine WC.quietE mixed (by kernel_rfl) ?_
    with_reducible repeat (first | refine QL.move ?_ | refine QL.assign ?_ | refine QL.ldKey ?_ | refine QL.ldId ?_ | refine QL.ldIt ?_ | refine QL.itemAddrN ?_ | refine QL.itemAddrP ?_ | refine QL.itemAddrM ?_ | refine QL.toU ?_ | refine QL.shr1 ?_ | refine QL.toI ?_ | refine QL.sub1N ?_ | refine QL.subN ?_ | refine QL.neqItem ?_ | refine QL.eqIt ?_ | refine QL.eqBool ?_ | refine QL.neqBool ?_ | refine QL.quoN ?_ | refine QL.quo2N ?_ | refine QL.lss ?_ | refine QL.leq ?_ | refine QL.gtr ?_ | refine QL.geq ?_ | refine QL.add ?_ | refine QL.sub ?_ | refine QL.mul ?_ | refine QL.quo ?_ | refine QL.rem ?_ | refine QL.eqlI ?_ | refine QL.neqI ?_ | refine QL.not ?_ | refine QL.pick_t ?_ | refine QL.pick_f ?_ | refine QL.extract ?_ | refine QL.lenItems ?_ | refine QL.errI ?_ | refine QL.keyAddr ?_ | refine QL.idAddr ?_ | refine QL.itemAddr ?_ | refine QL.neqE0 ?_ | refine QL.neqE1 ?_ | refine QL.eqlE0 ?_ | refine QL.eqlE1 ?_ | refine QL.item0 ?_ | refine QL.item ?_ | refine QL.itemsNil ?_ | refine QL.itemsTo ?_ | refine QL.itemsFrom ?_ | refine QL.yesA ?_ | refine QL.noA ?_ | refine QL.noUA ?_ | refine QL.st_s0 ?_ | refine QL.st_s1 ?_ | refine QL.st_s2 ?_ | refine QL.st_s3 ?_ | refine QL.st_s4 ?_ | refine QL.st_s5 ?_ | refine QL.nilP ?_ | refine QL.ldn_k ?_ | refine QL.ldn_r ?_ | refine QL.ldn_w ?_ | refine QL.ldn_i ?_ | refine QL.ldn_l ?_ | refine QL.ldn_g ?_ | refine QL.elLen_s ?_ | refine QL.elAddrN_s ?_ | refine QL.st_sh0 ?_ | refine QL.st_sh1 ?_ | refine QL.st_sh2 ?_ | refine QL.ldh_r ?_ | refine QL.ldh_p ?_ | refine QL.ldh_t ?_ | refine QL.eqQ ?_ | refine QL.neQ ?_)
    refine QL.done fun w2 hB2 => ?_
    have hN2 := hN1.below hB2
    have hA2 := hA1.below hN1.lt_l hB2
    have hB2' := hB1'.below hN1.lt_r hB2
    have hba2 := hba1.below hB2
    have hC2 := Chg.of_below hB2 hN1.lt
    have hbn2 := hN2.blk
    with_reducible repeat (first | refine WL.move ?_ | refine WL.assign ?_ | refine WL.ldKey ?_ | refine WL.ldId ?_ | refine WL.ldIt ?_ | refine WL.itemAddrN ?_ | refine WL.itemAddrP ?_ | refine WL.itemAddrM ?_ | refine WL.toU ?_ | refine WL.shr1 ?_ | refine WL.toI ?_ | refine WL.sub1N ?_ | refine WL.subN ?_ | refine WL.neqItem ?_ | refine WL.eqIt ?_ | refine WL.eqBool ?_ | refine WL.neqBool ?_ | refine WL.quoN ?_ | refine WL.quo2N ?_ | refine WL.lss ?_ | refine WL.leq ?_ | refine WL.gtr ?_ | refine WL.geq ?_ | refine WL.add ?_ | refine WL.sub ?_ | refine WL.mul ?_ | refine WL.quo ?_ | refine WL.rem ?_ | refine WL.eqlI ?_ | refine WL.neqI ?_ | refine WL.not ?_ | refine WL.pick_t ?_ | refine WL.pick_f ?_ | refine WL.extract ?_ | refine WL.lenItems ?_ | refine WL.errI ?_ | refine WL.keyAddr ?_ | refine WL.idAddr ?_ | refine WL.itemAddr ?_ | refine WL.neqE0 ?_ | refine WL.neqE1 ?_ | refine WL.eqlE0 ?_ | refine WL.eqlE1 ?_ | refine WL.item0 ?_ | refine WL.item ?_ | refine WL.itemsNil ?_ | refine WL.itemsTo ?_ | refine WL.itemsFrom ?_ | refine WL.yesA ?_ | refine WL.noA ?_ | refine WL.noUA ?_ | refine WC.seq ?_ | refine WC.region fun K hK => ?_ | refine WC.block ?_ | refine WC.skip ?_ | refine WC.exit ?_ | refine WC.ret ?_ | (refine WL.nil (hK _ _ ?_); clear hK K) | refine WX.then_n ?_ | refine WX.then_x ?_ | refine WX.then_r ?_ | refine WX.block_n ?_ | refine WX.block_r ?_ | refine WX.block_x ?_ | refine WX.block_oA ?_ )
    refine WC.condD rfl (fun h => ?_) (fun h => ?_)
    · with_reducible repeat (first | refine WL.move ?_ | refine WL.assign ?_ | refine WL.ldKey ?_ | refine WL.ldId ?_ | refine WL.ldIt ?_ | refine WL.itemAddrN ?_ | refine WL.itemAddrP ?_ | refine WL.itemAddrM ?_ | refine WL.toU ?_ | refine WL.shr1 ?_ | refine WL.toI ?_ | refine WL.sub1N ?_ | refine WL.subN ?_ | refine WL.neqItem ?_ | refine WL.eqIt ?_ | refine WL.eqBool ?_ | refine WL.neqBool ?_ | refine WL.quoN ?_ | refine WL.quo2N ?_ | refine WL.lss ?_ | refine WL.leq ?_ | refine WL.gtr ?_ | refine WL.geq ?_ | refine WL.add ?_ | refine WL.sub ?_ | refine WL.mul ?_ | refine WL.quo ?_ | refine WL.rem ?_ | refine WL.eqlI ?_ | refine WL.neqI ?_ | refine WL.not ?_ | refine WL.pick_t ?_ | refine WL.pick_f ?_ | refine WL.extract ?_ | refine WL.lenItems ?_ | refine WL.errI ?_ | refine WL.keyAddr ?_ | refine WL.idAddr ?_ | refine WL.itemAddr ?_ | refine WL.neqE0 ?_ | refine WL.neqE1 ?_ | refine WL.eqlE0 ?_ | refine WL.eqlE1 ?_ | refine WL.item0 ?_ | refine WL.item ?_ | refine WL.itemsNil ?_ | refine WL.itemsTo ?_ | refine WL.itemsFrom ?_ | refine WL.yesA ?_ | refine WL.noA ?_ | refine WL.noUA ?_ | refine WC.seq ?_ | refine WC.region fun K hK => ?_ | refine WC.block ?_ | refine WC.skip ?_ | refine WC.exit ?_ | refine WC.ret ?_ | (refine WL.nil (hK _ _ ?_); clear hK K) | refine WX.then_n ?_ | refine WX.then_x ?_ | refine WX.then_r ?_ | refine WX.block_n ?_ | refine WX.block_r ?_ | refine WX.block_x ?_ | refine WX.block_oA ?_ | refine WL.st_s0 ?_ | refine WL.st_s1 ?_ | refine WL.st_s2 ?_ | refine WL.st_s3 ?_ | refine WL.st_s4 ?_ | refine WL.st_s5 ?_ | refine WL.nilP ?_ | refine WL.ldn_k ?_ | refine WL.ldn_r ?_ | refine WL.ldn_w ?_ | refine WL.ldn_i ?_ | refine WL.ldn_l ?_ | refine WL.ldn_g ?_ | refine WL.elLen_s ?_ | refine WL.elAddrN_s ?_ | refine WL.st_sh0 ?_ | refine WL.st_sh1 ?_ | refine WL.st_sh2 ?_ | refine WL.ldh_r ?_ | refine WL.ldh_p ?_ | refine WL.ldh_t ?_ | refine WL.eqQ ?_ | refine WL.neQ ?_)
      refine WL.storeIn rfl rfl hbn2 (by simp [nC]) fun w3 hg3 hb3 hz3 => ?_
      have hw : Sf.wantOf R t = (3 * t.want + 1) / 2 := by unfold Sf.wantOf; rw [if_pos (by omega)]
      replace hb3 : Bk w3 w.heap.size TS (nC 0 (t.rank + 1) (Sf.wantOf R t) (.slice none 0 0) (some ga) (some gb)) := by
        unfold nC; rw [hw, show (((3 * t.want + 1) / 2 : Nat) : Int) = (3 * (t.want : Int) + 1) / 2 from by omega]; exact hb3
      have hN3 := hN2.re hg3 hb3
      have hA3 := hA2.grown hN2.lt_l hg3 (fun x e hx => hN2.gl (by injection e with e; subst e; exact hx))
      have hB3' := hB2'.grown hN2.lt_r hg3 (fun x e hx => hN2.gr (by injection e with e; subst e; exact hx))
      with_reducible repeat (first | refine WL.move ?_ | refine WL.assign ?_ | refine WL.ldKey ?_ | refine WL.ldId ?_ | refine WL.ldIt ?_ | refine WL.itemAddrN ?_ | refine WL.itemAddrP ?_ | refine WL.itemAddrM ?_ | refine WL.toU ?_ | refine WL.shr1 ?_ | refine WL.toI ?_ | refine WL.sub1N ?_ | refine WL.subN ?_ | refine WL.neqItem ?_ | refine WL.eqIt ?_ | refine WL.eqBool ?_ | refine WL.neqBool ?_ | refine WL.quoN ?_ | refine WL.quo2N ?_ | refine WL.lss ?_ | refine WL.leq ?_ | refine WL.gtr ?_ | refine WL.geq ?_ | refine WL.add ?_ | refine WL.sub ?_ | refine WL.mul ?_ | refine WL.quo ?_ | refine WL.rem ?_ | refine WL.eqlI ?_ | refine WL.neqI ?_ | refine WL.not ?_ | refine WL.pick_t ?_ | refine WL.pick_f ?_ | refine WL.extract ?_ | refine WL.lenItems ?_ | refine WL.errI ?_ | refine WL.keyAddr ?_ | refine WL.idAddr ?_ | refine WL.itemAddr ?_ | refine WL.neqE0 ?_ | refine WL.neqE1 ?_ | refine WL.eqlE0 ?_ | refine WL.eqlE1 ?_ | refine WL.item0 ?_ | refine WL.item ?_ | refine WL.itemsNil ?_ | refine WL.itemsTo ?_ | refine WL.itemsFrom ?_ | refine WL.yesA ?_ | refine WL.noA ?_ | refine WL.noUA ?_ | refine WC.seq ?_ | refine WC.region fun K hK => ?_ | refine WC.block ?_ | refine WC.skip ?_ | refine WC.exit ?_ | refine WC.ret ?_ | (refine WL.nil (hK _ _ ?_); clear hK K) | refine WX.then_n ?_ | refine WX.then_x ?_ | refine WX.then_r ?_ | refine WX.block_n ?_ | refine WX.block_r ?_ | refine WX.block_x ?_ | refine WX.block_oA ?_ )
      exact WX.meetE0 ⟨hN3, hA3, hB3', hC2.trans (hN2.chg1 hg3)⟩ Sub.auto
    · have hw : Sf.wantOf R t = 1 := by unfold Sf.wantOf; rw [if_neg (by omega)]
      with_reducible repeat (first | refine WL.move ?_ | refine WL.assign ?_ | refine WL.ldKey ?_ | refine WL.ldId ?_ | refine WL.ldIt ?_ | refine WL.itemAddrN ?_ | refine WL.itemAddrP ?_ | refine WL.itemAddrM ?_ | refine WL.toU ?_ | refine WL.shr1 ?_ | refine WL.toI ?_ | refine WL.sub1N ?_ | refine WL.subN ?_ | refine WL.neqItem ?_ | refine WL.eqIt ?_ | refine WL.eqBool ?_ | refine WL.neqBool ?_ | refine WL.quoN ?_ | refine WL.quo2N ?_ | refine WL.lss ?_ | refine WL.leq ?_ | refine WL.gtr ?_ | refine WL.geq ?_ | refine WL.add ?_ | refine WL.sub ?_ | refine WL.mul ?_ | refine WL.quo ?_ | refine WL.rem ?_ | refine WL.eqlI ?_ | refine WL.neqI ?_ | refine WL.not ?_ | refine WL.pick_t ?_ | refine WL.pick_f ?_ | refine WL.extract ?_ | refine WL.lenItems ?_ | refine WL.errI ?_ | refine WL.keyAddr ?_ | refine WL.idAddr ?_ | refine WL.itemAddr ?_ | refine WL.neqE0 ?_ | refine WL.neqE1 ?_ | refine WL.eqlE0 ?_ | refine WL.eqlE1 ?_ | refine WL.item0 ?_ | refine WL.item ?_ | refine WL.itemsNil ?_ | refine WL.itemsTo ?_ | refine WL.itemsFrom ?_ | refine WL.yesA ?_ | refine WL.noA ?_ | refine WL.noUA ?_ | refine WC.seq ?_ | refine WC.region fun K hK => ?_ | refine WC.block ?_ | refine WC.skip ?_ | refine WC.exit ?_ | refine WC.ret ?_ | (refine WL.nil (hK _ _ ?_); clear hK K) | refine WX.then_n ?_ | refine WX.then_x ?_ | refine WX.then_r ?_ | refine WX.block_n ?_ | refine WX.block_r ?_ | refine WX.block_x ?_ | refine WX.block_oA ?_ )
      exact WX.meetE0 ⟨by rw [hw]; exact hN2, hA2, hB2', hC2⟩ Sub.auto
  clear hN1 hA1 hB1' hba1 hbh1
  rintro w2 ⟨hN2, hA2, hB2, hC2⟩
  with_reducible repeat (first | refine WL.move ?_ | refine WL.assign ?_ | refine WL.ldKey ?_ | refine WL.ldId ?_ | refine WL.ldIt ?_ | refine WL.itemAddrN ?_ | refine WL.itemAddrP ?_ | refine WL.itemAddrM ?_ | refine WL.toU ?_ | refine WL.shr1 ?_ | refine WL.toI ?_ | refine WL.sub1N ?_ | refine WL.subN ?_ | refine WL.neqItem ?_ | refine WL.eqIt ?_ | refine WL.eqBool ?_ | refine WL.neqBool ?_ | refine WL.quoN ?_ | refine WL.quo2N ?_ | refine WL.lss ?_ | refine WL.leq ?_ | refine WL.gtr ?_ | refine WL.geq ?_ | refine WL.add ?_ | refine WL.sub ?_ | refine WL.mul ?_ | refine WL.quo ?_ | refine WL.rem ?_ | refine WL.eqlI ?_ | refine WL.neqI ?_ | refine WL.not ?_ | refine WL.pick_t ?_ | refine WL.pick_f ?_ | refine WL.extract ?_ | refine WL.lenItems ?_ | refine WL.errI ?_ | refine WL.keyAddr ?_ | refine WL.idAddr ?_ | refine WL.itemAddr ?_ | refine WL.neqE0 ?_ | refine WL.neqE1 ?_ | refine WL.eqlE0 ?_ | refine WL.eqlE1 ?_ | refine WL.item0 ?_ | refine WL.item ?_ | refine WL.itemsNil ?_ | refine WL.itemsTo ?_ | refine WL.itemsFrom ?_ | refine WL.yesA ?_ | refine WL.noA ?_ | refine WL.noUA ?_ | refine WC.seq ?_ | refine WC.region fun K hK => ?_ | refine WC.block ?_ | refine WC.skip ?_ | refine WC.exit ?_ | refine WC.ret ?_ | (refine WL.nil (hK _ _ ?_); clear hK K) | refine WX.then_n ?_ | refine WX.then_x ?_ | refine WX.then_r ?_ | refine WX.block_n ?_ | refine WX.block_r ?_ | refine WX.block_x ?_ | refine WX.block_oA ?_ | refine WL.st_s0 ?_ | refine WL.st_s1 ?_ | refine WL.st_s2 ?_ | refine WL.st_s3 ?_ | refine WL.st_s4 ?_ | refine WL.st_s5 ?_ | refine WL.nilP ?_ | refine WL.ldn_k ?_ | refine WL.ldn_r ?_ | refine WL.ldn_w ?_ | refine WL.ldn_i ?_ | refine WL.ldn_l ?_ | refine WL.ldn_g ?_ | refine WL.elLen_s ?_ | refine WL.elAddrN_s ?_ | refine WL.st_sh0 ?_ | refine WL.st_sh1 ?_ | refine WL.st_sh2 ?_ | refine WL.ldh_r ?_ | refine WL.ldh_p ?_ | refine WL.ldh_t ?_ | refine WL.eqQ ?_ | refine WL.neQ ?_)
  refine WL.call (OpC.static Tryd.func19 (by kernel_rfl) rfl rfl) rfl (fill_any m _ _ w.heap.size F1 w2 hf ⟨w.heap.size, _, some ga, some gb, Fa, Fb, rfl, hN2, hA2, hB2⟩ hN2.lt) ?_
  rintro _ w3 ⟨F', hS3, hC3⟩
  with_reducible repeat (first | refine WL.move ?_ | refine WL.assign ?_ | refine WL.ldKey ?_ | refine WL.ldId ?_ | refine WL.ldIt ?_ | refine WL.itemAddrN ?_ | refine WL.itemAddrP ?_ | refine WL.itemAddrM ?_ | refine WL.toU ?_ | refine WL.shr1 ?_ | refine WL.toI ?_ | refine WL.sub1N ?_ | refine WL.subN ?_ | refine WL.neqItem ?_ | refine WL.eqIt ?_ | refine WL.eqBool ?_ | refine WL.neqBool ?_ | refine WL.quoN ?_ | refine WL.quo2N ?_ | refine WL.lss ?_ | refine WL.leq ?_ | refine WL.gtr ?_ | refine WL.geq ?_ | refine WL.add ?_ | refine WL.sub ?_ | refine WL.mul ?_ | refine WL.quo ?_ | refine WL.rem ?_ | refine WL.eqlI ?_ | refine WL.neqI ?_ | refine WL.not ?_ | refine WL.pick_t ?_ | refine WL.pick_f ?_ | refine WL.extract ?_ | refine WL.lenItems ?_ | refine WL.errI ?_ | refine WL.keyAddr ?_ | refine WL.idAddr ?_ | refine WL.itemAddr ?_ | refine WL.neqE0 ?_ | refine WL.neqE1 ?_ | refine WL.eqlE0 ?_ | refine WL.eqlE1 ?_ | refine WL.item0 ?_ | refine WL.item ?_ | refine WL.itemsNil ?_ | refine WL.itemsTo ?_ | refine WL.itemsFrom ?_ | refine WL.yesA ?_ | refine WL.noA ?_ | refine WL.noUA ?_ | refine WC.seq ?_ | refine WC.region fun K hK => ?_ | refine WC.block ?_ | refine WC.skip ?_ | refine WC.exit ?_ | refine WC.ret ?_ | (refine WL.nil (hK _ _ ?_); clear hK K) | refine WX.then_n ?_ | refine WX.then_x ?_ | refine WX.then_r ?_ | refine WX.block_n ?_ | refine WX.block_r ?_ | refine WX.block_x ?_ | refine WX.block_oA ?_ )
  exact WX.ret1 rfl rfl ⟨w.heap.size, F', rfl, hS3, (hC1.trans hC2).trans hC3⟩
/-- a heap in memory -/
structure SHp (w : World) (hp R n : Nat) (ts : List Sf.T) (F : Nat → Prop) : Prop where
  is : ∃ tv gs Ff, Bk w hp TSH (shC R n tv) ∧ OwnO ptC 1 52 w 0 tv gs ∧ FIn w ts gs Ff ∧ (∀ x, tv.ownBlock = some x → F x) ∧ (∀ x, Ff x → F x) ∧ tv.ownBlock ≠ some hp ∧ ¬ Ff hp ∧ ∀ x, tv.ownBlock = some x → ¬ Ff x
  own : F hp
  lt : ∀ x, F x → x < w.heap.size
theorem SHp.other {w w' : World} {hp R n : Nat} {ts : List Sf.T} {F : Nat → Prop} (h : SHp w hp R n ts F) (hs : w.heap.size ≤ w'.heap.size) (hb : ∀ x, F x → w'.heap[x]? = w.heap[x]?) : SHp w' hp R n ts F := by
  obtain ⟨tv, gs, Ff, h1, h2, h3, h4, h5, h6, h7, h8⟩ := h.is
  exact ⟨⟨tv, gs, Ff, (hb hp h.own).trans h1, h2.other fun x hx => hb x (h4 x hx), h3.other hs fun x hx => hb x (h5 x hx), h4, h5, h6, h7, h8⟩, h.own, fun x hx => Nat.lt_of_lt_of_le (h.lt x hx) hs⟩
theorem SHp.below {w w' : World} {hp R n : Nat} {ts : List Sf.T} {F : Nat → Prop} (h : SHp w hp R n ts F) (hb : Below w.heap.size w w') : SHp w' hp R n ts F := h.other hb.size fun x hx => hb.block x (h.lt x hx)
theorem SHp.chg {w w' : World} {hp R n : Nat} {ts : List Sf.T} {F G G' : Nat → Prop} (h : SHp w hp R n ts F) (hc : Chg w w' G G') (ha : ∀ x, G x → ¬ F x) : SHp w' hp R n ts F := h.other hc.size fun x hx => hc.block x (h.lt x hx) fun e => ha x e hx
theorem new_any (rank : Int) (w : World) : Calls Tryd.prog 6 #[.int .i64 rank] w (Ret fun v w' => Below w.heap.size w w' ∧ ((rank < 0 ∨ 8 < rank) → v = .tuple #[.pointer none, errOf 1]) ∧
    (¬ (rank < 0 ∨ 8 < rank) → v = .tuple #[ptV w.heap.size, .nilIface] ∧ SHp w' w.heap.size rank.toNat 0 [] (fun x => x = w.heap.size))) := by
  refine calls_of (l := [.int .i64 rank]) Tryd.func6 rfl Tryd.ntmps6 rfl ?_
  with_reducible repeat (first | refine WL.move ?_ | refine WL.assign ?_ | refine WL.ldKey ?_ | refine WL.ldId ?_ | refine WL.ldIt ?_ | refine WL.itemAddrN ?_ | refine WL.itemAddrP ?_ | refine WL.itemAddrM ?_ | refine WL.toU ?_ | refine WL.shr1 ?_ | refine WL.toI ?_ | refine WL.sub1N ?_ | refine WL.subN ?_ | refine WL.neqItem ?_ | refine WL.eqIt ?_ | refine WL.eqBool ?_ | refine WL.neqBool ?_ | refine WL.quoN ?_ | refine WL.quo2N ?_ | refine WL.lss ?_ | refine WL.leq ?_ | refine WL.gtr ?_ | refine WL.geq ?_ | refine WL.add ?_ | refine WL.sub ?_ | refine WL.mul ?_ | refine WL.quo ?_ | refine WL.rem ?_ | refine WL.eqlI ?_ | refine WL.neqI ?_ | refine WL.not ?_ | refine WL.pick_t ?_ | refine WL.pick_f ?_ | refine WL.extract ?_ | refine WL.lenItems ?_ | refine WL.errI ?_ | refine WL.keyAddr ?_ | refine WL.idAddr ?_ | refine WL.itemAddr ?_ | refine WL.neqE0 ?_ | refine WL.neqE1 ?_ | refine WL.eqlE0 ?_ | refine WL.eqlE1 ?_ | refine WL.item0 ?_ | refine WL.item ?_ | refine WL.itemsNil ?_ | refine WL.itemsTo ?_ | refine WL.itemsFrom ?_ | refine WL.yesA ?_ | refine WL.noA ?_ | refine WL.noUA ?_ | refine WC.seq ?_ | refine WC.region fun K hK => ?_ | refine WC.block ?_ | refine WC.skip ?_ | refine WC.exit ?_ | refine WC.ret ?_ | (refine WL.nil (hK _ _ ?_); clear hK K) | refine WX.then_n ?_ | refine WX.then_x ?_ | refine WX.then_r ?_ | refine WX.block_n ?_ | refine WX.block_r ?_ | refine WX.block_x ?_ | refine WX.block_oA ?_ )
  by_cases h0 : rank < 0
  · rw [decide_eq_true h0]
    with_reducible repeat (first | refine WL.move ?_ | refine WL.assign ?_ | refine WL.ldKey ?_ | refine WL.ldId ?_ | refine WL.ldIt ?_ | refine WL.itemAddrN ?_ | refine WL.itemAddrP ?_ | refine WL.itemAddrM ?_ | refine WL.toU ?_ | refine WL.shr1 ?_ | refine WL.toI ?_ | refine WL.sub1N ?_ | refine WL.subN ?_ | refine WL.neqItem ?_ | refine WL.eqIt ?_ | refine WL.eqBool ?_ | refine WL.neqBool ?_ | refine WL.quoN ?_ | refine WL.quo2N ?_ | refine WL.lss ?_ | refine WL.leq ?_ | refine WL.gtr ?_ | refine WL.geq ?_ | refine WL.add ?_ | refine WL.sub ?_ | refine WL.mul ?_ | refine WL.quo ?_ | refine WL.rem ?_ | refine WL.eqlI ?_ | refine WL.neqI ?_ | refine WL.not ?_ | refine WL.pick_t ?_ | refine WL.pick_f ?_ | refine WL.extract ?_ | refine WL.lenItems ?_ | refine WL.errI ?_ | refine WL.keyAddr ?_ | refine WL.idAddr ?_ | refine WL.itemAddr ?_ | refine WL.neqE0 ?_ | refine WL.neqE1 ?_ | refine WL.eqlE0 ?_ | refine WL.eqlE1 ?_ | refine WL.item0 ?_ | refine WL.item ?_ | refine WL.itemsNil ?_ | refine WL.itemsTo ?_ | refine WL.itemsFrom ?_ | refine WL.yesA ?_ | refine WL.noA ?_ | refine WL.noUA ?_ | refine WC.seq ?_ | refine WC.region fun K hK => ?_ | refine WC.block ?_ | refine WC.skip ?_ | refine WC.exit ?_ | refine WC.ret ?_ | (refine WL.nil (hK _ _ ?_); clear hK K) | refine WX.then_n ?_ | refine WX.then_x ?_ | refine WX.then_r ?_ | refine WX.block_n ?_ | refine WX.block_r ?_ | refine WX.block_x ?_ | refine WX.block_oA ?_ )
    refine WC.cond_true rfl ?_
    with_reducible repeat (first | refine WL.move ?_ | refine WL.assign ?_ | refine WL.ldKey ?_ | refine WL.ldId ?_ | refine WL.ldIt ?_ | refine WL.itemAddrN ?_ | refine WL.itemAddrP ?_ | refine WL.itemAddrM ?_ | refine WL.toU ?_ | refine WL.shr1 ?_ | refine WL.toI ?_ | refine WL.sub1N ?_ | refine WL.subN ?_ | refine WL.neqItem ?_ | refine WL.eqIt ?_ | refine WL.eqBool ?_ | refine WL.neqBool ?_ | refine WL.quoN ?_ | refine WL.quo2N ?_ | refine WL.lss ?_ | refine WL.leq ?_ | refine WL.gtr ?_ | refine WL.geq ?_ | refine WL.add ?_ | refine WL.sub ?_ | refine WL.mul ?_ | refine WL.quo ?_ | refine WL.rem ?_ | refine WL.eqlI ?_ | refine WL.neqI ?_ | refine WL.not ?_ | refine WL.pick_t ?_ | refine WL.pick_f ?_ | refine WL.extract ?_ | refine WL.lenItems ?_ | refine WL.errI ?_ | refine WL.keyAddr ?_ | refine WL.idAddr ?_ | refine WL.itemAddr ?_ | refine WL.neqE0 ?_ | refine WL.neqE1 ?_ | refine WL.eqlE0 ?_ | refine WL.eqlE1 ?_ | refine WL.item0 ?_ | refine WL.item ?_ | refine WL.itemsNil ?_ | refine WL.itemsTo ?_ | refine WL.itemsFrom ?_ | refine WL.yesA ?_ | refine WL.noA ?_ | refine WL.noUA ?_ | refine WC.seq ?_ | refine WC.region fun K hK => ?_ | refine WC.block ?_ | refine WC.skip ?_ | refine WC.exit ?_ | refine WC.ret ?_ | (refine WL.nil (hK _ _ ?_); clear hK K) | refine WX.then_n ?_ | refine WX.then_x ?_ | refine WX.then_r ?_ | refine WX.block_n ?_ | refine WX.block_r ?_ | refine WX.block_x ?_ | refine WX.block_oA ?_ )
    exact WX.ret2 rfl rfl rfl ⟨Below.refl _ _, fun _ => rfl, fun h => absurd (.inl h0) h⟩
  · rw [decide_eq_false h0]
    with_reducible repeat (first | refine WL.move ?_ | refine WL.assign ?_ | refine WL.ldKey ?_ | refine WL.ldId ?_ | refine WL.ldIt ?_ | refine WL.itemAddrN ?_ | refine WL.itemAddrP ?_ | refine WL.itemAddrM ?_ | refine WL.toU ?_ | refine WL.shr1 ?_ | refine WL.toI ?_ | refine WL.sub1N ?_ | refine WL.subN ?_ | refine WL.neqItem ?_ | refine WL.eqIt ?_ | refine WL.eqBool ?_ | refine WL.neqBool ?_ | refine WL.quoN ?_ | refine WL.quo2N ?_ | refine WL.lss ?_ | refine WL.leq ?_ | refine WL.gtr ?_ | refine WL.geq ?_ | refine WL.add ?_ | refine WL.sub ?_ | refine WL.mul ?_ | refine WL.quo ?_ | refine WL.rem ?_ | refine WL.eqlI ?_ | refine WL.neqI ?_ | refine WL.not ?_ | refine WL.pick_t ?_ | refine WL.pick_f ?_ | refine WL.extract ?_ | refine WL.lenItems ?_ | refine WL.errI ?_ | refine WL.keyAddr ?_ | refine WL.idAddr ?_ | refine WL.itemAddr ?_ | refine WL.neqE0 ?_ | refine WL.neqE1 ?_ | refine WL.eqlE0 ?_ | refine WL.eqlE1 ?_ | refine WL.item0 ?_ | refine WL.item ?_ | refine WL.itemsNil ?_ | refine WL.itemsTo ?_ | refine WL.itemsFrom ?_ | refine WL.yesA ?_ | refine WL.noA ?_ | refine WL.noUA ?_ | refine WC.seq ?_ | refine WC.region fun K hK => ?_ | refine WC.block ?_ | refine WC.skip ?_ | refine WC.exit ?_ | refine WC.ret ?_ | (refine WL.nil (hK _ _ ?_); clear hK K) | refine WX.then_n ?_ | refine WX.then_x ?_ | refine WX.then_r ?_ | refine WX.block_n ?_ | refine WX.block_r ?_ | refine WX.block_x ?_ | refine WX.block_oA ?_ )
    refine WC.condD rfl (fun h1 => ?_) (fun h1 => ?_)
    · with_reducible repeat (first | refine WL.move ?_ | refine WL.assign ?_ | refine WL.ldKey ?_ | refine WL.ldId ?_ | refine WL.ldIt ?_ | refine WL.itemAddrN ?_ | refine WL.itemAddrP ?_ | refine WL.itemAddrM ?_ | refine WL.toU ?_ | refine WL.shr1 ?_ | refine WL.toI ?_ | refine WL.sub1N ?_ | refine WL.subN ?_ | refine WL.neqItem ?_ | refine WL.eqIt ?_ | refine WL.eqBool ?_ | refine WL.neqBool ?_ | refine WL.quoN ?_ | refine WL.quo2N ?_ | refine WL.lss ?_ | refine WL.leq ?_ | refine WL.gtr ?_ | refine WL.geq ?_ | refine WL.add ?_ | refine WL.sub ?_ | refine WL.mul ?_ | refine WL.quo ?_ | refine WL.rem ?_ | refine WL.eqlI ?_ | refine WL.neqI ?_ | refine WL.not ?_ | refine WL.pick_t ?_ | refine WL.pick_f ?_ | refine WL.extract ?_ | refine WL.lenItems ?_ | refine WL.errI ?_ | refine WL.keyAddr ?_ | refine WL.idAddr ?_ | refine WL.itemAddr ?_ | refine WL.neqE0 ?_ | refine WL.neqE1 ?_ | refine WL.eqlE0 ?_ | refine WL.eqlE1 ?_ | refine WL.item0 ?_ | refine WL.item ?_ | refine WL.itemsNil ?_ | refine WL.itemsTo ?_ | refine WL.itemsFrom ?_ | refine WL.yesA ?_ | refine WL.noA ?_ | refine WL.noUA ?_ | refine WC.seq ?_ | refine WC.region fun K hK => ?_ | refine WC.block ?_ | refine WC.skip ?_ | refine WC.exit ?_ | refine WC.ret ?_ | (refine WL.nil (hK _ _ ?_); clear hK K) | refine WX.then_n ?_ | refine WX.then_x ?_ | refine WX.then_r ?_ | refine WX.block_n ?_ | refine WX.block_r ?_ | refine WX.block_x ?_ | refine WX.block_oA ?_ )
      exact WX.ret2 rfl rfl rfl ⟨Below.refl _ _, fun _ => rfl, fun h => absurd (.inr h1) h⟩
    · with_reducible repeat (first | refine WL.move ?_ | refine WL.assign ?_ | refine WL.ldKey ?_ | refine WL.ldId ?_ | refine WL.ldIt ?_ | refine WL.itemAddrN ?_ | refine WL.itemAddrP ?_ | refine WL.itemAddrM ?_ | refine WL.toU ?_ | refine WL.shr1 ?_ | refine WL.toI ?_ | refine WL.sub1N ?_ | refine WL.subN ?_ | refine WL.neqItem ?_ | refine WL.eqIt ?_ | refine WL.eqBool ?_ | refine WL.neqBool ?_ | refine WL.quoN ?_ | refine WL.quo2N ?_ | refine WL.lss ?_ | refine WL.leq ?_ | refine WL.gtr ?_ | refine WL.geq ?_ | refine WL.add ?_ | refine WL.sub ?_ | refine WL.mul ?_ | refine WL.quo ?_ | refine WL.rem ?_ | refine WL.eqlI ?_ | refine WL.neqI ?_ | refine WL.not ?_ | refine WL.pick_t ?_ | refine WL.pick_f ?_ | refine WL.extract ?_ | refine WL.lenItems ?_ | refine WL.errI ?_ | refine WL.keyAddr ?_ | refine WL.idAddr ?_ | refine WL.itemAddr ?_ | refine WL.neqE0 ?_ | refine WL.neqE1 ?_ | refine WL.eqlE0 ?_ | refine WL.eqlE1 ?_ | refine WL.item0 ?_ | refine WL.item ?_ | refine WL.itemsNil ?_ | refine WL.itemsTo ?_ | refine WL.itemsFrom ?_ | refine WL.yesA ?_ | refine WL.noA ?_ | refine WL.noUA ?_ | refine WC.seq ?_ | refine WC.region fun K hK => ?_ | refine WC.block ?_ | refine WC.skip ?_ | refine WC.exit ?_ | refine WC.ret ?_ | (refine WL.nil (hK _ _ ?_); clear hK K) | refine WX.then_n ?_ | refine WX.then_x ?_ | refine WX.then_r ?_ | refine WX.block_n ?_ | refine WX.block_r ?_ | refine WX.block_x ?_ | refine WX.block_oA ?_ )
      refine WL.step (OpV.mkH_s rfl) rfl ?_
      refine WL.boxOp rfl rfl fun w1 hg1 hb1 hz1 => ?_
      have hB1 : Below w.heap.size w w1 := below_of_grown hg1
      replace hb1 : Bk w1 w.heap.size TSH (shC rank.toNat 0 (.slice none 0 0)) := by
        unfold shC; rw [show ((rank.toNat : Nat) : Int) = rank from by omega]; exact hb1
      with_reducible repeat (first | refine WL.move ?_ | refine WL.assign ?_ | refine WL.ldKey ?_ | refine WL.ldId ?_ | refine WL.ldIt ?_ | refine WL.itemAddrN ?_ | refine WL.itemAddrP ?_ | refine WL.itemAddrM ?_ | refine WL.toU ?_ | refine WL.shr1 ?_ | refine WL.toI ?_ | refine WL.sub1N ?_ | refine WL.subN ?_ | refine WL.neqItem ?_ | refine WL.eqIt ?_ | refine WL.eqBool ?_ | refine WL.neqBool ?_ | refine WL.quoN ?_ | refine WL.quo2N ?_ | refine WL.lss ?_ | refine WL.leq ?_ | refine WL.gtr ?_ | refine WL.geq ?_ | refine WL.add ?_ | refine WL.sub ?_ | refine WL.mul ?_ | refine WL.quo ?_ | refine WL.rem ?_ | refine WL.eqlI ?_ | refine WL.neqI ?_ | refine WL.not ?_ | refine WL.pick_t ?_ | refine WL.pick_f ?_ | refine WL.extract ?_ | refine WL.lenItems ?_ | refine WL.errI ?_ | refine WL.keyAddr ?_ | refine WL.idAddr ?_ | refine WL.itemAddr ?_ | refine WL.neqE0 ?_ | refine WL.neqE1 ?_ | refine WL.eqlE0 ?_ | refine WL.eqlE1 ?_ | refine WL.item0 ?_ | refine WL.item ?_ | refine WL.itemsNil ?_ | refine WL.itemsTo ?_ | refine WL.itemsFrom ?_ | refine WL.yesA ?_ | refine WL.noA ?_ | refine WL.noUA ?_ | refine WC.seq ?_ | refine WC.region fun K hK => ?_ | refine WC.block ?_ | refine WC.skip ?_ | refine WC.exit ?_ | refine WC.ret ?_ | (refine WL.nil (hK _ _ ?_); clear hK K) | refine WX.then_n ?_ | refine WX.then_x ?_ | refine WX.then_r ?_ | refine WX.block_n ?_ | refine WX.block_r ?_ | refine WX.block_x ?_ | refine WX.block_oA ?_ )
      refine WX.ret2 rfl rfl rfl ⟨hB1, fun h => absurd h (by omega), fun _ => ⟨rfl, ⟨_, [], fun _ => False, hb1, OwnO.nil _ _ _ _ _ _, rfl, fun x hx => (by simp [Value.ownBlock] at hx), fun x hx => hx.elim, (by simp [Value.ownBlock]), fun h => h, fun x hx => (by simp [Value.ownBlock] at hx)⟩, rfl, fun x hx => by omega⟩⟩
theorem Chg.widS {w w' : World} {F F' S S' : Nat → Prop} (hc : Chg w w' F F') (h1 : ∀ g, F g → S g) (h2 : ∀ g, S' g → F' g ∨ S g) (hl : ∀ g, S g → g < w.heap.size) : Chg w w' S S' :=
  ⟨hc.os, hc.tape, hc.output, hc.size, fun k hk hn => hc.block k hk (fun hf => hn (h1 k hf)), fun g hg => by
    rcases h2 g hg with h | h
    · exact ⟨(hc.next g h).1.imp (h1 g) id, (hc.next g h).2⟩
    · exact ⟨.inl h, Nat.lt_of_lt_of_le (hl g h) hc.size⟩⟩
theorem st_len {R n : Nat} {ts : List Sf.T} (hst : Sf.St R n ts) : ts.length ≤ n := by
  have : ∀ us : List Sf.T, (∀ t ∈ us, Sf.Good R t) → us.length ≤ (Sf.allF us).length := by
    intro us
    induction us with
    | nil => intro _; exact Nat.le_refl _
    | cons u us ih =>
      intro h
      have h1 := ih fun v hv => h v (by simp [hv])
      have h2 := (h u (by simp)).1.items_ne (h u (by simp)).2.1
      have h3 := Sf.all_set u (h u (by simp)).2.1
      have h4 := List.length_pos_iff.2 h2
      have e : Sf.allF (u :: us) = u.all ++ Sf.allF us := rfl
      rw [e, h3]
      simp only [List.length_append, List.length_cons]
      omega
  have := this ts hst.good
  have := hst.many
  omega
theorem sF_le (R : Nat) : ∀ k, Sf.sF R k ≤ 2 ^ k := by
  intro k
  induction k with
  | zero => simp [Sf.sF]
  | succ k ih =>
    have h0 := Nat.one_le_two_pow (n := k)
    rw [Nat.pow_succ]
    simp only [Sf.sF]
    split <;> omega
theorem carry_stop {R : Nat} {n : Sf.T} {ts out : List Sf.T} (h : Sf.Carry R n ts out) (hs : ∀ t r, ts = t :: r → t.rank ≠ n.rank) : out = n :: ts := by
  cases h with
  | stop => rfl
  | join h _ _ => exact absurd h (hs _ _ rfl)
theorem carry_join {R : Nat} {n t : Sf.T} {r out : List Sf.T} (h : Sf.Carry R n (t :: r) out) (he : t.rank = n.rank) : ∃ n', Sf.Fill (Sf.pair R t n) n' ∧ Sf.Carry R n' r out := by
  cases h with
  | stop h => exact absurd he (h _ _ rfl)
  | join _ hf hc => exact ⟨_, hf, hc⟩
/-- the state of a pushing while trees are joined -/
structure PJ (w wr : World) (hp R n : Nat) (tv : Value) (gs : List Nat) (ts out : List Sf.T) (F : Nat → Prop) (j : Nat) (cu : Sf.T) (g : Nat) (Fc Fr : Nat → Prop) : Prop where
  blk : Bk wr hp TSH (shC R n tv)
  own : OwnO ptC 1 52 wr 0 tv gs
  cur : SIn wr cu (some g) Fc
  rest : FIn wr (ts.drop j) (gs.drop j) Fr
  ltc : ∀ x, Fc x → x < wr.heap.size
  ltr : ∀ x, Fr x → x < wr.heap.size
  apart : ∀ x, Fc x → ¬ Fr x
  hc : ¬ Fc hp
  hr : ¬ Fr hp
  vc : ∀ x, tv.ownBlock = some x → ¬ Fc x
  vr : ∀ x, tv.ownBlock = some x → ¬ Fr x
  sub : ∀ x, Fr x → F x
  chg : Chg w wr F (fun x => F x ∨ Fc x)
  car : Sf.Carry R cu (ts.drop j) out
  le : j ≤ ts.length
  good : Sf.Good R cu
  many : cu.all.length + (Sf.allF (ts.drop j)).length ≤ 401
set_option maxHeartbeats 8000000 in
theorem push_any (w : World) (hp R n : Nat) (ts out : List Sf.T) (F : Nat → Prop) (x : It) (hS : SHp w hp R n ts F) (hst : Sf.St R n ts) (hR : R ≤ 8) (hn : n ≤ 400) (hout : Sf.Carry R (Sf.one x) ts out) :
    Calls Tryd.prog 7 #[ptV hp, itV x] w (Ret fun v w' =>
      (itemsErr 1 (lf [x]) ≠ 0 → v = errOf (itemsErr 1 (lf [x])) ∧ SHp w' hp R n ts F ∧ Chg w w' F F) ∧
      (itemsErr 1 (lf [x]) = 0 → n = 400 → v = errOf 4 ∧ SHp w' hp R n ts F ∧ Chg w w' F F) ∧
      (itemsErr 1 (lf [x]) = 0 → n ≠ 400 → v = .nilIface ∧ ∃ F', SHp w' hp R (n + 1) out F' ∧ Chg w w' F F')) := by
  have hlen : ts.length ≤ 400 := Nat.le_trans (st_len hst) hn
  refine calls_of (l := [ptV hp, itV x]) Tryd.func7 rfl Tryd.ntmps7 rfl ?_
  with_reducible repeat (first | refine WL.move ?_ | refine WL.assign ?_ | refine WL.ldKey ?_ | refine WL.ldId ?_ | refine WL.ldIt ?_ | refine WL.itemAddrN ?_ | refine WL.itemAddrP ?_ | refine WL.itemAddrM ?_ | refine WL.toU ?_ | refine WL.shr1 ?_ | refine WL.toI ?_ | refine WL.sub1N ?_ | refine WL.subN ?_ | refine WL.neqItem ?_ | refine WL.eqIt ?_ | refine WL.eqBool ?_ | refine WL.neqBool ?_ | refine WL.quoN ?_ | refine WL.quo2N ?_ | refine WL.lss ?_ | refine WL.leq ?_ | refine WL.gtr ?_ | refine WL.geq ?_ | refine WL.add ?_ | refine WL.sub ?_ | refine WL.mul ?_ | refine WL.quo ?_ | refine WL.rem ?_ | refine WL.eqlI ?_ | refine WL.neqI ?_ | refine WL.not ?_ | refine WL.pick_t ?_ | refine WL.pick_f ?_ | refine WL.extract ?_ | refine WL.lenItems ?_ | refine WL.errI ?_ | refine WL.keyAddr ?_ | refine WL.idAddr ?_ | refine WL.itemAddr ?_ | refine WL.neqE0 ?_ | refine WL.neqE1 ?_ | refine WL.eqlE0 ?_ | refine WL.eqlE1 ?_ | refine WL.item0 ?_ | refine WL.item ?_ | refine WL.itemsNil ?_ | refine WL.itemsTo ?_ | refine WL.itemsFrom ?_ | refine WL.yesA ?_ | refine WL.noA ?_ | refine WL.noUA ?_ | refine WC.seq ?_ | refine WC.region fun K hK => ?_ | refine WC.block ?_ | refine WC.skip ?_ | refine WC.exit ?_ | refine WC.ret ?_ | (refine WL.nil (hK _ _ ?_); clear hK K) | refine WX.then_n ?_ | refine WX.then_x ?_ | refine WX.then_r ?_ | refine WX.block_n ?_ | refine WX.block_r ?_ | refine WX.block_x ?_ | refine WX.block_oA ?_ )
  refine WL.boxOp rfl rfl fun w1 hg1 hb1 hz1 => ?_
  have hB1 : Below w.heap.size w w1 := below_of_grown hg1
  replace hb1 : Bk w1 w.heap.size 30 (itC x) := hb1
  with_reducible repeat (first | refine WL.move ?_ | refine WL.assign ?_ | refine WL.ldKey ?_ | refine WL.ldId ?_ | refine WL.ldIt ?_ | refine WL.itemAddrN ?_ | refine WL.itemAddrP ?_ | refine WL.itemAddrM ?_ | refine WL.toU ?_ | refine WL.shr1 ?_ | refine WL.toI ?_ | refine WL.sub1N ?_ | refine WL.subN ?_ | refine WL.neqItem ?_ | refine WL.eqIt ?_ | refine WL.eqBool ?_ | refine WL.neqBool ?_ | refine WL.quoN ?_ | refine WL.quo2N ?_ | refine WL.lss ?_ | refine WL.leq ?_ | refine WL.gtr ?_ | refine WL.geq ?_ | refine WL.add ?_ | refine WL.sub ?_ | refine WL.mul ?_ | refine WL.quo ?_ | refine WL.rem ?_ | refine WL.eqlI ?_ | refine WL.neqI ?_ | refine WL.not ?_ | refine WL.pick_t ?_ | refine WL.pick_f ?_ | refine WL.extract ?_ | refine WL.lenItems ?_ | refine WL.errI ?_ | refine WL.keyAddr ?_ | refine WL.idAddr ?_ | refine WL.itemAddr ?_ | refine WL.neqE0 ?_ | refine WL.neqE1 ?_ | refine WL.eqlE0 ?_ | refine WL.eqlE1 ?_ | refine WL.item0 ?_ | refine WL.item ?_ | refine WL.itemsNil ?_ | refine WL.itemsTo ?_ | refine WL.itemsFrom ?_ | refine WL.yesA ?_ | refine WL.noA ?_ | refine WL.noUA ?_ | refine WC.seq ?_ | refine WC.region fun K hK => ?_ | refine WC.block ?_ | refine WC.skip ?_ | refine WC.exit ?_ | refine WC.ret ?_ | (refine WL.nil (hK _ _ ?_); clear hK K) | refine WX.then_n ?_ | refine WX.then_x ?_ | refine WX.then_r ?_ | refine WX.block_n ?_ | refine WX.block_r ?_ | refine WX.block_x ?_ | refine WX.block_oA ?_ )
  refine WL.step (OpV.loadK (cs := itC x) tyItem rfl (itC_len _) (fun j u hu => by rw [Nat.zero_add]; exact hb1.cell hu)) rfl ?_
  refine WL.lit (xs := [.tmp 8]) (vs := [itV x]) unItems tyItem rfl rfl (by simp [itC, Value.cells]) rfl rfl (by omega) fun w2 hg2 hb2 hz2 => ?_
  have hB2 := below_of_grown hg2
  have hr2 : RowOf itC 2 w2 (some ⟨w1.heap.size, 0, none⟩) 1 (lf [x]) := hb2.toRow (enc := itC) (k := 2) (f := lf [x]) 0 fun i hi j u hu => by
    obtain rfl : i = 0 := by omega
    rw [show lf [x] 0 = x from rfl] at hu
    simpa [itC, Value.cells] using hu
  with_reducible repeat (first | refine WL.move ?_ | refine WL.assign ?_ | refine WL.ldKey ?_ | refine WL.ldId ?_ | refine WL.ldIt ?_ | refine WL.itemAddrN ?_ | refine WL.itemAddrP ?_ | refine WL.itemAddrM ?_ | refine WL.toU ?_ | refine WL.shr1 ?_ | refine WL.toI ?_ | refine WL.sub1N ?_ | refine WL.subN ?_ | refine WL.neqItem ?_ | refine WL.eqIt ?_ | refine WL.eqBool ?_ | refine WL.neqBool ?_ | refine WL.quoN ?_ | refine WL.quo2N ?_ | refine WL.lss ?_ | refine WL.leq ?_ | refine WL.gtr ?_ | refine WL.geq ?_ | refine WL.add ?_ | refine WL.sub ?_ | refine WL.mul ?_ | refine WL.quo ?_ | refine WL.rem ?_ | refine WL.eqlI ?_ | refine WL.neqI ?_ | refine WL.not ?_ | refine WL.pick_t ?_ | refine WL.pick_f ?_ | refine WL.extract ?_ | refine WL.lenItems ?_ | refine WL.errI ?_ | refine WL.keyAddr ?_ | refine WL.idAddr ?_ | refine WL.itemAddr ?_ | refine WL.neqE0 ?_ | refine WL.neqE1 ?_ | refine WL.eqlE0 ?_ | refine WL.eqlE1 ?_ | refine WL.item0 ?_ | refine WL.item ?_ | refine WL.itemsNil ?_ | refine WL.itemsTo ?_ | refine WL.itemsFrom ?_ | refine WL.yesA ?_ | refine WL.noA ?_ | refine WL.noUA ?_ | refine WC.seq ?_ | refine WC.region fun K hK => ?_ | refine WC.block ?_ | refine WC.skip ?_ | refine WC.exit ?_ | refine WC.ret ?_ | (refine WL.nil (hK _ _ ?_); clear hK K) | refine WX.then_n ?_ | refine WX.then_x ?_ | refine WX.then_r ?_ | refine WX.block_n ?_ | refine WX.block_r ?_ | refine WX.block_x ?_ | refine WX.block_oA ?_ )
  refine WL.call (OpC.static Tryd.func16 (by kernel_rfl) rfl rfl) rfl (check_any _ 1 1 _ _ hr2) ?_
  rintro v w3 ⟨rfl, hB3⟩
  have hB03 := hB1.tr (hB2.tr hB3)
  have hS3 := hS.below hB03
  have hC3 := Chg.of_below hB03 hS.lt
  have hb3 := (hb1.below hB2).below hB3
  by_cases he : itemsErr 1 (lf [x]) ≠ 0
  · rw [errP_ he]
    with_reducible repeat (first | refine WL.move ?_ | refine WL.assign ?_ | refine WL.ldKey ?_ | refine WL.ldId ?_ | refine WL.ldIt ?_ | refine WL.itemAddrN ?_ | refine WL.itemAddrP ?_ | refine WL.itemAddrM ?_ | refine WL.toU ?_ | refine WL.shr1 ?_ | refine WL.toI ?_ | refine WL.sub1N ?_ | refine WL.subN ?_ | refine WL.neqItem ?_ | refine WL.eqIt ?_ | refine WL.eqBool ?_ | refine WL.neqBool ?_ | refine WL.quoN ?_ | refine WL.quo2N ?_ | refine WL.lss ?_ | refine WL.leq ?_ | refine WL.gtr ?_ | refine WL.geq ?_ | refine WL.add ?_ | refine WL.sub ?_ | refine WL.mul ?_ | refine WL.quo ?_ | refine WL.rem ?_ | refine WL.eqlI ?_ | refine WL.neqI ?_ | refine WL.not ?_ | refine WL.pick_t ?_ | refine WL.pick_f ?_ | refine WL.extract ?_ | refine WL.lenItems ?_ | refine WL.errI ?_ | refine WL.keyAddr ?_ | refine WL.idAddr ?_ | refine WL.itemAddr ?_ | refine WL.neqE0 ?_ | refine WL.neqE1 ?_ | refine WL.eqlE0 ?_ | refine WL.eqlE1 ?_ | refine WL.item0 ?_ | refine WL.item ?_ | refine WL.itemsNil ?_ | refine WL.itemsTo ?_ | refine WL.itemsFrom ?_ | refine WL.yesA ?_ | refine WL.noA ?_ | refine WL.noUA ?_ | refine WC.seq ?_ | refine WC.region fun K hK => ?_ | refine WC.block ?_ | refine WC.skip ?_ | refine WC.exit ?_ | refine WC.ret ?_ | (refine WL.nil (hK _ _ ?_); clear hK K) | refine WX.then_n ?_ | refine WX.then_x ?_ | refine WX.then_r ?_ | refine WX.block_n ?_ | refine WX.block_r ?_ | refine WX.block_x ?_ | refine WX.block_oA ?_ )
    refine WC.cond_true rfl ?_
    with_reducible repeat (first | refine WL.move ?_ | refine WL.assign ?_ | refine WL.ldKey ?_ | refine WL.ldId ?_ | refine WL.ldIt ?_ | refine WL.itemAddrN ?_ | refine WL.itemAddrP ?_ | refine WL.itemAddrM ?_ | refine WL.toU ?_ | refine WL.shr1 ?_ | refine WL.toI ?_ | refine WL.sub1N ?_ | refine WL.subN ?_ | refine WL.neqItem ?_ | refine WL.eqIt ?_ | refine WL.eqBool ?_ | refine WL.neqBool ?_ | refine WL.quoN ?_ | refine WL.quo2N ?_ | refine WL.lss ?_ | refine WL.leq ?_ | refine WL.gtr ?_ | refine WL.geq ?_ | refine WL.add ?_ | refine WL.sub ?_ | refine WL.mul ?_ | refine WL.quo ?_ | refine WL.rem ?_ | refine WL.eqlI ?_ | refine WL.neqI ?_ | refine WL.not ?_ | refine WL.pick_t ?_ | refine WL.pick_f ?_ | refine WL.extract ?_ | refine WL.lenItems ?_ | refine WL.errI ?_ | refine WL.keyAddr ?_ | refine WL.idAddr ?_ | refine WL.itemAddr ?_ | refine WL.neqE0 ?_ | refine WL.neqE1 ?_ | refine WL.eqlE0 ?_ | refine WL.eqlE1 ?_ | refine WL.item0 ?_ | refine WL.item ?_ | refine WL.itemsNil ?_ | refine WL.itemsTo ?_ | refine WL.itemsFrom ?_ | refine WL.yesA ?_ | refine WL.noA ?_ | refine WL.noUA ?_ | refine WC.seq ?_ | refine WC.region fun K hK => ?_ | refine WC.block ?_ | refine WC.skip ?_ | refine WC.exit ?_ | refine WC.ret ?_ | (refine WL.nil (hK _ _ ?_); clear hK K) | refine WX.then_n ?_ | refine WX.then_x ?_ | refine WX.then_r ?_ | refine WX.block_n ?_ | refine WX.block_r ?_ | refine WX.block_x ?_ | refine WX.block_oA ?_ )
    rw [← errP_ he]
    exact WX.ret1 rfl rfl ⟨fun _ => ⟨rfl, hS3, hC3⟩, fun h => absurd h he, fun h => absurd h he⟩
  replace he : itemsErr 1 (lf [x]) = 0 := Decidable.of_not_not he
  rw [he, errZ_]
  clear hB1 hB2 hB3 hr2 hb2 hb1
  obtain ⟨tv, gs, Ff, k1, k2, k3, k4, k5, k6, k7, k8⟩ := hS3.is
  with_reducible repeat (first | refine WL.move ?_ | refine WL.assign ?_ | refine WL.ldKey ?_ | refine WL.ldId ?_ | refine WL.ldIt ?_ | refine WL.itemAddrN ?_ | refine WL.itemAddrP ?_ | refine WL.itemAddrM ?_ | refine WL.toU ?_ | refine WL.shr1 ?_ | refine WL.toI ?_ | refine WL.sub1N ?_ | refine WL.subN ?_ | refine WL.neqItem ?_ | refine WL.eqIt ?_ | refine WL.eqBool ?_ | refine WL.neqBool ?_ | refine WL.quoN ?_ | refine WL.quo2N ?_ | refine WL.lss ?_ | refine WL.leq ?_ | refine WL.gtr ?_ | refine WL.geq ?_ | refine WL.add ?_ | refine WL.sub ?_ | refine WL.mul ?_ | refine WL.quo ?_ | refine WL.rem ?_ | refine WL.eqlI ?_ | refine WL.neqI ?_ | refine WL.not ?_ | refine WL.pick_t ?_ | refine WL.pick_f ?_ | refine WL.extract ?_ | refine WL.lenItems ?_ | refine WL.errI ?_ | refine WL.keyAddr ?_ | refine WL.idAddr ?_ | refine WL.itemAddr ?_ | refine WL.neqE0 ?_ | refine WL.neqE1 ?_ | refine WL.eqlE0 ?_ | refine WL.eqlE1 ?_ | refine WL.item0 ?_ | refine WL.item ?_ | refine WL.itemsNil ?_ | refine WL.itemsTo ?_ | refine WL.itemsFrom ?_ | refine WL.yesA ?_ | refine WL.noA ?_ | refine WL.noUA ?_ | refine WC.seq ?_ | refine WC.region fun K hK => ?_ | refine WC.block ?_ | refine WC.skip ?_ | refine WC.exit ?_ | refine WC.ret ?_ | (refine WL.nil (hK _ _ ?_); clear hK K) | refine WX.then_n ?_ | refine WX.then_x ?_ | refine WX.then_r ?_ | refine WX.block_n ?_ | refine WX.block_r ?_ | refine WX.block_x ?_ | refine WX.block_oA ?_ )
  refine WC.cond_false rfl ?_
  with_reducible repeat (first | refine WL.move ?_ | refine WL.assign ?_ | refine WL.ldKey ?_ | refine WL.ldId ?_ | refine WL.ldIt ?_ | refine WL.itemAddrN ?_ | refine WL.itemAddrP ?_ | refine WL.itemAddrM ?_ | refine WL.toU ?_ | refine WL.shr1 ?_ | refine WL.toI ?_ | refine WL.sub1N ?_ | refine WL.subN ?_ | refine WL.neqItem ?_ | refine WL.eqIt ?_ | refine WL.eqBool ?_ | refine WL.neqBool ?_ | refine WL.quoN ?_ | refine WL.quo2N ?_ | refine WL.lss ?_ | refine WL.leq ?_ | refine WL.gtr ?_ | refine WL.geq ?_ | refine WL.add ?_ | refine WL.sub ?_ | refine WL.mul ?_ | refine WL.quo ?_ | refine WL.rem ?_ | refine WL.eqlI ?_ | refine WL.neqI ?_ | refine WL.not ?_ | refine WL.pick_t ?_ | refine WL.pick_f ?_ | refine WL.extract ?_ | refine WL.lenItems ?_ | refine WL.errI ?_ | refine WL.keyAddr ?_ | refine WL.idAddr ?_ | refine WL.itemAddr ?_ | refine WL.neqE0 ?_ | refine WL.neqE1 ?_ | refine WL.eqlE0 ?_ | refine WL.eqlE1 ?_ | refine WL.item0 ?_ | refine WL.item ?_ | refine WL.itemsNil ?_ | refine WL.itemsTo ?_ | refine WL.itemsFrom ?_ | refine WL.yesA ?_ | refine WL.noA ?_ | refine WL.noUA ?_ | refine WC.seq ?_ | refine WC.region fun K hK => ?_ | refine WC.block ?_ | refine WC.skip ?_ | refine WC.exit ?_ | refine WC.ret ?_ | (refine WL.nil (hK _ _ ?_); clear hK K) | refine WX.then_n ?_ | refine WX.then_x ?_ | refine WX.then_r ?_ | refine WX.block_n ?_ | refine WX.block_r ?_ | refine WX.block_x ?_ | refine WX.block_oA ?_ | refine WL.st_s0 ?_ | refine WL.st_s1 ?_ | refine WL.st_s2 ?_ | refine WL.st_s3 ?_ | refine WL.st_s4 ?_ | refine WL.st_s5 ?_ | refine WL.nilP ?_ | refine WL.ldn_k ?_ | refine WL.ldn_r ?_ | refine WL.ldn_w ?_ | refine WL.ldn_i ?_ | refine WL.ldn_l ?_ | refine WL.ldn_g ?_ | refine WL.elLen_s ?_ | refine WL.elAddrN_s ?_ | refine WL.st_sh0 ?_ | refine WL.st_sh1 ?_ | refine WL.st_sh2 ?_ | refine WL.ldh_r ?_ | refine WL.ldh_p ?_ | refine WL.ldh_t ?_ | refine WL.eqQ ?_ | refine WL.neQ ?_)
  refine WC.condD rfl (fun h => ?_) (fun h => ?_)
  · with_reducible repeat (first | refine WL.move ?_ | refine WL.assign ?_ | refine WL.ldKey ?_ | refine WL.ldId ?_ | refine WL.ldIt ?_ | refine WL.itemAddrN ?_ | refine WL.itemAddrP ?_ | refine WL.itemAddrM ?_ | refine WL.toU ?_ | refine WL.shr1 ?_ | refine WL.toI ?_ | refine WL.sub1N ?_ | refine WL.subN ?_ | refine WL.neqItem ?_ | refine WL.eqIt ?_ | refine WL.eqBool ?_ | refine WL.neqBool ?_ | refine WL.quoN ?_ | refine WL.quo2N ?_ | refine WL.lss ?_ | refine WL.leq ?_ | refine WL.gtr ?_ | refine WL.geq ?_ | refine WL.add ?_ | refine WL.sub ?_ | refine WL.mul ?_ | refine WL.quo ?_ | refine WL.rem ?_ | refine WL.eqlI ?_ | refine WL.neqI ?_ | refine WL.not ?_ | refine WL.pick_t ?_ | refine WL.pick_f ?_ | refine WL.extract ?_ | refine WL.lenItems ?_ | refine WL.errI ?_ | refine WL.keyAddr ?_ | refine WL.idAddr ?_ | refine WL.itemAddr ?_ | refine WL.neqE0 ?_ | refine WL.neqE1 ?_ | refine WL.eqlE0 ?_ | refine WL.eqlE1 ?_ | refine WL.item0 ?_ | refine WL.item ?_ | refine WL.itemsNil ?_ | refine WL.itemsTo ?_ | refine WL.itemsFrom ?_ | refine WL.yesA ?_ | refine WL.noA ?_ | refine WL.noUA ?_ | refine WC.seq ?_ | refine WC.region fun K hK => ?_ | refine WC.block ?_ | refine WC.skip ?_ | refine WC.exit ?_ | refine WC.ret ?_ | (refine WL.nil (hK _ _ ?_); clear hK K) | refine WX.then_n ?_ | refine WX.then_x ?_ | refine WX.then_r ?_ | refine WX.block_n ?_ | refine WX.block_r ?_ | refine WX.block_x ?_ | refine WX.block_oA ?_ )
    exact WX.ret1 rfl rfl ⟨fun h => absurd he h, fun _ _ => ⟨rfl, hS3, hC3⟩, fun _ h4 => absurd (by omega) h4⟩
  have hn4 : n ≠ 400 := by omega
  clear h
  with_reducible repeat (first | refine WL.move ?_ | refine WL.assign ?_ | refine WL.ldKey ?_ | refine WL.ldId ?_ | refine WL.ldIt ?_ | refine WL.itemAddrN ?_ | refine WL.itemAddrP ?_ | refine WL.itemAddrM ?_ | refine WL.toU ?_ | refine WL.shr1 ?_ | refine WL.toI ?_ | refine WL.sub1N ?_ | refine WL.subN ?_ | refine WL.neqItem ?_ | refine WL.eqIt ?_ | refine WL.eqBool ?_ | refine WL.neqBool ?_ | refine WL.quoN ?_ | refine WL.quo2N ?_ | refine WL.lss ?_ | refine WL.leq ?_ | refine WL.gtr ?_ | refine WL.geq ?_ | refine WL.add ?_ | refine WL.sub ?_ | refine WL.mul ?_ | refine WL.quo ?_ | refine WL.rem ?_ | refine WL.eqlI ?_ | refine WL.neqI ?_ | refine WL.not ?_ | refine WL.pick_t ?_ | refine WL.pick_f ?_ | refine WL.extract ?_ | refine WL.lenItems ?_ | refine WL.errI ?_ | refine WL.keyAddr ?_ | refine WL.idAddr ?_ | refine WL.itemAddr ?_ | refine WL.neqE0 ?_ | refine WL.neqE1 ?_ | refine WL.eqlE0 ?_ | refine WL.eqlE1 ?_ | refine WL.item0 ?_ | refine WL.item ?_ | refine WL.itemsNil ?_ | refine WL.itemsTo ?_ | refine WL.itemsFrom ?_ | refine WL.yesA ?_ | refine WL.noA ?_ | refine WL.noUA ?_ | refine WC.seq ?_ | refine WC.region fun K hK => ?_ | refine WC.block ?_ | refine WC.skip ?_ | refine WC.exit ?_ | refine WC.ret ?_ | (refine WL.nil (hK _ _ ?_); clear hK K) | refine WX.then_n ?_ | refine WX.then_x ?_ | refine WX.then_r ?_ | refine WX.block_n ?_ | refine WX.block_r ?_ | refine WX.block_x ?_ | refine WX.block_oA ?_ | refine WL.st_s0 ?_ | refine WL.st_s1 ?_ | refine WL.st_s2 ?_ | refine WL.st_s3 ?_ | refine WL.st_s4 ?_ | refine WL.st_s5 ?_ | refine WL.nilP ?_ | refine WL.ldn_k ?_ | refine WL.ldn_r ?_ | refine WL.ldn_w ?_ | refine WL.ldn_i ?_ | refine WL.ldn_l ?_ | refine WL.ldn_g ?_ | refine WL.elLen_s ?_ | refine WL.elAddrN_s ?_ | refine WL.st_sh0 ?_ | refine WL.st_sh1 ?_ | refine WL.st_sh2 ?_ | refine WL.ldh_r ?_ | refine WL.ldh_p ?_ | refine WL.ldh_t ?_ | refine WL.eqQ ?_ | refine WL.neQ ?_)
  refine WL.storeIn rfl rfl k1 (by simp [shC]) fun w4 hg4 hb4 hz4 => ?_
  replace hb4 : Bk w4 hp TSH (shC R (n + 1) tv) := by
    unfold shC; rw [show ((n + 1 : Nat) : Int) = (n : Int) + 1 from by omega]; exact hb4
  have k2' := k2.keep hg4 (.inr k6)
  have k3' := k3.other hg4.size fun y hy => hg4.block y (hS3.lt y (k5 y hy)) fun e => k7 (by injection e with e; subst e; exact hy)
  have hC4 := hC3.trans (Chg.of_grown hg4 hS3.own hS3.lt)
  have hl4 : ∀ y, F y → y < w4.heap.size := fun y hy => (hC4.next y hy).2
  have hbx4 := hb3.keep hg4 (fun e => by injection e with e; have := hS.lt hp hS.own; omega)
  -- the new node
  with_reducible repeat (first | refine WL.move ?_ | refine WL.assign ?_ | refine WL.ldKey ?_ | refine WL.ldId ?_ | refine WL.ldIt ?_ | refine WL.itemAddrN ?_ | refine WL.itemAddrP ?_ | refine WL.itemAddrM ?_ | refine WL.toU ?_ | refine WL.shr1 ?_ | refine WL.toI ?_ | refine WL.sub1N ?_ | refine WL.subN ?_ | refine WL.neqItem ?_ | refine WL.eqIt ?_ | refine WL.eqBool ?_ | refine WL.neqBool ?_ | refine WL.quoN ?_ | refine WL.quo2N ?_ | refine WL.lss ?_ | refine WL.leq ?_ | refine WL.gtr ?_ | refine WL.geq ?_ | refine WL.add ?_ | refine WL.sub ?_ | refine WL.mul ?_ | refine WL.quo ?_ | refine WL.rem ?_ | refine WL.eqlI ?_ | refine WL.neqI ?_ | refine WL.not ?_ | refine WL.pick_t ?_ | refine WL.pick_f ?_ | refine WL.extract ?_ | refine WL.lenItems ?_ | refine WL.errI ?_ | refine WL.keyAddr ?_ | refine WL.idAddr ?_ | refine WL.itemAddr ?_ | refine WL.neqE0 ?_ | refine WL.neqE1 ?_ | refine WL.eqlE0 ?_ | refine WL.eqlE1 ?_ | refine WL.item0 ?_ | refine WL.item ?_ | refine WL.itemsNil ?_ | refine WL.itemsTo ?_ | refine WL.itemsFrom ?_ | refine WL.yesA ?_ | refine WL.noA ?_ | refine WL.noUA ?_ | refine WC.seq ?_ | refine WC.region fun K hK => ?_ | refine WC.block ?_ | refine WC.skip ?_ | refine WC.exit ?_ | refine WC.ret ?_ | (refine WL.nil (hK _ _ ?_); clear hK K) | refine WX.then_n ?_ | refine WX.then_x ?_ | refine WX.then_r ?_ | refine WX.block_n ?_ | refine WX.block_r ?_ | refine WX.block_x ?_ | refine WX.block_oA ?_ )
  refine WL.ldCI (g := w.heap.size) (j := 0) (u := .int .i64 x.1) ?_
  with_reducible repeat (first | refine WL.move ?_ | refine WL.assign ?_ | refine WL.ldKey ?_ | refine WL.ldId ?_ | refine WL.ldIt ?_ | refine WL.itemAddrN ?_ | refine WL.itemAddrP ?_ | refine WL.itemAddrM ?_ | refine WL.toU ?_ | refine WL.shr1 ?_ | refine WL.toI ?_ | refine WL.sub1N ?_ | refine WL.subN ?_ | refine WL.neqItem ?_ | refine WL.eqIt ?_ | refine WL.eqBool ?_ | refine WL.neqBool ?_ | refine WL.quoN ?_ | refine WL.quo2N ?_ | refine WL.lss ?_ | refine WL.leq ?_ | refine WL.gtr ?_ | refine WL.geq ?_ | refine WL.add ?_ | refine WL.sub ?_ | refine WL.mul ?_ | refine WL.quo ?_ | refine WL.rem ?_ | refine WL.eqlI ?_ | refine WL.neqI ?_ | refine WL.not ?_ | refine WL.pick_t ?_ | refine WL.pick_f ?_ | refine WL.extract ?_ | refine WL.lenItems ?_ | refine WL.errI ?_ | refine WL.keyAddr ?_ | refine WL.idAddr ?_ | refine WL.itemAddr ?_ | refine WL.neqE0 ?_ | refine WL.neqE1 ?_ | refine WL.eqlE0 ?_ | refine WL.eqlE1 ?_ | refine WL.item0 ?_ | refine WL.item ?_ | refine WL.itemsNil ?_ | refine WL.itemsTo ?_ | refine WL.itemsFrom ?_ | refine WL.yesA ?_ | refine WL.noA ?_ | refine WL.noUA ?_ | refine WC.seq ?_ | refine WC.region fun K hK => ?_ | refine WC.block ?_ | refine WC.skip ?_ | refine WC.exit ?_ | refine WC.ret ?_ | (refine WL.nil (hK _ _ ?_); clear hK K) | refine WX.then_n ?_ | refine WX.then_x ?_ | refine WX.then_r ?_ | refine WX.block_n ?_ | refine WX.block_r ?_ | refine WX.block_x ?_ | refine WX.block_oA ?_ )
  refine WL.step (OpV.loadK (cs := itC x) tyItem rfl (itC_len _) (fun j u hu => by rw [Nat.zero_add]; exact hbx4.cell hu)) rfl ?_
  refine WL.lit (xs := [.tmp 29]) (vs := [itV x]) unItems tyItem rfl rfl (by simp [itC, Value.cells]) rfl rfl (by omega) fun w5 hg5 hb5 hz5 => ?_
  have hB5 := below_of_grown hg5
  with_reducible repeat (first | refine WL.move ?_ | refine WL.assign ?_ | refine WL.ldKey ?_ | refine WL.ldId ?_ | refine WL.ldIt ?_ | refine WL.itemAddrN ?_ | refine WL.itemAddrP ?_ | refine WL.itemAddrM ?_ | refine WL.toU ?_ | refine WL.shr1 ?_ | refine WL.toI ?_ | refine WL.sub1N ?_ | refine WL.subN ?_ | refine WL.neqItem ?_ | refine WL.eqIt ?_ | refine WL.eqBool ?_ | refine WL.neqBool ?_ | refine WL.quoN ?_ | refine WL.quo2N ?_ | refine WL.lss ?_ | refine WL.leq ?_ | refine WL.gtr ?_ | refine WL.geq ?_ | refine WL.add ?_ | refine WL.sub ?_ | refine WL.mul ?_ | refine WL.quo ?_ | refine WL.rem ?_ | refine WL.eqlI ?_ | refine WL.neqI ?_ | refine WL.not ?_ | refine WL.pick_t ?_ | refine WL.pick_f ?_ | refine WL.extract ?_ | refine WL.lenItems ?_ | refine WL.errI ?_ | refine WL.keyAddr ?_ | refine WL.idAddr ?_ | refine WL.itemAddr ?_ | refine WL.neqE0 ?_ | refine WL.neqE1 ?_ | refine WL.eqlE0 ?_ | refine WL.eqlE1 ?_ | refine WL.item0 ?_ | refine WL.item ?_ | refine WL.itemsNil ?_ | refine WL.itemsTo ?_ | refine WL.itemsFrom ?_ | refine WL.yesA ?_ | refine WL.noA ?_ | refine WL.noUA ?_ | refine WC.seq ?_ | refine WC.region fun K hK => ?_ | refine WC.block ?_ | refine WC.skip ?_ | refine WC.exit ?_ | refine WC.ret ?_ | (refine WL.nil (hK _ _ ?_); clear hK K) | refine WX.then_n ?_ | refine WX.then_x ?_ | refine WX.then_r ?_ | refine WX.block_n ?_ | refine WX.block_r ?_ | refine WX.block_x ?_ | refine WX.block_oA ?_ )
  refine WL.step (OpV.mkO_s rfl rfl) rfl ?_
  refine WL.boxOp rfl rfl fun w6 hg6 hb6 hz6 => ?_
  have hB6 := below_of_grown hg6
  have hB56 := hB5.tr hB6
  have hs46 := hB56.size
  replace hb6 : Bk w6 w5.heap.size TS (nC x.1 0 1 (.slice (some ⟨w4.heap.size, 0, none⟩) 1 1) none none) := hb6
  have ho6 : OwnO itC 2 30 w6 0 (.slice (some ⟨w4.heap.size, 0, none⟩) 1 1) [x] := ((OwnL.lit (l := [x]) itC_len hb5 (Nat.zero_le _) (by simp [maxLen]) rfl).toO itC_len).below hB6
  have hN6 : SN w6 w5.heap.size x.1 0 1 [x] (.slice (some ⟨w4.heap.size, 0, none⟩) 1 1) none none (fun _ => False) (fun _ => False) (fun y => y = w5.heap.size ∨ y = w4.heap.size) := by
    refine ⟨hb6, ho6, fun y hy => by omega, .inl rfl, fun y hy => ?_, fun y hy => hy.elim, fun y hy => hy.elim, fun e => ?_, fun h => h, fun h => h, fun y _ h => h, fun y _ h => h, fun y h => h.elim⟩
    · simp [Value.ownBlock] at hy; exact .inr hy.symm
    · simp [Value.ownBlock] at e; omega
  have k1' := hb4.below hB56
  have hJ : PJ w w6 hp R (n + 1) tv gs ts out F 0 (Sf.one x) w5.heap.size (fun y => y = w5.heap.size ∨ y = w4.heap.size) Ff := by
    refine ⟨k1', k2'.below hB56, ⟨_, _, none, none, _, _, rfl, hN6, rfl, rfl⟩, (k3'.other hB56.size fun y hy => hB56.block y (hl4 y (k5 y hy))), hN6.lt, fun y hy => Nat.lt_of_lt_of_le (hl4 y (k5 y hy)) hs46, fun y hy hf => ?_, fun hy => ?_, k7, fun y hy hf => ?_, k8, k5, ?_, hout, Nat.zero_le _, Sf.one_good R x, by have := hst.many; simp [Sf.one, Sf.T.all]; omega⟩
    · have := hl4 y (k5 y hf); omega
    · have := hl4 hp hS3.own; omega
    · have := hl4 y (k4 y hy); omega
    · refine hC4.trans ⟨hB56.os, hB56.tape, hB56.output, hB56.size, fun y hy _ => hB56.block y hy, fun y hy => ?_⟩
      rcases hy with hy | hy
      · exact ⟨.inl hy, Nat.lt_of_lt_of_le (hl4 y hy) hs46⟩
      · exact ⟨.inr (by omega), hN6.lt y hy⟩
  have hgl := k3.len
  obtain ⟨A, c, rfl, hc⟩ := k2.form
  clear hb3 hbx4 hb4 hb5 hb6 k1 k2 k3 k1' k2' k3' hN6 ho6 hB5 hB6 hB56 hC4 hl4 hC3 hS3 hg4 hg5 hg6 hB03
  rw [hgl] at k4 k6 k8 hJ hc
  with_reducible repeat (first | refine WL.move ?_ | refine WL.assign ?_ | refine WL.ldKey ?_ | refine WL.ldId ?_ | refine WL.ldIt ?_ | refine WL.itemAddrN ?_ | refine WL.itemAddrP ?_ | refine WL.itemAddrM ?_ | refine WL.toU ?_ | refine WL.shr1 ?_ | refine WL.toI ?_ | refine WL.sub1N ?_ | refine WL.subN ?_ | refine WL.neqItem ?_ | refine WL.eqIt ?_ | refine WL.eqBool ?_ | refine WL.neqBool ?_ | refine WL.quoN ?_ | refine WL.quo2N ?_ | refine WL.lss ?_ | refine WL.leq ?_ | refine WL.gtr ?_ | refine WL.geq ?_ | refine WL.add ?_ | refine WL.sub ?_ | refine WL.mul ?_ | refine WL.quo ?_ | refine WL.rem ?_ | refine WL.eqlI ?_ | refine WL.neqI ?_ | refine WL.not ?_ | refine WL.pick_t ?_ | refine WL.pick_f ?_ | refine WL.extract ?_ | refine WL.lenItems ?_ | refine WL.errI ?_ | refine WL.keyAddr ?_ | refine WL.idAddr ?_ | refine WL.itemAddr ?_ | refine WL.neqE0 ?_ | refine WL.neqE1 ?_ | refine WL.eqlE0 ?_ | refine WL.eqlE1 ?_ | refine WL.item0 ?_ | refine WL.item ?_ | refine WL.itemsNil ?_ | refine WL.itemsTo ?_ | refine WL.itemsFrom ?_ | refine WL.yesA ?_ | refine WL.noA ?_ | refine WL.noUA ?_ | refine WC.seq ?_ | refine WC.region fun K hK => ?_ | refine WC.block ?_ | refine WC.skip ?_ | refine WC.exit ?_ | refine WC.ret ?_ | (refine WL.nil (hK _ _ ?_); clear hK K) | refine WX.then_n ?_ | refine WX.then_x ?_ | refine WX.then_r ?_ | refine WX.block_n ?_ | refine WX.block_r ?_ | refine WX.block_x ?_ | refine WX.block_oA ?_ )
  refine WC.loopE4 (fun (j : Nat) (g : Nat) (cur : Sf.T) (_ : (Nat → Prop) × (Nat → Prop)) => [(0, ptV hp), (6, ptV g), (7, .int .i64 (j : Nat))]) (fun j g cur FF q wr => q = ts.length - j ∧ PJ w wr hp R (n + 1) (.slice A ts.length c) gs ts out F j cur g FF.1 FF.2) ts.length 0 w5.heap.size (Sf.one x) (_, Ff) ⟨rfl, hJ⟩ Sub.auto ?_
  clear hJ
  rintro j g cur ⟨Fc, Fr⟩ q wr ⟨rfl, hJ⟩
  have hrow := hJ.own.toRow
  obtain ⟨hgn, hcl, hrow⟩ := hrow
  have hbk := hJ.blk
  have hle := hJ.le
  obtain ⟨vc, plc, prc, Flc, Frc, hNc, _, _, hcn⟩ := hJ.cur.bk
  have hbc := hNc.blk
  have hlF : ∀ y, (F y ∨ Fc y) → y < wr.heap.size := fun y hy => (hJ.chg.next y hy).2
  have hstay : ∀ w2, Below wr.heap.size wr w2 → PJ w w2 hp R (n + 1) (.slice A ts.length c) gs ts out F j cur g Fc Fr := fun w2 hB2 =>
    ⟨hbk.below hB2, hJ.own.below hB2, hJ.cur.below hJ.ltc hB2, hJ.rest.other hB2.size (fun y hy => hB2.block y (hJ.ltr y hy)), fun y hy => Nat.lt_of_lt_of_le (hJ.ltc y hy) hB2.size, fun y hy => Nat.lt_of_lt_of_le (hJ.ltr y hy) hB2.size, hJ.apart, hJ.hc, hJ.hr, hJ.vc, hJ.vr, hJ.sub, hJ.chg.trans (Chg.of_below hB2 hlF), hJ.car, hJ.le, hJ.good, hJ.many⟩
  with_reducible repeat (first | refine WL.move ?_ | refine WL.assign ?_ | refine WL.ldKey ?_ | refine WL.ldId ?_ | refine WL.ldIt ?_ | refine WL.itemAddrN ?_ | refine WL.itemAddrP ?_ | refine WL.itemAddrM ?_ | refine WL.toU ?_ | refine WL.shr1 ?_ | refine WL.toI ?_ | refine WL.sub1N ?_ | refine WL.subN ?_ | refine WL.neqItem ?_ | refine WL.eqIt ?_ | refine WL.eqBool ?_ | refine WL.neqBool ?_ | refine WL.quoN ?_ | refine WL.quo2N ?_ | refine WL.lss ?_ | refine WL.leq ?_ | refine WL.gtr ?_ | refine WL.geq ?_ | refine WL.add ?_ | refine WL.sub ?_ | refine WL.mul ?_ | refine WL.quo ?_ | refine WL.rem ?_ | refine WL.eqlI ?_ | refine WL.neqI ?_ | refine WL.not ?_ | refine WL.pick_t ?_ | refine WL.pick_f ?_ | refine WL.extract ?_ | refine WL.lenItems ?_ | refine WL.errI ?_ | refine WL.keyAddr ?_ | refine WL.idAddr ?_ | refine WL.itemAddr ?_ | refine WL.neqE0 ?_ | refine WL.neqE1 ?_ | refine WL.eqlE0 ?_ | refine WL.eqlE1 ?_ | refine WL.item0 ?_ | refine WL.item ?_ | refine WL.itemsNil ?_ | refine WL.itemsTo ?_ | refine WL.itemsFrom ?_ | refine WL.yesA ?_ | refine WL.noA ?_ | refine WL.noUA ?_ | refine WC.seq_s ?_ | refine WC.seq_r ?_ | refine WC.seq_b ?_ | refine WC.seq_t ?_ | refine WC.seq_k ?_ | refine WC.seq_e ?_ | refine WC.seq_l ?_ | refine WC.region fun K hK => ?_ | refine WC.block ?_ | refine WC.skip ?_ | refine WC.exit ?_ | refine WC.ret ?_ | (refine WL.nil (hK _ _ ?_); clear hK K) | refine WX.then_n ?_ | refine WX.then_x ?_ | refine WX.then_r ?_ | refine WX.block_n ?_ | refine WX.block_r ?_ | refine WX.block_x ?_ | refine WX.block_oA ?_ )
  refine WC.seqE (fun (b : Bool) => [(0, ptV hp), (6, ptV g), (7, .int .i64 (j : Nat)), (56, .bool b)]) (fun b w' => PJ w w' hp R (n + 1) (.slice A ts.length c) gs ts out F j cur g Fc Fr ∧ (b = true → j < ts.length ∧ (lf ts j).rank = cur.rank) ∧ (b = false → out = cur :: ts.drop j)) ?_ ?_
  · by_cases hj : j < ts.length
    · have hd : ts.drop j = lf ts j :: ts.drop (j + 1) := by rw [List.drop_eq_getElem_cons hj, lf_get hj]
      have hdg : gs.drop j = lf gs j :: gs.drop (j + 1) := by rw [List.drop_eq_getElem_cons (by omega), lf_get (by omega)]
      have hrest := hJ.rest
      rw [hd, hdg] at hrest
      obtain ⟨g', gs', Ft, Fr', e, hT, _, _, _, _⟩ := hrest
      injection e with e _
      rw [← e] at hT
      obtain ⟨vt, plt, prt, Flt, Frt, hNt, _, _, _⟩ := hT.bk
      have hbt := hNt.blk
      obtain ⟨b0, o0, rfl, _⟩ := hrow.ne (by omega)
      refine WC.quietE mixed (by kernel_rfl) ?_
      with_reducible repeat (first | refine QL.move ?_ | refine QL.assign ?_ | refine QL.ldKey ?_ | refine QL.ldId ?_ | refine QL.ldIt ?_ | refine QL.itemAddrN ?_ | refine QL.itemAddrP ?_ | refine QL.itemAddrM ?_ | refine QL.toU ?_ | refine QL.shr1 ?_ | refine QL.toI ?_ | refine QL.sub1N ?_ | refine QL.subN ?_ | refine QL.neqItem ?_ | refine QL.eqIt ?_ | refine QL.eqBool ?_ | refine QL.neqBool ?_ | refine QL.quoN ?_ | refine QL.quo2N ?_ | refine QL.lss ?_ | refine QL.leq ?_ | refine QL.gtr ?_ | refine QL.geq ?_ | refine QL.add ?_ | refine QL.sub ?_ | refine QL.mul ?_ | refine QL.quo ?_ | refine QL.rem ?_ | refine QL.eqlI ?_ | refine QL.neqI ?_ | refine QL.not ?_ | refine QL.pick_t ?_ | refine QL.pick_f ?_ | refine QL.extract ?_ | refine QL.lenItems ?_ | refine QL.errI ?_ | refine QL.keyAddr ?_ | refine QL.idAddr ?_ | refine QL.itemAddr ?_ | refine QL.neqE0 ?_ | refine QL.neqE1 ?_ | refine QL.eqlE0 ?_ | refine QL.eqlE1 ?_ | refine QL.item0 ?_ | refine QL.item ?_ | refine QL.itemsNil ?_ | refine QL.itemsTo ?_ | refine QL.itemsFrom ?_ | refine QL.yesA ?_ | refine QL.noA ?_ | refine QL.noUA ?_ | refine QL.st_s0 ?_ | refine QL.st_s1 ?_ | refine QL.st_s2 ?_ | refine QL.st_s3 ?_ | refine QL.st_s4 ?_ | refine QL.st_s5 ?_ | refine QL.nilP ?_ | refine QL.ldn_k ?_ | refine QL.ldn_r ?_ | refine QL.ldn_w ?_ | refine QL.ldn_i ?_ | refine QL.ldn_l ?_ | refine QL.ldn_g ?_ | refine QL.elLen_s ?_ | refine QL.elAddrN_s ?_ | refine QL.st_sh0 ?_ | refine QL.st_sh1 ?_ | refine QL.st_sh2 ?_ | refine QL.ldh_r ?_ | refine QL.ldh_p ?_ | refine QL.ldh_t ?_ | refine QL.eqQ ?_ | refine QL.neQ ?_)
      rw [show decide ((j : Int) < (ts.length : Int)) = true from decide_eq_true (by omega)]
      with_reducible repeat (first | refine QL.move ?_ | refine QL.assign ?_ | refine QL.ldKey ?_ | refine QL.ldId ?_ | refine QL.ldIt ?_ | refine QL.itemAddrN ?_ | refine QL.itemAddrP ?_ | refine QL.itemAddrM ?_ | refine QL.toU ?_ | refine QL.shr1 ?_ | refine QL.toI ?_ | refine QL.sub1N ?_ | refine QL.subN ?_ | refine QL.neqItem ?_ | refine QL.eqIt ?_ | refine QL.eqBool ?_ | refine QL.neqBool ?_ | refine QL.quoN ?_ | refine QL.quo2N ?_ | refine QL.lss ?_ | refine QL.leq ?_ | refine QL.gtr ?_ | refine QL.geq ?_ | refine QL.add ?_ | refine QL.sub ?_ | refine QL.mul ?_ | refine QL.quo ?_ | refine QL.rem ?_ | refine QL.eqlI ?_ | refine QL.neqI ?_ | refine QL.not ?_ | refine QL.pick_t ?_ | refine QL.pick_f ?_ | refine QL.extract ?_ | refine QL.lenItems ?_ | refine QL.errI ?_ | refine QL.keyAddr ?_ | refine QL.idAddr ?_ | refine QL.itemAddr ?_ | refine QL.neqE0 ?_ | refine QL.neqE1 ?_ | refine QL.eqlE0 ?_ | refine QL.eqlE1 ?_ | refine QL.item0 ?_ | refine QL.item ?_ | refine QL.itemsNil ?_ | refine QL.itemsTo ?_ | refine QL.itemsFrom ?_ | refine QL.yesA ?_ | refine QL.noA ?_ | refine QL.noUA ?_ | refine QL.st_s0 ?_ | refine QL.st_s1 ?_ | refine QL.st_s2 ?_ | refine QL.st_s3 ?_ | refine QL.st_s4 ?_ | refine QL.st_s5 ?_ | refine QL.nilP ?_ | refine QL.ldn_k ?_ | refine QL.ldn_r ?_ | refine QL.ldn_w ?_ | refine QL.ldn_i ?_ | refine QL.ldn_l ?_ | refine QL.ldn_g ?_ | refine QL.elLen_s ?_ | refine QL.elAddrN_s ?_ | refine QL.st_sh0 ?_ | refine QL.st_sh1 ?_ | refine QL.st_sh2 ?_ | refine QL.ldh_r ?_ | refine QL.ldh_p ?_ | refine QL.ldh_t ?_ | refine QL.eqQ ?_ | refine QL.neQ ?_ | refine QL.ldPt ?_)
      refine QL.done fun w2 hB2 => ?_
      refine WX.meetE (decide ((lf ts j).rank = cur.rank)) ⟨hstay w2 hB2, fun h => ⟨hj, of_decide_eq_true h⟩, fun h => carry_stop hJ.car fun t r e => ?_⟩ (by rw [show decide ((lf ts j).rank = cur.rank) = decide (((lf ts j).rank : Int) = (cur.rank : Int)) from by rw [decide_eq_decide]; omega]; exact Sub.auto)
      rw [hd] at e
      injection e with e _
      subst e
      exact of_decide_eq_false h
    · refine WC.quietE mixed (by kernel_rfl) ?_
      with_reducible repeat (first | refine QL.move ?_ | refine QL.assign ?_ | refine QL.ldKey ?_ | refine QL.ldId ?_ | refine QL.ldIt ?_ | refine QL.itemAddrN ?_ | refine QL.itemAddrP ?_ | refine QL.itemAddrM ?_ | refine QL.toU ?_ | refine QL.shr1 ?_ | refine QL.toI ?_ | refine QL.sub1N ?_ | refine QL.subN ?_ | refine QL.neqItem ?_ | refine QL.eqIt ?_ | refine QL.eqBool ?_ | refine QL.neqBool ?_ | refine QL.quoN ?_ | refine QL.quo2N ?_ | refine QL.lss ?_ | refine QL.leq ?_ | refine QL.gtr ?_ | refine QL.geq ?_ | refine QL.add ?_ | refine QL.sub ?_ | refine QL.mul ?_ | refine QL.quo ?_ | refine QL.rem ?_ | refine QL.eqlI ?_ | refine QL.neqI ?_ | refine QL.not ?_ | refine QL.pick_t ?_ | refine QL.pick_f ?_ | refine QL.extract ?_ | refine QL.lenItems ?_ | refine QL.errI ?_ | refine QL.keyAddr ?_ | refine QL.idAddr ?_ | refine QL.itemAddr ?_ | refine QL.neqE0 ?_ | refine QL.neqE1 ?_ | refine QL.eqlE0 ?_ | refine QL.eqlE1 ?_ | refine QL.item0 ?_ | refine QL.item ?_ | refine QL.itemsNil ?_ | refine QL.itemsTo ?_ | refine QL.itemsFrom ?_ | refine QL.yesA ?_ | refine QL.noA ?_ | refine QL.noUA ?_ | refine QL.st_s0 ?_ | refine QL.st_s1 ?_ | refine QL.st_s2 ?_ | refine QL.st_s3 ?_ | refine QL.st_s4 ?_ | refine QL.st_s5 ?_ | refine QL.nilP ?_ | refine QL.ldn_k ?_ | refine QL.ldn_r ?_ | refine QL.ldn_w ?_ | refine QL.ldn_i ?_ | refine QL.ldn_l ?_ | refine QL.ldn_g ?_ | refine QL.elLen_s ?_ | refine QL.elAddrN_s ?_ | refine QL.st_sh0 ?_ | refine QL.st_sh1 ?_ | refine QL.st_sh2 ?_ | refine QL.ldh_r ?_ | refine QL.ldh_p ?_ | refine QL.ldh_t ?_ | refine QL.eqQ ?_ | refine QL.neQ ?_)
      rw [show decide ((j : Int) < (ts.length : Int)) = false from decide_eq_false (by omega)]
      with_reducible repeat (first | refine QL.move ?_ | refine QL.assign ?_ | refine QL.ldKey ?_ | refine QL.ldId ?_ | refine QL.ldIt ?_ | refine QL.itemAddrN ?_ | refine QL.itemAddrP ?_ | refine QL.itemAddrM ?_ | refine QL.toU ?_ | refine QL.shr1 ?_ | refine QL.toI ?_ | refine QL.sub1N ?_ | refine QL.subN ?_ | refine QL.neqItem ?_ | refine QL.eqIt ?_ | refine QL.eqBool ?_ | refine QL.neqBool ?_ | refine QL.quoN ?_ | refine QL.quo2N ?_ | refine QL.lss ?_ | refine QL.leq ?_ | refine QL.gtr ?_ | refine QL.geq ?_ | refine QL.add ?_ | refine QL.sub ?_ | refine QL.mul ?_ | refine QL.quo ?_ | refine QL.rem ?_ | refine QL.eqlI ?_ | refine QL.neqI ?_ | refine QL.not ?_ | refine QL.pick_t ?_ | refine QL.pick_f ?_ | refine QL.extract ?_ | refine QL.lenItems ?_ | refine QL.errI ?_ | refine QL.keyAddr ?_ | refine QL.idAddr ?_ | refine QL.itemAddr ?_ | refine QL.neqE0 ?_ | refine QL.neqE1 ?_ | refine QL.eqlE0 ?_ | refine QL.eqlE1 ?_ | refine QL.item0 ?_ | refine QL.item ?_ | refine QL.itemsNil ?_ | refine QL.itemsTo ?_ | refine QL.itemsFrom ?_ | refine QL.yesA ?_ | refine QL.noA ?_ | refine QL.noUA ?_ | refine QL.st_s0 ?_ | refine QL.st_s1 ?_ | refine QL.st_s2 ?_ | refine QL.st_s3 ?_ | refine QL.st_s4 ?_ | refine QL.st_s5 ?_ | refine QL.nilP ?_ | refine QL.ldn_k ?_ | refine QL.ldn_r ?_ | refine QL.ldn_w ?_ | refine QL.ldn_i ?_ | refine QL.ldn_l ?_ | refine QL.ldn_g ?_ | refine QL.elLen_s ?_ | refine QL.elAddrN_s ?_ | refine QL.st_sh0 ?_ | refine QL.st_sh1 ?_ | refine QL.st_sh2 ?_ | refine QL.ldh_r ?_ | refine QL.ldh_p ?_ | refine QL.ldh_t ?_ | refine QL.eqQ ?_ | refine QL.neQ ?_)
      refine QL.done fun w2 hB2 => ?_
      refine WX.meetE false ⟨hstay w2 hB2, fun h => (by cases h), fun _ => carry_stop hJ.car fun t r e => ?_⟩ Sub.auto
      rw [List.drop_of_length_le (by omega)] at e
      cases e
  clear hstay hlF hbc hNc hrow hgn hcl hbk hJ hle
  rintro b w2 ⟨hJ, hyes, hno⟩
  obtain ⟨hgn, hcl, hrow⟩ := hJ.own.toRow
  have hbk := hJ.blk
  have hle := hJ.le
  cases b with
  | true =>
    obtain ⟨hj, hrk⟩ := hyes rfl
    refine WC.cond_true rfl ?_
    have hd : ts.drop j = lf ts j :: ts.drop (j + 1) := by rw [List.drop_eq_getElem_cons hj, lf_get hj]
    have hdg : gs.drop j = lf gs j :: gs.drop (j + 1) := by rw [List.drop_eq_getElem_cons (by omega), lf_get (by omega)]
    have hrest := hJ.rest
    have hcar := hJ.car
    have hman := hJ.many
    rw [hd] at hcar hman
    rw [hd, hdg] at hrest
    obtain ⟨g', gs', Ft, Fr', e, hT, hR', f1, f2, f3⟩ := hrest
    injection e with e e2
    rw [← e] at hT
    rw [← e2] at hR'
    clear e e2
    obtain ⟨n', hfill, hcar'⟩ := carry_join hcar hrk
    have hmt : lf ts j ∈ ts := by rw [lf_get hj]; exact List.getElem_mem _
    have hgt := hst.good _ hmt
    have h8 := hst.ranks (m := 8) (by omega) _ hmt
    have hrk8 : (lf ts j).rank ≤ 8 := by
      revert h8
      cases lf ts j with
      | nil => intro _; exact Nat.zero_le _
      | node => intro h; exact h.1
    have hwt : (lf ts j).want ≤ 1000000 := by
      rw [hgt.want]
      have h1 := sF_le R (lf ts j).rank
      have h2 : 2 ^ (lf ts j).rank ≤ 2 ^ 8 := Nat.pow_le_pow_right (by omega) hrk8
      omega
    obtain ⟨hg', hr', hp', _⟩ := Sf.join_good hgt hJ.good hrk hfill
    have hall : Sf.allF (lf ts j :: ts.drop (j + 1)) = (lf ts j).all ++ Sf.allF (ts.drop (j + 1)) := rfl
    rw [hall, List.length_append] at hman
    obtain ⟨hok0, _⟩ := Sf.pair_ok hgt hJ.good hrk
    obtain ⟨m, hfn⟩ := Sf.fillN_of hfill rfl hok0 (by simp [Sf.pair, Sf.T.all]; omega)
    obtain ⟨b0, o0, hA0, _⟩ := hrow.ne (by omega)
    rw [hA0] at hrow
    with_reducible repeat (first | refine WL.move ?_ | refine WL.assign ?_ | refine WL.ldKey ?_ | refine WL.ldId ?_ | refine WL.ldIt ?_ | refine WL.itemAddrN ?_ | refine WL.itemAddrP ?_ | refine WL.itemAddrM ?_ | refine WL.toU ?_ | refine WL.shr1 ?_ | refine WL.toI ?_ | refine WL.sub1N ?_ | refine WL.subN ?_ | refine WL.neqItem ?_ | refine WL.eqIt ?_ | refine WL.eqBool ?_ | refine WL.neqBool ?_ | refine WL.quoN ?_ | refine WL.quo2N ?_ | refine WL.lss ?_ | refine WL.leq ?_ | refine WL.gtr ?_ | refine WL.geq ?_ | refine WL.add ?_ | refine WL.sub ?_ | refine WL.mul ?_ | refine WL.quo ?_ | refine WL.rem ?_ | refine WL.eqlI ?_ | refine WL.neqI ?_ | refine WL.not ?_ | refine WL.pick_t ?_ | refine WL.pick_f ?_ | refine WL.extract ?_ | refine WL.lenItems ?_ | refine WL.errI ?_ | refine WL.keyAddr ?_ | refine WL.idAddr ?_ | refine WL.itemAddr ?_ | refine WL.neqE0 ?_ | refine WL.neqE1 ?_ | refine WL.eqlE0 ?_ | refine WL.eqlE1 ?_ | refine WL.item0 ?_ | refine WL.item ?_ | refine WL.itemsNil ?_ | refine WL.itemsTo ?_ | refine WL.itemsFrom ?_ | refine WL.yesA ?_ | refine WL.noA ?_ | refine WL.noUA ?_ | refine WC.seq ?_ | refine WC.region fun K hK => ?_ | refine WC.block ?_ | refine WC.skip ?_ | refine WC.exit ?_ | refine WC.ret ?_ | (refine WL.nil (hK _ _ ?_); clear hK K) | refine WX.then_n ?_ | refine WX.then_x ?_ | refine WX.then_r ?_ | refine WX.block_n ?_ | refine WX.block_r ?_ | refine WX.block_x ?_ | refine WX.block_oA ?_ | refine WL.st_s0 ?_ | refine WL.st_s1 ?_ | refine WL.st_s2 ?_ | refine WL.st_s3 ?_ | refine WL.st_s4 ?_ | refine WL.st_s5 ?_ | refine WL.nilP ?_ | refine WL.ldn_k ?_ | refine WL.ldn_r ?_ | refine WL.ldn_w ?_ | refine WL.ldn_i ?_ | refine WL.ldn_l ?_ | refine WL.ldn_g ?_ | refine WL.elLen_s ?_ | refine WL.elAddrN_s ?_ | refine WL.st_sh0 ?_ | refine WL.st_sh1 ?_ | refine WL.st_sh2 ?_ | refine WL.ldh_r ?_ | refine WL.ldh_p ?_ | refine WL.ldh_t ?_ | refine WL.eqQ ?_ | refine WL.neQ ?_)
    rw [hA0]
    with_reducible repeat (first | refine WL.move ?_ | refine WL.assign ?_ | refine WL.ldKey ?_ | refine WL.ldId ?_ | refine WL.ldIt ?_ | refine WL.itemAddrN ?_ | refine WL.itemAddrP ?_ | refine WL.itemAddrM ?_ | refine WL.toU ?_ | refine WL.shr1 ?_ | refine WL.toI ?_ | refine WL.sub1N ?_ | refine WL.subN ?_ | refine WL.neqItem ?_ | refine WL.eqIt ?_ | refine WL.eqBool ?_ | refine WL.neqBool ?_ | refine WL.quoN ?_ | refine WL.quo2N ?_ | refine WL.lss ?_ | refine WL.leq ?_ | refine WL.gtr ?_ | refine WL.geq ?_ | refine WL.add ?_ | refine WL.sub ?_ | refine WL.mul ?_ | refine WL.quo ?_ | refine WL.rem ?_ | refine WL.eqlI ?_ | refine WL.neqI ?_ | refine WL.not ?_ | refine WL.pick_t ?_ | refine WL.pick_f ?_ | refine WL.extract ?_ | refine WL.lenItems ?_ | refine WL.errI ?_ | refine WL.keyAddr ?_ | refine WL.idAddr ?_ | refine WL.itemAddr ?_ | refine WL.neqE0 ?_ | refine WL.neqE1 ?_ | refine WL.eqlE0 ?_ | refine WL.eqlE1 ?_ | refine WL.item0 ?_ | refine WL.item ?_ | refine WL.itemsNil ?_ | refine WL.itemsTo ?_ | refine WL.itemsFrom ?_ | refine WL.yesA ?_ | refine WL.noA ?_ | refine WL.noUA ?_ | refine WC.seq ?_ | refine WC.region fun K hK => ?_ | refine WC.block ?_ | refine WC.skip ?_ | refine WC.exit ?_ | refine WC.ret ?_ | (refine WL.nil (hK _ _ ?_); clear hK K) | refine WX.then_n ?_ | refine WX.then_x ?_ | refine WX.then_r ?_ | refine WX.block_n ?_ | refine WX.block_r ?_ | refine WX.block_x ?_ | refine WX.block_oA ?_ | refine WL.st_s0 ?_ | refine WL.st_s1 ?_ | refine WL.st_s2 ?_ | refine WL.st_s3 ?_ | refine WL.st_s4 ?_ | refine WL.st_s5 ?_ | refine WL.nilP ?_ | refine WL.ldn_k ?_ | refine WL.ldn_r ?_ | refine WL.ldn_w ?_ | refine WL.ldn_i ?_ | refine WL.ldn_l ?_ | refine WL.ldn_g ?_ | refine WL.elLen_s ?_ | refine WL.elAddrN_s ?_ | refine WL.st_sh0 ?_ | refine WL.st_sh1 ?_ | refine WL.st_sh2 ?_ | refine WL.ldh_r ?_ | refine WL.ldh_p ?_ | refine WL.ldh_t ?_ | refine WL.eqQ ?_ | refine WL.neQ ?_ | refine WL.ldPt ?_)
    refine WL.call (OpC.static Tryd.func17 (by kernel_rfl) rfl rfl) rfl (join_any w2 hp R (n + 1) _ hbk (lf ts j) cur n' (lf gs j) g Ft Fc hT hJ.cur (fun y hy => hJ.ltr y (f1 y hy)) hJ.ltc (fun y h1 h2 => hJ.apart y h2 (f1 y h1)) m hfn (by omega) hwt) ?_
    rintro _ w3 ⟨g2, F2, rfl, hS3, hC3⟩
    have hnew : ∀ y, F2 y → y < w2.heap.size → Ft y ∨ Fc y := fun y hy hl => by
      rcases (hC3.next y hy).1 with h1 | h1
      · exact h1
      · omega
    have hvl : ∀ y, Value.ownBlock (.slice A ts.length c) = some y → y < w2.heap.size := fun y hy => by
      refine (hJ.own.blk (fun e => ?_) y hy).2
      have : gs.length = 0 := by rw [e]; rfl
      omega
    with_reducible repeat (first | refine WL.move ?_ | refine WL.assign ?_ | refine WL.ldKey ?_ | refine WL.ldId ?_ | refine WL.ldIt ?_ | refine WL.itemAddrN ?_ | refine WL.itemAddrP ?_ | refine WL.itemAddrM ?_ | refine WL.toU ?_ | refine WL.shr1 ?_ | refine WL.toI ?_ | refine WL.sub1N ?_ | refine WL.subN ?_ | refine WL.neqItem ?_ | refine WL.eqIt ?_ | refine WL.eqBool ?_ | refine WL.neqBool ?_ | refine WL.quoN ?_ | refine WL.quo2N ?_ | refine WL.lss ?_ | refine WL.leq ?_ | refine WL.gtr ?_ | refine WL.geq ?_ | refine WL.add ?_ | refine WL.sub ?_ | refine WL.mul ?_ | refine WL.quo ?_ | refine WL.rem ?_ | refine WL.eqlI ?_ | refine WL.neqI ?_ | refine WL.not ?_ | refine WL.pick_t ?_ | refine WL.pick_f ?_ | refine WL.extract ?_ | refine WL.lenItems ?_ | refine WL.errI ?_ | refine WL.keyAddr ?_ | refine WL.idAddr ?_ | refine WL.itemAddr ?_ | refine WL.neqE0 ?_ | refine WL.neqE1 ?_ | refine WL.eqlE0 ?_ | refine WL.eqlE1 ?_ | refine WL.item0 ?_ | refine WL.item ?_ | refine WL.itemsNil ?_ | refine WL.itemsTo ?_ | refine WL.itemsFrom ?_ | refine WL.yesA ?_ | refine WL.noA ?_ | refine WL.noUA ?_ | refine WC.seq ?_ | refine WC.region fun K hK => ?_ | refine WC.block ?_ | refine WC.skip ?_ | refine WC.exit ?_ | refine WC.ret ?_ | (refine WL.nil (hK _ _ ?_); clear hK K) | refine WX.then_n ?_ | refine WX.then_x ?_ | refine WX.then_r ?_ | refine WX.block_n ?_ | refine WX.block_r ?_ | refine WX.block_x ?_ | refine WX.block_oA ?_ )
    refine WX.againE4 (j + 1) g2 n' (F2, Fr') (ts.length - (j + 1)) (by omega) ⟨rfl, ?_⟩ Sub.auto
    refine ⟨hbk.chg hC3 (fun h => ?_), hJ.own.other fun y hy => hC3.block y (hvl y hy) (fun h => ?_), hS3, hR'.other hC3.size fun y hy => hC3.block y (hJ.ltr y (f2 y hy)) (fun h => ?_), fun y hy => (hC3.next y hy).2, fun y hy => Nat.lt_of_lt_of_le (hJ.ltr y (f2 y hy)) hC3.size, fun y h1 h2 => ?_, fun h => ?_, fun h => hJ.hr (f2 _ h), fun y hy h => ?_, fun y hy h => hJ.vr y hy (f2 y h), fun y hy => hJ.sub y (f2 y hy), ?_, hcar', by omega, hg', ?_⟩
    · rcases h with h | h
      · exact hJ.hr (f1 _ h)
      · exact hJ.hc h
    · rcases h with h | h
      · exact hJ.vr y hy (f1 _ h)
      · exact hJ.vc y hy h
    · rcases h with h | h
      · exact f3 y h hy
      · exact hJ.apart y h (f2 y hy)
    · rcases hnew y h1 (hJ.ltr y (f2 y h2)) with h | h
      · exact f3 y h h2
      · exact hJ.apart y h (f2 y h2)
    · rcases hnew _ h hbk.lt with h | h
      · exact hJ.hr (f1 _ h)
      · exact hJ.hc h
    · rcases hnew y h (hvl y hy) with h | h
      · exact hJ.vr y hy (f1 _ h)
      · exact hJ.vc y hy h
    · refine hJ.chg.trans (hC3.widS (fun y hy => ?_) (fun y hy => ?_) (fun y hy => (hJ.chg.next y hy).2))
      · rcases hy with h | h
        · exact .inl (hJ.sub y (f1 y h))
        · exact .inr h
      · rcases hy with h | h
        · exact .inr (.inl h)
        · exact .inl h
    · have := hp'.length_eq
      rw [List.length_append] at this
      show n'.all.length + (Sf.allF (ts.drop (j + 1))).length ≤ 401
      rw [this]; omega
  | false =>
    have hout' := hno rfl
    refine WC.cond_false rfl ?_
    clear hyes hno
    with_reducible repeat (first | refine WL.move ?_ | refine WL.assign ?_ | refine WL.ldKey ?_ | refine WL.ldId ?_ | refine WL.ldIt ?_ | refine WL.itemAddrN ?_ | refine WL.itemAddrP ?_ | refine WL.itemAddrM ?_ | refine WL.toU ?_ | refine WL.shr1 ?_ | refine WL.toI ?_ | refine WL.sub1N ?_ | refine WL.subN ?_ | refine WL.neqItem ?_ | refine WL.eqIt ?_ | refine WL.eqBool ?_ | refine WL.neqBool ?_ | refine WL.quoN ?_ | refine WL.quo2N ?_ | refine WL.lss ?_ | refine WL.leq ?_ | refine WL.gtr ?_ | refine WL.geq ?_ | refine WL.add ?_ | refine WL.sub ?_ | refine WL.mul ?_ | refine WL.quo ?_ | refine WL.rem ?_ | refine WL.eqlI ?_ | refine WL.neqI ?_ | refine WL.not ?_ | refine WL.pick_t ?_ | refine WL.pick_f ?_ | refine WL.extract ?_ | refine WL.lenItems ?_ | refine WL.errI ?_ | refine WL.keyAddr ?_ | refine WL.idAddr ?_ | refine WL.itemAddr ?_ | refine WL.neqE0 ?_ | refine WL.neqE1 ?_ | refine WL.eqlE0 ?_ | refine WL.eqlE1 ?_ | refine WL.item0 ?_ | refine WL.item ?_ | refine WL.itemsNil ?_ | refine WL.itemsTo ?_ | refine WL.itemsFrom ?_ | refine WL.yesA ?_ | refine WL.noA ?_ | refine WL.noUA ?_ | refine WC.seq ?_ | refine WC.region fun K hK => ?_ | refine WC.block ?_ | refine WC.skip ?_ | refine WC.exit ?_ | refine WC.ret ?_ | (refine WL.nil (hK _ _ ?_); clear hK K) | refine WX.then_n ?_ | refine WX.then_x ?_ | refine WX.then_r ?_ | refine WX.block_n ?_ | refine WX.block_r ?_ | refine WX.block_x ?_ | refine WX.block_oA ?_ )
    refine WL.lit (xs := [.tmp 70]) (vs := [ptV g]) unSPs tySP rfl rfl (by simp [Value.cells]) rfl rfl (by omega) fun w3 hg3 hb3 hz3 => ?_
    have hB3 := below_of_grown hg3
    have hbk3 := hbk.below hB3
    with_reducible repeat (first | refine WL.move ?_ | refine WL.assign ?_ | refine WL.ldKey ?_ | refine WL.ldId ?_ | refine WL.ldIt ?_ | refine WL.itemAddrN ?_ | refine WL.itemAddrP ?_ | refine WL.itemAddrM ?_ | refine WL.toU ?_ | refine WL.shr1 ?_ | refine WL.toI ?_ | refine WL.sub1N ?_ | refine WL.subN ?_ | refine WL.neqItem ?_ | refine WL.eqIt ?_ | refine WL.eqBool ?_ | refine WL.neqBool ?_ | refine WL.quoN ?_ | refine WL.quo2N ?_ | refine WL.lss ?_ | refine WL.leq ?_ | refine WL.gtr ?_ | refine WL.geq ?_ | refine WL.add ?_ | refine WL.sub ?_ | refine WL.mul ?_ | refine WL.quo ?_ | refine WL.rem ?_ | refine WL.eqlI ?_ | refine WL.neqI ?_ | refine WL.not ?_ | refine WL.pick_t ?_ | refine WL.pick_f ?_ | refine WL.extract ?_ | refine WL.lenItems ?_ | refine WL.errI ?_ | refine WL.keyAddr ?_ | refine WL.idAddr ?_ | refine WL.itemAddr ?_ | refine WL.neqE0 ?_ | refine WL.neqE1 ?_ | refine WL.eqlE0 ?_ | refine WL.eqlE1 ?_ | refine WL.item0 ?_ | refine WL.item ?_ | refine WL.itemsNil ?_ | refine WL.itemsTo ?_ | refine WL.itemsFrom ?_ | refine WL.yesA ?_ | refine WL.noA ?_ | refine WL.noUA ?_ | refine WC.seq ?_ | refine WC.region fun K hK => ?_ | refine WC.block ?_ | refine WC.skip ?_ | refine WC.exit ?_ | refine WC.ret ?_ | (refine WL.nil (hK _ _ ?_); clear hK K) | refine WX.then_n ?_ | refine WX.then_x ?_ | refine WX.then_r ?_ | refine WX.block_n ?_ | refine WX.block_r ?_ | refine WX.block_x ?_ | refine WX.block_oA ?_ | refine WL.st_s0 ?_ | refine WL.st_s1 ?_ | refine WL.st_s2 ?_ | refine WL.st_s3 ?_ | refine WL.st_s4 ?_ | refine WL.st_s5 ?_ | refine WL.nilP ?_ | refine WL.ldn_k ?_ | refine WL.ldn_r ?_ | refine WL.ldn_w ?_ | refine WL.ldn_i ?_ | refine WL.ldn_l ?_ | refine WL.ldn_g ?_ | refine WL.elLen_s ?_ | refine WL.elAddrN_s ?_ | refine WL.st_sh0 ?_ | refine WL.st_sh1 ?_ | refine WL.st_sh2 ?_ | refine WL.ldh_r ?_ | refine WL.ldh_p ?_ | refine WL.ldh_t ?_ | refine WL.eqQ ?_ | refine WL.neQ ?_)
    refine WL.step (OpV.sliceFrom unSPs tySP (j := ((j : Nat) : Int)) rfl rfl (by omega) (by omega)) rfl ?_
    rw [Int.toNat_natCast]
    have hown3 := hJ.own.below hB3
    have hfrom := (hown3.from_ (j := j) hle).toRow
    have hog : OwnO ptC 1 52 w3 0 (.slice (some ⟨w2.heap.size, 0, none⟩) 1 1) [g] := (OwnL.lit (l := [g]) ptC_len hb3 (Nat.zero_le _) (by simp [maxLen]) rfl).toO ptC_len
    refine WL.appendO ptC_len ptC_one (by omega) unSPs tySP rfl rfl rfl hog hfrom.2.2 (by simp; omega) (by simp [maxLen]; omega) (Nat.zero_le _) fun v' w4 row ho4 hg4 hrow4 hbase4 hv4 => ?_
    have hseg : segL (lf (gs.drop j)) (ts.length - j) = gs.drop j := by
      rw [show ts.length - j = (gs.drop j).length from by rw [List.length_drop]; omega]; exact segL_lf _
    rw [hseg] at ho4
    obtain ⟨A', c', rfl, hc'⟩ := ho4.form
    have hrb : ∀ y, row = some y → y = w2.heap.size := fun y hy => by
      rcases hrow4 with h | h
      · rw [h] at hy; cases hy
      · rw [h] at hy; simp [Value.ownBlock] at hy; exact hy.symm
    have hlth := hbk.lt
    have hbk4 := hbk3.keep hg4 (fun e => by have := hrb _ e; omega)
    have hvl : ∀ y, Value.ownBlock (.slice A' ([g] ++ gs.drop j).length c') = some y → w2.heap.size ≤ y ∧ y < w4.heap.size := fun y hy => by
      refine ⟨?_, (ho4.blk (by simp) y hy).2⟩
      rcases hv4 with e | ⟨z, e, hz⟩
      · rw [e] at hy; simp [Value.ownBlock] at hy; omega
      · rw [e] at hy; injection hy with hy; have := hB3.size; omega
    have hst4 : ∀ y, y < w2.heap.size → w4.heap[y]? = w2.heap[y]? := fun y hy => by
      have := hB3.size
      rw [hg4.block y (by omega) (fun e => by have := hrb y e.symm; omega), hB3.block y hy]
    have hs4 : w2.heap.size ≤ w4.heap.size := Nat.le_trans hB3.size hg4.size
    with_reducible repeat (first | refine WL.move ?_ | refine WL.assign ?_ | refine WL.ldKey ?_ | refine WL.ldId ?_ | refine WL.ldIt ?_ | refine WL.itemAddrN ?_ | refine WL.itemAddrP ?_ | refine WL.itemAddrM ?_ | refine WL.toU ?_ | refine WL.shr1 ?_ | refine WL.toI ?_ | refine WL.sub1N ?_ | refine WL.subN ?_ | refine WL.neqItem ?_ | refine WL.eqIt ?_ | refine WL.eqBool ?_ | refine WL.neqBool ?_ | refine WL.quoN ?_ | refine WL.quo2N ?_ | refine WL.lss ?_ | refine WL.leq ?_ | refine WL.gtr ?_ | refine WL.geq ?_ | refine WL.add ?_ | refine WL.sub ?_ | refine WL.mul ?_ | refine WL.quo ?_ | refine WL.rem ?_ | refine WL.eqlI ?_ | refine WL.neqI ?_ | refine WL.not ?_ | refine WL.pick_t ?_ | refine WL.pick_f ?_ | refine WL.extract ?_ | refine WL.lenItems ?_ | refine WL.errI ?_ | refine WL.keyAddr ?_ | refine WL.idAddr ?_ | refine WL.itemAddr ?_ | refine WL.neqE0 ?_ | refine WL.neqE1 ?_ | refine WL.eqlE0 ?_ | refine WL.eqlE1 ?_ | refine WL.item0 ?_ | refine WL.item ?_ | refine WL.itemsNil ?_ | refine WL.itemsTo ?_ | refine WL.itemsFrom ?_ | refine WL.yesA ?_ | refine WL.noA ?_ | refine WL.noUA ?_ | refine WC.seq ?_ | refine WC.region fun K hK => ?_ | refine WC.block ?_ | refine WC.skip ?_ | refine WC.exit ?_ | refine WC.ret ?_ | (refine WL.nil (hK _ _ ?_); clear hK K) | refine WX.then_n ?_ | refine WX.then_x ?_ | refine WX.then_r ?_ | refine WX.block_n ?_ | refine WX.block_r ?_ | refine WX.block_x ?_ | refine WX.block_oA ?_ | refine WL.st_s0 ?_ | refine WL.st_s1 ?_ | refine WL.st_s2 ?_ | refine WL.st_s3 ?_ | refine WL.st_s4 ?_ | refine WL.st_s5 ?_ | refine WL.nilP ?_ | refine WL.ldn_k ?_ | refine WL.ldn_r ?_ | refine WL.ldn_w ?_ | refine WL.ldn_i ?_ | refine WL.ldn_l ?_ | refine WL.ldn_g ?_ | refine WL.elLen_s ?_ | refine WL.elAddrN_s ?_ | refine WL.st_sh0 ?_ | refine WL.st_sh1 ?_ | refine WL.st_sh2 ?_ | refine WL.ldh_r ?_ | refine WL.ldh_p ?_ | refine WL.ldh_t ?_ | refine WL.eqQ ?_ | refine WL.neQ ?_)
    refine WL.store tySPs rfl rfl rfl (by intro u hu; simp [Value.cells] at hu; subst hu; rfl) hbk4 (by simp [shC]) fun w5 hg5 hb5 hz5 => ?_
    with_reducible repeat (first | refine WL.move ?_ | refine WL.assign ?_ | refine WL.ldKey ?_ | refine WL.ldId ?_ | refine WL.ldIt ?_ | refine WL.itemAddrN ?_ | refine WL.itemAddrP ?_ | refine WL.itemAddrM ?_ | refine WL.toU ?_ | refine WL.shr1 ?_ | refine WL.toI ?_ | refine WL.sub1N ?_ | refine WL.subN ?_ | refine WL.neqItem ?_ | refine WL.eqIt ?_ | refine WL.eqBool ?_ | refine WL.neqBool ?_ | refine WL.quoN ?_ | refine WL.quo2N ?_ | refine WL.lss ?_ | refine WL.leq ?_ | refine WL.gtr ?_ | refine WL.geq ?_ | refine WL.add ?_ | refine WL.sub ?_ | refine WL.mul ?_ | refine WL.quo ?_ | refine WL.rem ?_ | refine WL.eqlI ?_ | refine WL.neqI ?_ | refine WL.not ?_ | refine WL.pick_t ?_ | refine WL.pick_f ?_ | refine WL.extract ?_ | refine WL.lenItems ?_ | refine WL.errI ?_ | refine WL.keyAddr ?_ | refine WL.idAddr ?_ | refine WL.itemAddr ?_ | refine WL.neqE0 ?_ | refine WL.neqE1 ?_ | refine WL.eqlE0 ?_ | refine WL.eqlE1 ?_ | refine WL.item0 ?_ | refine WL.item ?_ | refine WL.itemsNil ?_ | refine WL.itemsTo ?_ | refine WL.itemsFrom ?_ | refine WL.yesA ?_ | refine WL.noA ?_ | refine WL.noUA ?_ | refine WC.seq ?_ | refine WC.region fun K hK => ?_ | refine WC.block ?_ | refine WC.skip ?_ | refine WC.exit ?_ | refine WC.ret ?_ | (refine WL.nil (hK _ _ ?_); clear hK K) | refine WX.then_n ?_ | refine WX.then_x ?_ | refine WX.then_r ?_ | refine WX.block_n ?_ | refine WX.block_r ?_ | refine WX.block_x ?_ | refine WX.block_oA ?_ )
    refine WX.ret1 rfl rfl ⟨fun h => absurd he h, fun _ h => absurd h hn4, fun _ _ => ⟨rfl, fun y => (F y ∨ Fc y) ∨ Value.ownBlock (.slice A' ([g] ++ gs.drop j).length c') = some y, ⟨⟨_, g :: gs.drop j, fun y => Fc y ∨ Fr y, hb5, ho4.keep hg5 (.inr fun e => ?_), ?_, fun y hy => .inr hy, fun y hy => ?_, fun e => ?_, fun h => ?_, fun y hy h => ?_⟩, .inl (.inl ?_), fun y hy => ?_⟩, ?_⟩⟩
    · have := (hvl _ e).1; omega
    · rw [hout']
      have hst5 : ∀ y, y < w2.heap.size → y ≠ hp → w5.heap[y]? = w2.heap[y]? := fun y hy hn => by
        rw [hg5.block y (by omega) (fun e => hn (by injection e)), hst4 y hy]
      have hs5 := hg5.size
      exact ⟨g, _, Fc, Fr, rfl, hJ.cur.other (by omega) fun y hy => hst5 y (hJ.ltc y hy) (fun e => hJ.hc (e ▸ hy)), hJ.rest.other (by omega) fun y hy => hst5 y (hJ.ltr y hy) (fun e => hJ.hr (e ▸ hy)), fun y hy => .inl hy, fun y hy => .inr hy, hJ.apart⟩
    · rcases hy with h | h
      · exact .inl (.inr h)
      · exact .inl (.inl (hJ.sub y h))
    · have := (hvl _ e).1; omega
    · rcases h with h | h
      · exact hJ.hc h
      · exact hJ.hr h
    · have := (hvl y hy).1
      rcases h with h | h
      · have := hJ.ltc y h; omega
      · have := hJ.ltr y h; omega
    · exact hS.own
    · rcases hy with hy | hy
      · have := (hJ.chg.next y hy).2; omega
      · have := (hvl y hy).2; omega
    · refine hJ.chg.trans ⟨hg5.os.trans (hg4.os.trans hB3.os), hg5.tape.trans (hg4.tape.trans hB3.tape), hg5.output.trans (hg4.output.trans hB3.output), by omega, fun y hy hn => ?_, fun y hy => ?_⟩
      · rw [hg5.block y (by omega) (fun e => hn (.inl (by injection e with e; rw [e]; exact hS.own))), hst4 y hy]
      · rcases hy with hy | hy
        · exact ⟨.inl hy, by have := (hJ.chg.next y hy).2; omega⟩
        · exact ⟨.inr (hvl y hy).1, by have := (hvl y hy).2; omega⟩
end Rk
