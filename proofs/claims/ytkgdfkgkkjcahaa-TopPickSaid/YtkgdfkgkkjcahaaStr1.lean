/- A stream in memory: what it owns, what turns it; the contracts of stream.New, Middle and Least, and of a heap's Top. -/
import Derived.Test.YtkgdfkgkkjcahaaCPint
import Derived.Test.YtkgdfkgkkjcahaaOwnO
import Derived.Test.YtkgdfkgkkjcahaaSl
import Derived.Test.YtkgdfkgkkjcahaaStreamP
import Derived.Test.YtkgdfkgkkjcahaaOrd1
namespace Rk
open Go Go.RowKit Go.Proofs
abbrev TS : TypeId := 54
theorem tyHP : Ty Try.prog 49 false 1 8 (.pointer none) := Ty.mk' (by kernel_rfl) (fun _ => by kernel_rfl) rfl
theorem unTS : Try.prog.underlying 54 = some (.struct (Try.prog.fieldsOf 54)) := by kernel_rfl
theorem tyTS : Ty Try.prog 54 true 6 80 (.agg #[.pointer none, .pointer none, .int .i64 0, .slice none 0 0, .int .i64 0, .slice none 0 0]) := Ty.mk' (by kernel_rfl) (fun _ => by kernel_rfl) rfl
theorem s0 : ((Try.prog.fieldsOf 54)[0]?).map (fun f => (f.offset, f.type)) = some (0, 49) := by kernel_rfl
theorem s1 : ((Try.prog.fieldsOf 54)[1]?).map (fun f => (f.offset, f.type)) = some (1, 49) := by kernel_rfl
theorem s2 : ((Try.prog.fieldsOf 54)[2]?).map (fun f => (f.offset, f.type)) = some (2, 3) := by kernel_rfl
theorem s3 : ((Try.prog.fieldsOf 54)[3]?).map (fun f => (f.offset, f.type)) = some (3, 52) := by kernel_rfl
theorem s4 : ((Try.prog.fieldsOf 54)[4]?).map (fun f => (f.offset, f.type)) = some (4, 3) := by kernel_rfl
theorem s5 : ((Try.prog.fieldsOf 54)[5]?).map (fun f => (f.offset, f.type)) = some (5, 52) := by kernel_rfl
section
variable {E : Env} {w : World} {t : TypeId} {x y z : Operand} {bk o : Nat} {p q : Addr} {a : Int}
theorem OpV.st_0 (hx : evE E x = some (.pointer (some ⟨bk, o, none⟩))) : OpV Try.prog (.fieldAddr 54 x 0) t E w (.pointer (some ⟨bk, o, none⟩)) w := OpV.fieldAddr (off := 0) unTS s0 tyHP (by omega) hx
theorem OpV.st_1 (hx : evE E x = some (.pointer (some ⟨bk, o, none⟩))) : OpV Try.prog (.fieldAddr 54 x 1) t E w (.pointer (some ⟨bk, o + 1, none⟩)) w := OpV.fieldAddr unTS s1 tyHP (by omega) hx
theorem OpV.st_2 (hx : evE E x = some (.pointer (some ⟨bk, o, none⟩))) : OpV Try.prog (.fieldAddr 54 x 2) t E w (.pointer (some ⟨bk, o + 2, none⟩)) w := OpV.fieldAddr unTS s2 tyInt (by omega) hx
theorem OpV.st_3 (hx : evE E x = some (.pointer (some ⟨bk, o, none⟩))) : OpV Try.prog (.fieldAddr 54 x 3) t E w (.pointer (some ⟨bk, o + 3, none⟩)) w := OpV.fieldAddr unTS s3 tyInts (by omega) hx
theorem OpV.st_4 (hx : evE E x = some (.pointer (some ⟨bk, o, none⟩))) : OpV Try.prog (.fieldAddr 54 x 4) t E w (.pointer (some ⟨bk, o + 4, none⟩)) w := OpV.fieldAddr unTS s4 tyInt (by omega) hx
theorem OpV.st_5 (hx : evE E x = some (.pointer (some ⟨bk, o, none⟩))) : OpV Try.prog (.fieldAddr 54 x 5) t E w (.pointer (some ⟨bk, o + 5, none⟩)) w := OpV.fieldAddr unTS s5 tyInts (by omega) hx
theorem OpV.mk3_TS (hx : evE E x = some (.pointer (some p))) (hy : evE E y = some (.pointer (some q))) (hz : evE E z = some (.int .i64 a)) :
    OpV Try.prog (.build 54 #[(0, x), (1, y), (2, z)]) t E w (.agg #[.pointer (some p), .pointer (some q), .int .i64 a, .slice none 0 0, .int .i64 0, .slice none 0 0]) w :=
  OpV.build (parts := [(0, x), (1, y), (2, z)]) (ps := [(0, .pointer (some p)), (1, .pointer (some q)), (2, .int .i64 a)]) (by simp [evp, hx, hy, hz]) (by kernel_rfl)
section
variable {ops : Array Oper} {K : Env → World → Prop} {N d_ : Nat} {rest : List Oper} {pos : String} {after : Array Edge} {C : World → Prop} {R : Env → Prop}
theorem WL.st_0  (h_ : WL Try.prog ops K N ((d_, (.pointer (some ⟨bk, o, none⟩))) :: E) rest w) (hx : evE E x = some (.pointer (some ⟨bk, o, none⟩)) := by with_unfolding_all exact rfl) (hd_ : Nat.blt d_ N = true := by with_unfolding_all exact rfl) :
    WL Try.prog ops K N E (⟨some d_, .fieldAddr 54 x 0, t, pos, after, none⟩ :: rest) w := WL.step (OpV.st_0 hx) hd_ h_
theorem QL.st_0  (h_ : QL Try.prog ops C R N ((d_, (.pointer (some ⟨bk, o, none⟩))) :: E) rest) (hx : evE E x = some (.pointer (some ⟨bk, o, none⟩)) := by with_unfolding_all exact rfl) (hd_ : Nat.blt d_ N = true := by with_unfolding_all exact rfl) :
    QL Try.prog ops C R N E (⟨some d_, .fieldAddr 54 x 0, t, pos, after, none⟩ :: rest) := QL.step (fun _ _ => OpV.st_0 hx) hd_ h_
theorem RL.st_0  (h_ : R ((d_, (.pointer (some ⟨bk, o, none⟩))) :: E)) (hx : evE E x = some (.pointer (some ⟨bk, o, none⟩)) := by with_unfolding_all exact rfl) (hd_ : Nat.blt d_ N = true := by with_unfolding_all exact rfl) :
    RL Try.prog ops C R N E ⟨some d_, .fieldAddr 54 x 0, t, pos, after, none⟩ := RL.step (fun _ _ => OpV.st_0 hx) hd_ h_
theorem WL.st_1  (h_ : WL Try.prog ops K N ((d_, (.pointer (some ⟨bk, o + 1, none⟩))) :: E) rest w) (hx : evE E x = some (.pointer (some ⟨bk, o, none⟩)) := by with_unfolding_all exact rfl) (hd_ : Nat.blt d_ N = true := by with_unfolding_all exact rfl) :
    WL Try.prog ops K N E (⟨some d_, .fieldAddr 54 x 1, t, pos, after, none⟩ :: rest) w := WL.step (OpV.st_1 hx) hd_ h_
theorem QL.st_1  (h_ : QL Try.prog ops C R N ((d_, (.pointer (some ⟨bk, o + 1, none⟩))) :: E) rest) (hx : evE E x = some (.pointer (some ⟨bk, o, none⟩)) := by with_unfolding_all exact rfl) (hd_ : Nat.blt d_ N = true := by with_unfolding_all exact rfl) :
    QL Try.prog ops C R N E (⟨some d_, .fieldAddr 54 x 1, t, pos, after, none⟩ :: rest) := QL.step (fun _ _ => OpV.st_1 hx) hd_ h_
theorem RL.st_1  (h_ : R ((d_, (.pointer (some ⟨bk, o + 1, none⟩))) :: E)) (hx : evE E x = some (.pointer (some ⟨bk, o, none⟩)) := by with_unfolding_all exact rfl) (hd_ : Nat.blt d_ N = true := by with_unfolding_all exact rfl) :
    RL Try.prog ops C R N E ⟨some d_, .fieldAddr 54 x 1, t, pos, after, none⟩ := RL.step (fun _ _ => OpV.st_1 hx) hd_ h_
theorem WL.st_2  (h_ : WL Try.prog ops K N ((d_, (.pointer (some ⟨bk, o + 2, none⟩))) :: E) rest w) (hx : evE E x = some (.pointer (some ⟨bk, o, none⟩)) := by with_unfolding_all exact rfl) (hd_ : Nat.blt d_ N = true := by with_unfolding_all exact rfl) :
    WL Try.prog ops K N E (⟨some d_, .fieldAddr 54 x 2, t, pos, after, none⟩ :: rest) w := WL.step (OpV.st_2 hx) hd_ h_
theorem QL.st_2  (h_ : QL Try.prog ops C R N ((d_, (.pointer (some ⟨bk, o + 2, none⟩))) :: E) rest) (hx : evE E x = some (.pointer (some ⟨bk, o, none⟩)) := by with_unfolding_all exact rfl) (hd_ : Nat.blt d_ N = true := by with_unfolding_all exact rfl) :
    QL Try.prog ops C R N E (⟨some d_, .fieldAddr 54 x 2, t, pos, after, none⟩ :: rest) := QL.step (fun _ _ => OpV.st_2 hx) hd_ h_
theorem RL.st_2  (h_ : R ((d_, (.pointer (some ⟨bk, o + 2, none⟩))) :: E)) (hx : evE E x = some (.pointer (some ⟨bk, o, none⟩)) := by with_unfolding_all exact rfl) (hd_ : Nat.blt d_ N = true := by with_unfolding_all exact rfl) :
    RL Try.prog ops C R N E ⟨some d_, .fieldAddr 54 x 2, t, pos, after, none⟩ := RL.step (fun _ _ => OpV.st_2 hx) hd_ h_
theorem WL.st_3  (h_ : WL Try.prog ops K N ((d_, (.pointer (some ⟨bk, o + 3, none⟩))) :: E) rest w) (hx : evE E x = some (.pointer (some ⟨bk, o, none⟩)) := by with_unfolding_all exact rfl) (hd_ : Nat.blt d_ N = true := by with_unfolding_all exact rfl) :
    WL Try.prog ops K N E (⟨some d_, .fieldAddr 54 x 3, t, pos, after, none⟩ :: rest) w := WL.step (OpV.st_3 hx) hd_ h_
theorem QL.st_3  (h_ : QL Try.prog ops C R N ((d_, (.pointer (some ⟨bk, o + 3, none⟩))) :: E) rest) (hx : evE E x = some (.pointer (some ⟨bk, o, none⟩)) := by with_unfolding_all exact rfl) (hd_ : Nat.blt d_ N = true := by with_unfolding_all exact rfl) :
    QL Try.prog ops C R N E (⟨some d_, .fieldAddr 54 x 3, t, pos, after, none⟩ :: rest) := QL.step (fun _ _ => OpV.st_3 hx) hd_ h_
theorem RL.st_3  (h_ : R ((d_, (.pointer (some ⟨bk, o + 3, none⟩))) :: E)) (hx : evE E x = some (.pointer (some ⟨bk, o, none⟩)) := by with_unfolding_all exact rfl) (hd_ : Nat.blt d_ N = true := by with_unfolding_all exact rfl) :
    RL Try.prog ops C R N E ⟨some d_, .fieldAddr 54 x 3, t, pos, after, none⟩ := RL.step (fun _ _ => OpV.st_3 hx) hd_ h_
theorem WL.st_4  (h_ : WL Try.prog ops K N ((d_, (.pointer (some ⟨bk, o + 4, none⟩))) :: E) rest w) (hx : evE E x = some (.pointer (some ⟨bk, o, none⟩)) := by with_unfolding_all exact rfl) (hd_ : Nat.blt d_ N = true := by with_unfolding_all exact rfl) :
    WL Try.prog ops K N E (⟨some d_, .fieldAddr 54 x 4, t, pos, after, none⟩ :: rest) w := WL.step (OpV.st_4 hx) hd_ h_
theorem QL.st_4  (h_ : QL Try.prog ops C R N ((d_, (.pointer (some ⟨bk, o + 4, none⟩))) :: E) rest) (hx : evE E x = some (.pointer (some ⟨bk, o, none⟩)) := by with_unfolding_all exact rfl) (hd_ : Nat.blt d_ N = true := by with_unfolding_all exact rfl) :
    QL Try.prog ops C R N E (⟨some d_, .fieldAddr 54 x 4, t, pos, after, none⟩ :: rest) := QL.step (fun _ _ => OpV.st_4 hx) hd_ h_
theorem RL.st_4  (h_ : R ((d_, (.pointer (some ⟨bk, o + 4, none⟩))) :: E)) (hx : evE E x = some (.pointer (some ⟨bk, o, none⟩)) := by with_unfolding_all exact rfl) (hd_ : Nat.blt d_ N = true := by with_unfolding_all exact rfl) :
    RL Try.prog ops C R N E ⟨some d_, .fieldAddr 54 x 4, t, pos, after, none⟩ := RL.step (fun _ _ => OpV.st_4 hx) hd_ h_
theorem WL.st_5  (h_ : WL Try.prog ops K N ((d_, (.pointer (some ⟨bk, o + 5, none⟩))) :: E) rest w) (hx : evE E x = some (.pointer (some ⟨bk, o, none⟩)) := by with_unfolding_all exact rfl) (hd_ : Nat.blt d_ N = true := by with_unfolding_all exact rfl) :
    WL Try.prog ops K N E (⟨some d_, .fieldAddr 54 x 5, t, pos, after, none⟩ :: rest) w := WL.step (OpV.st_5 hx) hd_ h_
theorem QL.st_5  (h_ : QL Try.prog ops C R N ((d_, (.pointer (some ⟨bk, o + 5, none⟩))) :: E) rest) (hx : evE E x = some (.pointer (some ⟨bk, o, none⟩)) := by with_unfolding_all exact rfl) (hd_ : Nat.blt d_ N = true := by with_unfolding_all exact rfl) :
    QL Try.prog ops C R N E (⟨some d_, .fieldAddr 54 x 5, t, pos, after, none⟩ :: rest) := QL.step (fun _ _ => OpV.st_5 hx) hd_ h_
theorem RL.st_5  (h_ : R ((d_, (.pointer (some ⟨bk, o + 5, none⟩))) :: E)) (hx : evE E x = some (.pointer (some ⟨bk, o, none⟩)) := by with_unfolding_all exact rfl) (hd_ : Nat.blt d_ N = true := by with_unfolding_all exact rfl) :
    RL Try.prog ops C R N E ⟨some d_, .fieldAddr 54 x 5, t, pos, after, none⟩ := RL.step (fun _ _ => OpV.st_5 hx) hd_ h_
theorem WL.mk3_TS  (h_ : WL Try.prog ops K N ((d_, (.agg #[.pointer (some p), .pointer (some q), .int .i64 a, .slice none 0 0, .int .i64 0, .slice none 0 0])) :: E) rest w) (hx : evE E x = some (.pointer (some p)) := by with_unfolding_all exact rfl) (hy : evE E y = some (.pointer (some q)) := by with_unfolding_all exact rfl) (hz : evE E z = some (.int .i64 a) := by with_unfolding_all exact rfl) (hd_ : Nat.blt d_ N = true := by with_unfolding_all exact rfl) :
    WL Try.prog ops K N E (⟨some d_, .build 54 #[(0, x), (1, y), (2, z)], t, pos, after, none⟩ :: rest) w := WL.step (OpV.mk3_TS hx hy hz) hd_ h_
theorem QL.mk3_TS  (h_ : QL Try.prog ops C R N ((d_, (.agg #[.pointer (some p), .pointer (some q), .int .i64 a, .slice none 0 0, .int .i64 0, .slice none 0 0])) :: E) rest) (hx : evE E x = some (.pointer (some p)) := by with_unfolding_all exact rfl) (hy : evE E y = some (.pointer (some q)) := by with_unfolding_all exact rfl) (hz : evE E z = some (.int .i64 a) := by with_unfolding_all exact rfl) (hd_ : Nat.blt d_ N = true := by with_unfolding_all exact rfl) :
    QL Try.prog ops C R N E (⟨some d_, .build 54 #[(0, x), (1, y), (2, z)], t, pos, after, none⟩ :: rest) := QL.step (fun _ _ => OpV.mk3_TS hx hy hz) hd_ h_
theorem RL.mk3_TS  (h_ : R ((d_, (.agg #[.pointer (some p), .pointer (some q), .int .i64 a, .slice none 0 0, .int .i64 0, .slice none 0 0])) :: E)) (hx : evE E x = some (.pointer (some p)) := by with_unfolding_all exact rfl) (hy : evE E y = some (.pointer (some q)) := by with_unfolding_all exact rfl) (hz : evE E z = some (.int .i64 a) := by with_unfolding_all exact rfl) (hd_ : Nat.blt d_ N = true := by with_unfolding_all exact rfl) :
    RL Try.prog ops C R N E ⟨some d_, .build 54 #[(0, x), (1, y), (2, z)], t, pos, after, none⟩ := RL.step (fun _ _ => OpV.mk3_TS hx hy hz) hd_ h_
end
end
section
variable {ops : Array Oper} {K : Env → World → Prop} {R : Env → Prop} {N : Nat} {E : Env} {rest : List Oper} {w : World} {t : TypeId} {pos : String} {after : Array Edge} {d : Nat} {x : Operand} {g j : Nat} {te : TypeId} {cs : List Value} {u : Value}
theorem WL.ldCP (h : WL Try.prog ops K N ((d, u) :: E) rest w) (hx : evE E x = some (.pointer (some ⟨g, j, none⟩)) := by with_unfolding_all exact rfl) (hb : Bk w g te cs := by assumption) (hu : cs[j]? = some u := by with_unfolding_all exact rfl) (hd : Nat.blt d N = true := by with_unfolding_all exact rfl) : WL Try.prog ops K N E (⟨some d, .load 49 x, t, pos, after, none⟩ :: rest) w := WL.step (OpV.load1 tyHP hx (hb.cell hu)) hd h
theorem QL.ldCP (h : QL Try.prog ops (fun w' => Below w.heap.size w w') R N ((d, u) :: E) rest) (hx : evE E x = some (.pointer (some ⟨g, j, none⟩)) := by with_unfolding_all exact rfl) (hb : Bk w g te cs := by assumption) (hu : cs[j]? = some u := by with_unfolding_all exact rfl) (hd : Nat.blt d N = true := by with_unfolding_all exact rfl) : QL Try.prog ops (fun w' => Below w.heap.size w w') R N E (⟨some d, .load 49 x, t, pos, after, none⟩ :: rest) := QL.step (fun _ hw => OpV.load1 tyHP hx ((hb.below hw).cell hu)) hd h
theorem RL.ldCPB (h : R ((d, u) :: E)) (hx : evE E x = some (.pointer (some ⟨g, j, none⟩)) := by with_unfolding_all exact rfl) (hb : Bk w g te cs := by assumption) (hu : cs[j]? = some u := by with_unfolding_all exact rfl) (hd : Nat.blt d N = true := by with_unfolding_all exact rfl) : RL Try.prog ops (fun w' => Below w.heap.size w w') R N E ⟨some d, .load 49 x, t, pos, after, none⟩ := RL.step (fun _ hw => OpV.load1 tyHP hx ((hb.below hw).cell hu)) hd h
theorem RL.ldCPH (h : R ((d, u) :: E)) (hx : evE E x = some (.pointer (some ⟨g, j, none⟩)) := by with_unfolding_all exact rfl) (hb : Bk w g te cs := by assumption) (hu : cs[j]? = some u := by with_unfolding_all exact rfl) (hd : Nat.blt d N = true := by with_unfolding_all exact rfl) : RL Try.prog ops (fun w' => w'.heap = w.heap) R N E ⟨some d, .load 49 x, t, pos, after, none⟩ := RL.step (fun _ hw => OpV.load1 tyHP hx ((hb.heap hw).cell hu)) hd h
end
attribute [local irreducible] OpV OpU OpC WL QL WC WX OL RL TL TM

/-- the lesser half goes by what is greatest, the greater one by what is least -/
abbrev kLow : G.Key Int := ⟨fun x => -x⟩
abbrev kHigh : G.Key Int := ⟨fun x => x⟩
abbrev fLow : FuncId := 20
abbrev fHigh : FuncId := 21
theorem neg_lt_dec (a b : Int) : decide (-a < -b) = decide (b < a) := by rw [decide_eq_decide]; omega
theorem first_low : @First_int kLow fLow := by
  refine @First_int.mk kLow fLow ⟨_, _, Try.func20, (by kernel_rfl), rfl⟩ fun a b w _ _ => ?_
  rw [show decide (@G.Key.key Int kLow a < @G.Key.key Int kLow b) = decide (b < a) from neg_lt_dec a b]
  refine calls_of (l := [val_int a, val_int b]) Try.func20 rfl Try.ntmps20 rfl ?_
  with_reducible repeat (first | refine WL.move ?_ | refine WL.assign ?_ | refine WL.ldKey ?_ | refine WL.ldId ?_ | refine WL.ldInt ?_ | refine WL.ldIt ?_ | refine WL.itemAddrN ?_ | refine WL.itemAddrP ?_ | refine WL.itemAddrM ?_ | refine WL.toU ?_ | refine WL.shr1 ?_ | refine WL.toI ?_ | refine WL.sub1N ?_ | refine WL.subN ?_ | refine WL.neqItem ?_ | refine WL.eqIt ?_ | refine WL.eqBool ?_ | refine WL.neqBool ?_ | refine WL.quoN ?_ | refine WL.quo2N ?_ | refine WL.intAddrN ?_ | refine WL.intAddrM ?_ | refine WL.intAddr ?_ | refine WL.lenInts ?_ | refine WL.intsTo ?_ | refine WL.intsFrom ?_ | refine WL.lss ?_ | refine WL.leq ?_ | refine WL.gtr ?_ | refine WL.geq ?_ | refine WL.add ?_ | refine WL.sub ?_ | refine WL.mul ?_ | refine WL.quo ?_ | refine WL.rem ?_ | refine WL.eqlI ?_ | refine WL.neqI ?_ | refine WL.not ?_ | refine WL.pick_t ?_ | refine WL.pick_f ?_ | refine WL.extract ?_ | refine WL.lenItems ?_ | refine WL.errI ?_ | refine WL.keyAddr ?_ | refine WL.idAddr ?_ | refine WL.itemAddr ?_ | refine WL.neqE0 ?_ | refine WL.neqE1 ?_ | refine WL.eqlE0 ?_ | refine WL.eqlE1 ?_ | refine WL.item0 ?_ | refine WL.item ?_ | refine WL.itemsNil ?_ | refine WL.itemsTo ?_ | refine WL.itemsFrom ?_ | refine WL.yesA ?_ | refine WL.noA ?_ | refine WL.noUA ?_ | refine WC.seq ?_ | refine WC.region fun K hK => ?_ | refine WC.block ?_ | refine WC.skip ?_ | refine WC.exit ?_ | refine WC.ret ?_ | (refine WL.nil (hK _ _ ?_); clear hK K) | refine WX.then_n ?_ | refine WX.then_x ?_ | refine WX.then_r ?_ | refine WX.block_n ?_ | refine WX.block_r ?_ | refine WX.block_x ?_ | refine WX.block_oA ?_ )
  exact WX.ret1 rfl rfl ⟨rfl, Below.refl _ _⟩
theorem first_high : @First_int kHigh fHigh := by
  refine @First_int.mk kHigh fHigh ⟨_, _, Try.func21, (by kernel_rfl), rfl⟩ fun a b w _ _ => ?_
  rw [show decide (@G.Key.key Int kHigh a < @G.Key.key Int kHigh b) = decide (a < b) from rfl]
  refine calls_of (l := [val_int a, val_int b]) Try.func21 rfl Try.ntmps21 rfl ?_
  with_reducible repeat (first | refine WL.move ?_ | refine WL.assign ?_ | refine WL.ldKey ?_ | refine WL.ldId ?_ | refine WL.ldInt ?_ | refine WL.ldIt ?_ | refine WL.itemAddrN ?_ | refine WL.itemAddrP ?_ | refine WL.itemAddrM ?_ | refine WL.toU ?_ | refine WL.shr1 ?_ | refine WL.toI ?_ | refine WL.sub1N ?_ | refine WL.subN ?_ | refine WL.neqItem ?_ | refine WL.eqIt ?_ | refine WL.eqBool ?_ | refine WL.neqBool ?_ | refine WL.quoN ?_ | refine WL.quo2N ?_ | refine WL.intAddrN ?_ | refine WL.intAddrM ?_ | refine WL.intAddr ?_ | refine WL.lenInts ?_ | refine WL.intsTo ?_ | refine WL.intsFrom ?_ | refine WL.lss ?_ | refine WL.leq ?_ | refine WL.gtr ?_ | refine WL.geq ?_ | refine WL.add ?_ | refine WL.sub ?_ | refine WL.mul ?_ | refine WL.quo ?_ | refine WL.rem ?_ | refine WL.eqlI ?_ | refine WL.neqI ?_ | refine WL.not ?_ | refine WL.pick_t ?_ | refine WL.pick_f ?_ | refine WL.extract ?_ | refine WL.lenItems ?_ | refine WL.errI ?_ | refine WL.keyAddr ?_ | refine WL.idAddr ?_ | refine WL.itemAddr ?_ | refine WL.neqE0 ?_ | refine WL.neqE1 ?_ | refine WL.eqlE0 ?_ | refine WL.eqlE1 ?_ | refine WL.item0 ?_ | refine WL.item ?_ | refine WL.itemsNil ?_ | refine WL.itemsTo ?_ | refine WL.itemsFrom ?_ | refine WL.yesA ?_ | refine WL.noA ?_ | refine WL.noUA ?_ | refine WC.seq ?_ | refine WC.region fun K hK => ?_ | refine WC.block ?_ | refine WC.skip ?_ | refine WC.exit ?_ | refine WC.ret ?_ | (refine WL.nil (hK _ _ ?_); clear hK K) | refine WX.then_n ?_ | refine WX.then_x ?_ | refine WX.then_r ?_ | refine WX.block_n ?_ | refine WX.block_r ?_ | refine WX.block_x ?_ | refine WX.block_oA ?_ )
  exact WX.ret1 rfl rfl ⟨rfl, Below.refl _ _⟩
/-- the first one of a heap -/
theorem top_int {kk : G.Key El_int} {B hp : Nat} {fid : FuncId} {v : Value} {l : List El_int} (w : World) (h : HObj_int w B hp fid v l) (hne : l ≠ []) :
    Calls Try.prog 25 #[.pointer (some ⟨hp, 0, none⟩)] w (Ret fun r w' => r = .int .i64 (lf l 0) ∧ w' = w) := by
  obtain ⟨g, cap, rfl, hS⟩ := h.own.toS enc_len_int hne
  have hn : 0 < l.length := List.length_pos_iff.2 hne
  have hb := h.blk
  have hr := hS.toRow
  refine calls_of (l := [.pointer (some ⟨hp, 0, none⟩)]) Try.func25 rfl Try.ntmps25 rfl ?_
  with_reducible repeat (first | refine WL.move ?_ | refine WL.assign ?_ | refine WL.ldKey ?_ | refine WL.ldId ?_ | refine WL.ldInt ?_ | refine WL.ldIt ?_ | refine WL.itemAddrN ?_ | refine WL.itemAddrP ?_ | refine WL.itemAddrM ?_ | refine WL.toU ?_ | refine WL.shr1 ?_ | refine WL.toI ?_ | refine WL.sub1N ?_ | refine WL.subN ?_ | refine WL.neqItem ?_ | refine WL.eqIt ?_ | refine WL.eqBool ?_ | refine WL.neqBool ?_ | refine WL.quoN ?_ | refine WL.quo2N ?_ | refine WL.intAddrN ?_ | refine WL.intAddrM ?_ | refine WL.intAddr ?_ | refine WL.lenInts ?_ | refine WL.intsTo ?_ | refine WL.intsFrom ?_ | refine WL.lss ?_ | refine WL.leq ?_ | refine WL.gtr ?_ | refine WL.geq ?_ | refine WL.add ?_ | refine WL.sub ?_ | refine WL.mul ?_ | refine WL.quo ?_ | refine WL.rem ?_ | refine WL.eqlI ?_ | refine WL.neqI ?_ | refine WL.not ?_ | refine WL.pick_t ?_ | refine WL.pick_f ?_ | refine WL.extract ?_ | refine WL.lenItems ?_ | refine WL.errI ?_ | refine WL.keyAddr ?_ | refine WL.idAddr ?_ | refine WL.itemAddr ?_ | refine WL.neqE0 ?_ | refine WL.neqE1 ?_ | refine WL.eqlE0 ?_ | refine WL.eqlE1 ?_ | refine WL.item0 ?_ | refine WL.item ?_ | refine WL.itemsNil ?_ | refine WL.itemsTo ?_ | refine WL.itemsFrom ?_ | refine WL.yesA ?_ | refine WL.noA ?_ | refine WL.noUA ?_ | refine WC.seq ?_ | refine WC.region fun K hK => ?_ | refine WC.block ?_ | refine WC.skip ?_ | refine WC.exit ?_ | refine WC.ret ?_ | (refine WL.nil (hK _ _ ?_); clear hK K) | refine WX.then_n ?_ | refine WX.then_x ?_ | refine WX.then_r ?_ | refine WX.block_n ?_ | refine WX.block_r ?_ | refine WX.block_x ?_ | refine WX.block_oA ?_ | refine WL.nilP ?_ | refine WL.hItems_int ?_ | refine WL.ldCS ?_)
  exact WX.ret1 rfl rfl ⟨rfl, rfl⟩
theorem top_is {kk : G.Key El_int} {B hp : Nat} {fid : FuncId} {v : Value} {l : List El_int} {w : World} (h : HObj_int w B hp fid v l) (hne : l ≠ []) : lf l 0 ∈ l ∧ ∀ y ∈ l, G.Key.key (lf l 0) ≤ G.Key.key y := by
  have hn : 0 < l.length := List.length_pos_iff.2 hne
  refine ⟨by rw [lf_get hn]; exact List.getElem_mem _, fun y hy => ?_⟩
  obtain ⟨i, hi, rfl⟩ := List.getElem_of_mem hy
  have := G.heap_least h.heap i hi
  rwa [lf_get hi] at this

/-- the places of those that are kept, as numbers -/
def plN (D : List (Nat × Int)) : List Int := D.map fun x => (x.1 : Int)
def kyN (D : List (Nat × Int)) : List Int := D.map (·.2)
theorem plN_len (D : List (Nat × Int)) : (plN D).length = D.length := by simp [plN]
theorem kyN_len (D : List (Nat × Int)) : (kyN D).length = D.length := by simp [kyN]
/-- a stream in memory; 'col' tells whose a block is -/
structure SSt (w : World) (B sp lp hp room seen : Nat) (vl vh kv lv : Value) (Ll Lh K P : List Int) (col : Nat → Nat) : Prop where
  blk : Bk w sp 54 [.pointer (some ⟨lp, 0, none⟩), .pointer (some ⟨hp, 0, none⟩), .int .i64 room, lv, .int .i64 seen, kv]
  base : B ≤ sp
  low : @HObj_int kLow w B lp fLow vl Ll
  high : @HObj_int kHigh w B hp fHigh vh Lh
  keys : OwnO inC 1 3 w B kv K
  last : OwnO inC 1 3 w B lv P
  c0 : col sp = 0
  c1 : ∀ g, hF lp vl g → col g = 1
  c2 : ∀ g, hF hp vh g → col g = 2
  c3 : ∀ g, kv.ownBlock = some g → col g = 3 ∧ g < w.heap.size ∧ B ≤ g
  c4 : ∀ g, lv.ownBlock = some g → col g = 4 ∧ g < w.heap.size ∧ B ≤ g
/-- all its blocks -/
def SF (sp lp hp : Nat) (vl vh kv lv : Value) : Nat → Prop := fun g => g = sp ∨ hF lp vl g ∨ hF hp vh g ∨ kv.ownBlock = some g ∨ lv.ownBlock = some g
def recol (w : World) (col : Nat → Nat) (c : Nat) : Nat → Nat := fun g => if g < w.heap.size then col g else c
section
variable {w w' : World} {B sp lp hp room seen : Nat} {vl vh kv lv vl' vh' kv' lv' : Value} {Ll Lh K P Ll' Lh' K' P' : List Int} {col : Nat → Nat} {F F' G : Nat → Prop}
theorem recol_old {c g : Nat} (h : g < w.heap.size) : recol w col c g = col g := if_pos h
theorem recol_new {c : Nat} (hc : Chg w w' F F') (h : ∀ g, F g → col g = c) : ∀ g, F' g → recol w col c g = c := fun g hg => by
  unfold recol
  rcases (hc.next g hg).1 with h1 | h1
  · split
    · exact h g h1
    · rfl
  · rw [if_neg (by omega)]
theorem Chg.widen {S S' : Nat → Prop} (hc : Chg w w' F F') (h1 : ∀ g, F g → S g) (h2 : ∀ g, S' g → F' g ∨ S g) (hl : ∀ g, S g → g < w.heap.size) : Chg w w' S S' :=
  ⟨hc.os, hc.tape, hc.output, hc.size, fun k hk hn => hc.block k hk (fun hf => hn (h1 k hf)), fun g hg => by
    rcases h2 g hg with h | h
    · exact ⟨(hc.next g h).1.imp (h1 g) id, (hc.next g h).2⟩
    · exact ⟨.inl h, Nat.lt_of_lt_of_le (hl g h) hc.size⟩⟩
theorem SSt.lt (h : SSt w B sp lp hp room seen vl vh kv lv Ll Lh K P col) : ∀ g, SF sp lp hp vl vh kv lv g → g < w.heap.size ∧ B ≤ g := by
  rintro g (rfl | h1 | h1 | h1 | h1)
  · exact ⟨h.blk.lt, h.base⟩
  · exact ⟨h.low.lt g h1, h.low.ge g h1⟩
  · exact ⟨h.high.lt g h1, h.high.ge g h1⟩
  · exact (h.c3 g h1).2
  · exact (h.c4 g h1).2
theorem SSt.chg (h : SSt w B sp lp hp room seen vl vh kv lv Ll Lh K P col) (hc : Chg w w' F F') (ha : Apart F (SF sp lp hp vl vh kv lv)) : SSt w' B sp lp hp room seen vl vh kv lv Ll Lh K P col :=
  ⟨h.blk.chg hc (fun hf => ha _ hf (.inl rfl)), h.base, h.low.chg hc (fun g a b => ha g a (.inr (.inl b))), h.high.chg hc (fun g a b => ha g a (.inr (.inr (.inl b)))),
    h.keys.chg hc (fun g a b => ha g a (.inr (.inr (.inr (.inl b))))) (fun g hg => (h.c3 g hg).2.1), h.last.chg hc (fun g a b => ha g a (.inr (.inr (.inr (.inr b))))) (fun g hg => (h.c4 g hg).2.1),
    h.c0, h.c1, h.c2, fun g hg => ⟨(h.c3 g hg).1, Nat.lt_of_lt_of_le (h.c3 g hg).2.1 hc.size, (h.c3 g hg).2.2⟩, fun g hg => ⟨(h.c4 g hg).1, Nat.lt_of_lt_of_le (h.c4 g hg).2.1 hc.size, (h.c4 g hg).2.2⟩⟩
theorem SSt.below (h : SSt w B sp lp hp room seen vl vh kv lv Ll Lh K P col) (hb : Below w.heap.size w w') : SSt w' B sp lp hp room seen vl vh kv lv Ll Lh K P col :=
  h.chg (Chg.of_below hb (F := fun _ => False) (fun _ h => h.elim)) (fun _ h _ => h.elim)
/-- the lesser half turned -/
theorem SSt.lowC (h : SSt w B sp lp hp room seen vl vh kv lv Ll Lh K P col) (hc : Chg w w' (hF lp vl) (hF lp vl')) (h' : @HObj_int kLow w' B lp fLow vl' Ll') :
    SSt w' B sp lp hp room seen vl' vh kv lv Ll' Lh K P (recol w col 1) ∧ Chg w w' (SF sp lp hp vl vh kv lv) (SF sp lp hp vl' vh kv lv) := by
  have hlt := h.lt
  have hap : ∀ (G : Nat → Prop) (c : Nat), c ≠ 1 → (∀ g, G g → col g = c) → Apart (hF lp vl) G := fun G c hne hG g a b => hne (by rw [← hG g b, h.c1 g a])
  refine ⟨⟨h.blk.chg hc (fun hf => by have := h.c1 _ hf; have := h.c0; omega), h.base, h', h.high.chg hc (hap _ 2 (by omega) h.c2), h.keys.chg hc (hap _ 3 (by omega) fun g hg => (h.c3 g hg).1) (fun g hg => (h.c3 g hg).2.1),
    h.last.chg hc (hap _ 4 (by omega) fun g hg => (h.c4 g hg).1) (fun g hg => (h.c4 g hg).2.1), ?_, recol_new hc h.c1, ?_, ?_, ?_⟩, hc.widen (fun g hg => .inr (.inl hg)) (fun g hg => ?_) (fun g hg => (hlt g hg).1)⟩
  · rw [recol_old h.blk.lt]; exact h.c0
  · intro g hg; rw [recol_old (h.high.lt g hg)]; exact h.c2 g hg
  · intro g hg; have := h.c3 g hg; rw [recol_old this.2.1]; exact ⟨this.1, Nat.lt_of_lt_of_le this.2.1 hc.size, this.2.2⟩
  · intro g hg; have := h.c4 g hg; rw [recol_old this.2.1]; exact ⟨this.1, Nat.lt_of_lt_of_le this.2.1 hc.size, this.2.2⟩
  · rcases hg with hg | hg | hg | hg | hg
    · exact .inr (.inl hg)
    · exact .inl hg
    · exact .inr (.inr (.inr (.inl hg)))
    · exact .inr (.inr (.inr (.inr (.inl hg))))
    · exact .inr (.inr (.inr (.inr (.inr hg))))
theorem SSt.highC (h : SSt w B sp lp hp room seen vl vh kv lv Ll Lh K P col) (hc : Chg w w' (hF hp vh) (hF hp vh')) (h' : @HObj_int kHigh w' B hp fHigh vh' Lh') :
    SSt w' B sp lp hp room seen vl vh' kv lv Ll Lh' K P (recol w col 2) ∧ Chg w w' (SF sp lp hp vl vh kv lv) (SF sp lp hp vl vh' kv lv) := by
  have hlt := h.lt
  have hap : ∀ (G : Nat → Prop) (c : Nat), c ≠ 2 → (∀ g, G g → col g = c) → Apart (hF hp vh) G := fun G c hne hG g a b => hne (by rw [← hG g b, h.c2 g a])
  refine ⟨⟨h.blk.chg hc (fun hf => by have := h.c2 _ hf; have := h.c0; omega), h.base, h.low.chg hc (hap _ 1 (by omega) h.c1), h', h.keys.chg hc (hap _ 3 (by omega) fun g hg => (h.c3 g hg).1) (fun g hg => (h.c3 g hg).2.1),
    h.last.chg hc (hap _ 4 (by omega) fun g hg => (h.c4 g hg).1) (fun g hg => (h.c4 g hg).2.1), ?_, ?_, recol_new hc h.c2, ?_, ?_⟩, hc.widen (fun g hg => .inr (.inr (.inl hg))) (fun g hg => ?_) (fun g hg => (hlt g hg).1)⟩
  · rw [recol_old h.blk.lt]; exact h.c0
  · intro g hg; rw [recol_old (h.low.lt g hg)]; exact h.c1 g hg
  · intro g hg; have := h.c3 g hg; rw [recol_old this.2.1]; exact ⟨this.1, Nat.lt_of_lt_of_le this.2.1 hc.size, this.2.2⟩
  · intro g hg; have := h.c4 g hg; rw [recol_old this.2.1]; exact ⟨this.1, Nat.lt_of_lt_of_le this.2.1 hc.size, this.2.2⟩
  · rcases hg with hg | hg | hg | hg | hg
    · exact .inr (.inl hg)
    · exact .inr (.inr (.inl hg))
    · exact .inl hg
    · exact .inr (.inr (.inr (.inr (.inl hg))))
    · exact .inr (.inr (.inr (.inr (.inr hg))))
/-- its own block was written -/
theorem SSt.write {room' seen' : Nat} (h : SSt w B sp lp hp room seen vl vh kv lv Ll Lh K P col) (hg : w.grownBy w' (some sp)) (hb : Bk w' sp 54 [.pointer (some ⟨lp, 0, none⟩), .pointer (some ⟨hp, 0, none⟩), .int .i64 room', lv', .int .i64 seen', kv'])
    (hk : OwnO inC 1 3 w' B kv' K') (hl : OwnO inC 1 3 w' B lv' P') (hkb : kv'.ownBlock = kv.ownBlock) (hlb : lv'.ownBlock = lv.ownBlock) :
    SSt w' B sp lp hp room' seen' vl vh kv' lv' Ll Lh K' P' col ∧ Chg w w' (SF sp lp hp vl vh kv lv) (SF sp lp hp vl vh kv' lv') := by
  have hc : Chg w w' (one sp) (one sp) := Chg.one hg h.blk.lt
  have hlt := h.lt
  refine ⟨⟨hb, h.base, h.low.chg hc (fun g a b => by cases a; have := h.c1 _ b; have := h.c0; omega), h.high.chg hc (fun g a b => by cases a; have := h.c2 _ b; have := h.c0; omega), hk, hl, h.c0, h.c1, h.c2, fun g hg' => ?_, fun g hg' => ?_⟩,
    hc.widen (fun g hg => .inl hg) (fun g hg' => .inr ?_) (fun g hg => (hlt g hg).1)⟩
  · have := h.c3 g (hkb ▸ hg'); exact ⟨this.1, Nat.lt_of_lt_of_le this.2.1 hg.size, this.2.2⟩
  · have := h.c4 g (hlb ▸ hg'); exact ⟨this.1, Nat.lt_of_lt_of_le this.2.1 hg.size, this.2.2⟩
  · rcases hg' with h1 | h1 | h1 | h1 | h1
    · exact .inl h1
    · exact .inr (.inl h1)
    · exact .inr (.inr (.inl h1))
    · exact .inr (.inr (.inr (.inl (hkb ▸ h1))))
    · exact .inr (.inr (.inr (.inr (hlb ▸ h1))))
end
theorem OwnO.keepsp {w w' : World} {B sp : Nat} {v : Value} {l : List Int} {c : Nat} {col : Nat → Nat} (h : OwnO inC 1 3 w B v l) (hg : w.grownBy w' (some sp)) (h0 : col sp = 0) (hc : ∀ g, v.ownBlock = some g → col g = c) (hne : c ≠ 0) : OwnO inC 1 3 w' B v l :=
  h.keep hg (by
    cases e : v.ownBlock with
    | none => exact .inl rfl
    | some g => right; intro e2; injection e2 with e2; subst e2; exact hne (by rw [← hc _ e, h0]))
/-- a stream: what came, and the blocks it owns -/
def Stream (w : World) (B sp room : Nat) (all : List Int) (F : Nat → Prop) : Prop :=
  ∃ lp hp vl vh kv lv Ll Lh D col, SSt w B sp lp hp room all.length vl vh kv lv Ll Lh (kyN D) (plN D) col ∧ Stm.Med all Ll Lh ∧ Stm.Dq all room D ∧ F = SF sp lp hp vl vh kv lv
section
variable {w w' : World} {B sp room : Nat} {all : List Int} {F G G' : Nat → Prop}
theorem Stream.lt (h : Stream w B sp room all F) : ∀ g, F g → g < w.heap.size ∧ B ≤ g := by
  obtain ⟨lp, hp, vl, vh, kv, lv, Ll, Lh, D, col, h1, _, _, rfl⟩ := h
  exact h1.lt
theorem Stream.chg (h : Stream w B sp room all F) (hc : Chg w w' G G') (ha : Apart G F) : Stream w' B sp room all F := by
  obtain ⟨lp, hp, vl, vh, kv, lv, Ll, Lh, D, col, h1, h2, h3, rfl⟩ := h
  exact ⟨lp, hp, vl, vh, kv, lv, Ll, Lh, D, col, h1.chg hc ha, h2, h3, rfl⟩
theorem Stream.below (h : Stream w B sp room all F) (hb : Below w.heap.size w w') : Stream w' B sp room all F := by
  obtain ⟨lp, hp, vl, vh, kv, lv, Ll, Lh, D, col, h1, h2, h3, rfl⟩ := h
  exact ⟨lp, hp, vl, vh, kv, lv, Ll, Lh, D, col, h1.below hb, h2, h3, rfl⟩
end
/-- what is wrong with a room -/
def roomErr (hi : Int) (room : Int) : Nat := if room < 1 ∨ hi < room then 1 else 0
def SNew (room : Int) (w : World) (v : Value) (w' : World) : Prop := Below w.heap.size w w' ∧ (roomErr 60 room ≠ 0 → v = .tuple #[.pointer none, errOf 1]) ∧
    (roomErr 60 room = 0 → ∃ sp F, v = .tuple #[.pointer (some ⟨sp, 0, none⟩), .nilIface] ∧ Stream w' w.heap.size sp room.toNat [] F)
theorem snew_any (room : Int) (w : World) : Calls Try.prog 7 #[.int .i64 room] w (Ret (SNew room w)) := by
  refine calls_of (l := [.int .i64 room]) Try.func7 rfl Try.ntmps7 rfl ?_
  with_reducible repeat (first | refine WL.move ?_ | refine WL.assign ?_ | refine WL.ldKey ?_ | refine WL.ldId ?_ | refine WL.ldInt ?_ | refine WL.ldIt ?_ | refine WL.itemAddrN ?_ | refine WL.itemAddrP ?_ | refine WL.itemAddrM ?_ | refine WL.toU ?_ | refine WL.shr1 ?_ | refine WL.toI ?_ | refine WL.sub1N ?_ | refine WL.subN ?_ | refine WL.neqItem ?_ | refine WL.eqIt ?_ | refine WL.eqBool ?_ | refine WL.neqBool ?_ | refine WL.quoN ?_ | refine WL.quo2N ?_ | refine WL.intAddrN ?_ | refine WL.intAddrM ?_ | refine WL.intAddr ?_ | refine WL.lenInts ?_ | refine WL.intsTo ?_ | refine WL.intsFrom ?_ | refine WL.lss ?_ | refine WL.leq ?_ | refine WL.gtr ?_ | refine WL.geq ?_ | refine WL.add ?_ | refine WL.sub ?_ | refine WL.mul ?_ | refine WL.quo ?_ | refine WL.rem ?_ | refine WL.eqlI ?_ | refine WL.neqI ?_ | refine WL.not ?_ | refine WL.pick_t ?_ | refine WL.pick_f ?_ | refine WL.extract ?_ | refine WL.lenItems ?_ | refine WL.errI ?_ | refine WL.keyAddr ?_ | refine WL.idAddr ?_ | refine WL.itemAddr ?_ | refine WL.neqE0 ?_ | refine WL.neqE1 ?_ | refine WL.eqlE0 ?_ | refine WL.eqlE1 ?_ | refine WL.item0 ?_ | refine WL.item ?_ | refine WL.itemsNil ?_ | refine WL.itemsTo ?_ | refine WL.itemsFrom ?_ | refine WL.yesA ?_ | refine WL.noA ?_ | refine WL.noUA ?_ | refine WC.seq ?_ | refine WC.region fun K hK => ?_ | refine WC.block ?_ | refine WC.skip ?_ | refine WC.exit ?_ | refine WC.ret ?_ | (refine WL.nil (hK _ _ ?_); clear hK K) | refine WX.then_n ?_ | refine WX.then_x ?_ | refine WX.then_r ?_ | refine WX.block_n ?_ | refine WX.block_r ?_ | refine WX.block_x ?_ | refine WX.block_oA ?_ )
  have hbad : (room < 1 ∨ 60 < room) → ∀ w', Below w.heap.size w w' → SNew room w (.tuple #[.pointer none, .iface 45 (.int .i64 1)]) w' := fun h w' hB =>
    ⟨hB, fun _ => rfl, fun h0 => absurd h0 (by unfold roomErr; rw [if_pos h]; omega)⟩
  refine WL.guard rfl rfl (fun h0 => ?_) (fun h0 => ?_)
  · have h0' := of_decide_eq_true h0
    with_reducible repeat (first | refine WL.move ?_ | refine WL.assign ?_ | refine WL.ldKey ?_ | refine WL.ldId ?_ | refine WL.ldInt ?_ | refine WL.ldIt ?_ | refine WL.itemAddrN ?_ | refine WL.itemAddrP ?_ | refine WL.itemAddrM ?_ | refine WL.toU ?_ | refine WL.shr1 ?_ | refine WL.toI ?_ | refine WL.sub1N ?_ | refine WL.subN ?_ | refine WL.neqItem ?_ | refine WL.eqIt ?_ | refine WL.eqBool ?_ | refine WL.neqBool ?_ | refine WL.quoN ?_ | refine WL.quo2N ?_ | refine WL.intAddrN ?_ | refine WL.intAddrM ?_ | refine WL.intAddr ?_ | refine WL.lenInts ?_ | refine WL.intsTo ?_ | refine WL.intsFrom ?_ | refine WL.lss ?_ | refine WL.leq ?_ | refine WL.gtr ?_ | refine WL.geq ?_ | refine WL.add ?_ | refine WL.sub ?_ | refine WL.mul ?_ | refine WL.quo ?_ | refine WL.rem ?_ | refine WL.eqlI ?_ | refine WL.neqI ?_ | refine WL.not ?_ | refine WL.pick_t ?_ | refine WL.pick_f ?_ | refine WL.extract ?_ | refine WL.lenItems ?_ | refine WL.errI ?_ | refine WL.keyAddr ?_ | refine WL.idAddr ?_ | refine WL.itemAddr ?_ | refine WL.neqE0 ?_ | refine WL.neqE1 ?_ | refine WL.eqlE0 ?_ | refine WL.eqlE1 ?_ | refine WL.item0 ?_ | refine WL.item ?_ | refine WL.itemsNil ?_ | refine WL.itemsTo ?_ | refine WL.itemsFrom ?_ | refine WL.yesA ?_ | refine WL.noA ?_ | refine WL.noUA ?_ | refine WC.seq ?_ | refine WC.region fun K hK => ?_ | refine WC.block ?_ | refine WC.skip ?_ | refine WC.exit ?_ | refine WC.ret ?_ | (refine WL.nil (hK _ _ ?_); clear hK K) | refine WX.then_n ?_ | refine WX.then_x ?_ | refine WX.then_r ?_ | refine WX.block_n ?_ | refine WX.block_r ?_ | refine WX.block_x ?_ | refine WX.block_oA ?_ )
    refine WC.cond_true rfl ?_
    with_reducible repeat (first | refine WL.move ?_ | refine WL.assign ?_ | refine WL.ldKey ?_ | refine WL.ldId ?_ | refine WL.ldInt ?_ | refine WL.ldIt ?_ | refine WL.itemAddrN ?_ | refine WL.itemAddrP ?_ | refine WL.itemAddrM ?_ | refine WL.toU ?_ | refine WL.shr1 ?_ | refine WL.toI ?_ | refine WL.sub1N ?_ | refine WL.subN ?_ | refine WL.neqItem ?_ | refine WL.eqIt ?_ | refine WL.eqBool ?_ | refine WL.neqBool ?_ | refine WL.quoN ?_ | refine WL.quo2N ?_ | refine WL.intAddrN ?_ | refine WL.intAddrM ?_ | refine WL.intAddr ?_ | refine WL.lenInts ?_ | refine WL.intsTo ?_ | refine WL.intsFrom ?_ | refine WL.lss ?_ | refine WL.leq ?_ | refine WL.gtr ?_ | refine WL.geq ?_ | refine WL.add ?_ | refine WL.sub ?_ | refine WL.mul ?_ | refine WL.quo ?_ | refine WL.rem ?_ | refine WL.eqlI ?_ | refine WL.neqI ?_ | refine WL.not ?_ | refine WL.pick_t ?_ | refine WL.pick_f ?_ | refine WL.extract ?_ | refine WL.lenItems ?_ | refine WL.errI ?_ | refine WL.keyAddr ?_ | refine WL.idAddr ?_ | refine WL.itemAddr ?_ | refine WL.neqE0 ?_ | refine WL.neqE1 ?_ | refine WL.eqlE0 ?_ | refine WL.eqlE1 ?_ | refine WL.item0 ?_ | refine WL.item ?_ | refine WL.itemsNil ?_ | refine WL.itemsTo ?_ | refine WL.itemsFrom ?_ | refine WL.yesA ?_ | refine WL.noA ?_ | refine WL.noUA ?_ | refine WC.seq ?_ | refine WC.region fun K hK => ?_ | refine WC.block ?_ | refine WC.skip ?_ | refine WC.exit ?_ | refine WC.ret ?_ | (refine WL.nil (hK _ _ ?_); clear hK K) | refine WX.then_n ?_ | refine WX.then_x ?_ | refine WX.then_r ?_ | refine WX.block_n ?_ | refine WX.block_r ?_ | refine WX.block_x ?_ | refine WX.block_oA ?_ )
    exact WX.ret2 rfl rfl rfl (hbad (.inl h0') _ (Below.refl _ _))
  · have h0' := of_decide_eq_false h0
    with_reducible repeat (first | refine WL.move ?_ | refine WL.assign ?_ | refine WL.ldKey ?_ | refine WL.ldId ?_ | refine WL.ldInt ?_ | refine WL.ldIt ?_ | refine WL.itemAddrN ?_ | refine WL.itemAddrP ?_ | refine WL.itemAddrM ?_ | refine WL.toU ?_ | refine WL.shr1 ?_ | refine WL.toI ?_ | refine WL.sub1N ?_ | refine WL.subN ?_ | refine WL.neqItem ?_ | refine WL.eqIt ?_ | refine WL.eqBool ?_ | refine WL.neqBool ?_ | refine WL.quoN ?_ | refine WL.quo2N ?_ | refine WL.intAddrN ?_ | refine WL.intAddrM ?_ | refine WL.intAddr ?_ | refine WL.lenInts ?_ | refine WL.intsTo ?_ | refine WL.intsFrom ?_ | refine WL.lss ?_ | refine WL.leq ?_ | refine WL.gtr ?_ | refine WL.geq ?_ | refine WL.add ?_ | refine WL.sub ?_ | refine WL.mul ?_ | refine WL.quo ?_ | refine WL.rem ?_ | refine WL.eqlI ?_ | refine WL.neqI ?_ | refine WL.not ?_ | refine WL.pick_t ?_ | refine WL.pick_f ?_ | refine WL.extract ?_ | refine WL.lenItems ?_ | refine WL.errI ?_ | refine WL.keyAddr ?_ | refine WL.idAddr ?_ | refine WL.itemAddr ?_ | refine WL.neqE0 ?_ | refine WL.neqE1 ?_ | refine WL.eqlE0 ?_ | refine WL.eqlE1 ?_ | refine WL.item0 ?_ | refine WL.item ?_ | refine WL.itemsNil ?_ | refine WL.itemsTo ?_ | refine WL.itemsFrom ?_ | refine WL.yesA ?_ | refine WL.noA ?_ | refine WL.noUA ?_ | refine WC.seq ?_ | refine WC.region fun K hK => ?_ | refine WC.block ?_ | refine WC.skip ?_ | refine WC.exit ?_ | refine WC.ret ?_ | (refine WL.nil (hK _ _ ?_); clear hK K) | refine WX.then_n ?_ | refine WX.then_x ?_ | refine WX.then_r ?_ | refine WX.block_n ?_ | refine WX.block_r ?_ | refine WX.block_x ?_ | refine WX.block_oA ?_ )
    refine WC.condD rfl (fun h1 => ?_) (fun h1 => ?_)
    · with_reducible repeat (first | refine WL.move ?_ | refine WL.assign ?_ | refine WL.ldKey ?_ | refine WL.ldId ?_ | refine WL.ldInt ?_ | refine WL.ldIt ?_ | refine WL.itemAddrN ?_ | refine WL.itemAddrP ?_ | refine WL.itemAddrM ?_ | refine WL.toU ?_ | refine WL.shr1 ?_ | refine WL.toI ?_ | refine WL.sub1N ?_ | refine WL.subN ?_ | refine WL.neqItem ?_ | refine WL.eqIt ?_ | refine WL.eqBool ?_ | refine WL.neqBool ?_ | refine WL.quoN ?_ | refine WL.quo2N ?_ | refine WL.intAddrN ?_ | refine WL.intAddrM ?_ | refine WL.intAddr ?_ | refine WL.lenInts ?_ | refine WL.intsTo ?_ | refine WL.intsFrom ?_ | refine WL.lss ?_ | refine WL.leq ?_ | refine WL.gtr ?_ | refine WL.geq ?_ | refine WL.add ?_ | refine WL.sub ?_ | refine WL.mul ?_ | refine WL.quo ?_ | refine WL.rem ?_ | refine WL.eqlI ?_ | refine WL.neqI ?_ | refine WL.not ?_ | refine WL.pick_t ?_ | refine WL.pick_f ?_ | refine WL.extract ?_ | refine WL.lenItems ?_ | refine WL.errI ?_ | refine WL.keyAddr ?_ | refine WL.idAddr ?_ | refine WL.itemAddr ?_ | refine WL.neqE0 ?_ | refine WL.neqE1 ?_ | refine WL.eqlE0 ?_ | refine WL.eqlE1 ?_ | refine WL.item0 ?_ | refine WL.item ?_ | refine WL.itemsNil ?_ | refine WL.itemsTo ?_ | refine WL.itemsFrom ?_ | refine WL.yesA ?_ | refine WL.noA ?_ | refine WL.noUA ?_ | refine WC.seq ?_ | refine WC.region fun K hK => ?_ | refine WC.block ?_ | refine WC.skip ?_ | refine WC.exit ?_ | refine WC.ret ?_ | (refine WL.nil (hK _ _ ?_); clear hK K) | refine WX.then_n ?_ | refine WX.then_x ?_ | refine WX.then_r ?_ | refine WX.block_n ?_ | refine WX.block_r ?_ | refine WX.block_x ?_ | refine WX.block_oA ?_ )
      exact WX.ret2 rfl rfl rfl (hbad (.inr h1) _ (Below.refl _ _))
    · obtain ⟨r, rfl⟩ : ∃ r : Nat, room = r := ⟨room.toNat, by omega⟩
      with_reducible repeat (first | refine WL.move ?_ | refine WL.assign ?_ | refine WL.ldKey ?_ | refine WL.ldId ?_ | refine WL.ldInt ?_ | refine WL.ldIt ?_ | refine WL.itemAddrN ?_ | refine WL.itemAddrP ?_ | refine WL.itemAddrM ?_ | refine WL.toU ?_ | refine WL.shr1 ?_ | refine WL.toI ?_ | refine WL.sub1N ?_ | refine WL.subN ?_ | refine WL.neqItem ?_ | refine WL.eqIt ?_ | refine WL.eqBool ?_ | refine WL.neqBool ?_ | refine WL.quoN ?_ | refine WL.quo2N ?_ | refine WL.intAddrN ?_ | refine WL.intAddrM ?_ | refine WL.intAddr ?_ | refine WL.lenInts ?_ | refine WL.intsTo ?_ | refine WL.intsFrom ?_ | refine WL.lss ?_ | refine WL.leq ?_ | refine WL.gtr ?_ | refine WL.geq ?_ | refine WL.add ?_ | refine WL.sub ?_ | refine WL.mul ?_ | refine WL.quo ?_ | refine WL.rem ?_ | refine WL.eqlI ?_ | refine WL.neqI ?_ | refine WL.not ?_ | refine WL.pick_t ?_ | refine WL.pick_f ?_ | refine WL.extract ?_ | refine WL.lenItems ?_ | refine WL.errI ?_ | refine WL.keyAddr ?_ | refine WL.idAddr ?_ | refine WL.itemAddr ?_ | refine WL.neqE0 ?_ | refine WL.neqE1 ?_ | refine WL.eqlE0 ?_ | refine WL.eqlE1 ?_ | refine WL.item0 ?_ | refine WL.item ?_ | refine WL.itemsNil ?_ | refine WL.itemsTo ?_ | refine WL.itemsFrom ?_ | refine WL.yesA ?_ | refine WL.noA ?_ | refine WL.noUA ?_ | refine WC.seq ?_ | refine WC.region fun K hK => ?_ | refine WC.block ?_ | refine WC.skip ?_ | refine WC.exit ?_ | refine WC.ret ?_ | (refine WL.nil (hK _ _ ?_); clear hK K) | refine WX.then_n ?_ | refine WX.then_x ?_ | refine WX.then_r ?_ | refine WX.block_n ?_ | refine WX.block_r ?_ | refine WX.block_x ?_ | refine WX.block_oA ?_ )
      refine WL.call (OpC.static Try.func19 (by kernel_rfl) rfl rfl) rfl (@new_int kLow fLow _) ?_
      rintro v w1 ⟨rfl, hH1, hB1⟩
      with_reducible repeat (first | refine WL.move ?_ | refine WL.assign ?_ | refine WL.ldKey ?_ | refine WL.ldId ?_ | refine WL.ldInt ?_ | refine WL.ldIt ?_ | refine WL.itemAddrN ?_ | refine WL.itemAddrP ?_ | refine WL.itemAddrM ?_ | refine WL.toU ?_ | refine WL.shr1 ?_ | refine WL.toI ?_ | refine WL.sub1N ?_ | refine WL.subN ?_ | refine WL.neqItem ?_ | refine WL.eqIt ?_ | refine WL.eqBool ?_ | refine WL.neqBool ?_ | refine WL.quoN ?_ | refine WL.quo2N ?_ | refine WL.intAddrN ?_ | refine WL.intAddrM ?_ | refine WL.intAddr ?_ | refine WL.lenInts ?_ | refine WL.intsTo ?_ | refine WL.intsFrom ?_ | refine WL.lss ?_ | refine WL.leq ?_ | refine WL.gtr ?_ | refine WL.geq ?_ | refine WL.add ?_ | refine WL.sub ?_ | refine WL.mul ?_ | refine WL.quo ?_ | refine WL.rem ?_ | refine WL.eqlI ?_ | refine WL.neqI ?_ | refine WL.not ?_ | refine WL.pick_t ?_ | refine WL.pick_f ?_ | refine WL.extract ?_ | refine WL.lenItems ?_ | refine WL.errI ?_ | refine WL.keyAddr ?_ | refine WL.idAddr ?_ | refine WL.itemAddr ?_ | refine WL.neqE0 ?_ | refine WL.neqE1 ?_ | refine WL.eqlE0 ?_ | refine WL.eqlE1 ?_ | refine WL.item0 ?_ | refine WL.item ?_ | refine WL.itemsNil ?_ | refine WL.itemsTo ?_ | refine WL.itemsFrom ?_ | refine WL.yesA ?_ | refine WL.noA ?_ | refine WL.noUA ?_ | refine WC.seq ?_ | refine WC.region fun K hK => ?_ | refine WC.block ?_ | refine WC.skip ?_ | refine WC.exit ?_ | refine WC.ret ?_ | (refine WL.nil (hK _ _ ?_); clear hK K) | refine WX.then_n ?_ | refine WX.then_x ?_ | refine WX.then_r ?_ | refine WX.block_n ?_ | refine WX.block_r ?_ | refine WX.block_x ?_ | refine WX.block_oA ?_ )
      refine WL.call (OpC.static Try.func19 (by kernel_rfl) rfl rfl) rfl (@new_int kHigh fHigh _) ?_
      rintro v w2 ⟨rfl, hH2, hB2⟩
      with_reducible repeat (first | refine WL.move ?_ | refine WL.assign ?_ | refine WL.ldKey ?_ | refine WL.ldId ?_ | refine WL.ldInt ?_ | refine WL.ldIt ?_ | refine WL.itemAddrN ?_ | refine WL.itemAddrP ?_ | refine WL.itemAddrM ?_ | refine WL.toU ?_ | refine WL.shr1 ?_ | refine WL.toI ?_ | refine WL.sub1N ?_ | refine WL.subN ?_ | refine WL.neqItem ?_ | refine WL.eqIt ?_ | refine WL.eqBool ?_ | refine WL.neqBool ?_ | refine WL.quoN ?_ | refine WL.quo2N ?_ | refine WL.intAddrN ?_ | refine WL.intAddrM ?_ | refine WL.intAddr ?_ | refine WL.lenInts ?_ | refine WL.intsTo ?_ | refine WL.intsFrom ?_ | refine WL.lss ?_ | refine WL.leq ?_ | refine WL.gtr ?_ | refine WL.geq ?_ | refine WL.add ?_ | refine WL.sub ?_ | refine WL.mul ?_ | refine WL.quo ?_ | refine WL.rem ?_ | refine WL.eqlI ?_ | refine WL.neqI ?_ | refine WL.not ?_ | refine WL.pick_t ?_ | refine WL.pick_f ?_ | refine WL.extract ?_ | refine WL.lenItems ?_ | refine WL.errI ?_ | refine WL.keyAddr ?_ | refine WL.idAddr ?_ | refine WL.itemAddr ?_ | refine WL.neqE0 ?_ | refine WL.neqE1 ?_ | refine WL.eqlE0 ?_ | refine WL.eqlE1 ?_ | refine WL.item0 ?_ | refine WL.item ?_ | refine WL.itemsNil ?_ | refine WL.itemsTo ?_ | refine WL.itemsFrom ?_ | refine WL.yesA ?_ | refine WL.noA ?_ | refine WL.noUA ?_ | refine WC.seq ?_ | refine WC.region fun K hK => ?_ | refine WC.block ?_ | refine WC.skip ?_ | refine WC.exit ?_ | refine WC.ret ?_ | (refine WL.nil (hK _ _ ?_); clear hK K) | refine WX.then_n ?_ | refine WX.then_x ?_ | refine WX.then_r ?_ | refine WX.block_n ?_ | refine WX.block_r ?_ | refine WX.block_x ?_ | refine WX.block_oA ?_ | refine WL.mk3_TS ?_)
      refine WL.boxOp rfl rfl fun w3 hg3 hb3 hz3 => ?_
      have hB3 := below_of_grown hg3
      with_reducible repeat (first | refine WL.move ?_ | refine WL.assign ?_ | refine WL.ldKey ?_ | refine WL.ldId ?_ | refine WL.ldInt ?_ | refine WL.ldIt ?_ | refine WL.itemAddrN ?_ | refine WL.itemAddrP ?_ | refine WL.itemAddrM ?_ | refine WL.toU ?_ | refine WL.shr1 ?_ | refine WL.toI ?_ | refine WL.sub1N ?_ | refine WL.subN ?_ | refine WL.neqItem ?_ | refine WL.eqIt ?_ | refine WL.eqBool ?_ | refine WL.neqBool ?_ | refine WL.quoN ?_ | refine WL.quo2N ?_ | refine WL.intAddrN ?_ | refine WL.intAddrM ?_ | refine WL.intAddr ?_ | refine WL.lenInts ?_ | refine WL.intsTo ?_ | refine WL.intsFrom ?_ | refine WL.lss ?_ | refine WL.leq ?_ | refine WL.gtr ?_ | refine WL.geq ?_ | refine WL.add ?_ | refine WL.sub ?_ | refine WL.mul ?_ | refine WL.quo ?_ | refine WL.rem ?_ | refine WL.eqlI ?_ | refine WL.neqI ?_ | refine WL.not ?_ | refine WL.pick_t ?_ | refine WL.pick_f ?_ | refine WL.extract ?_ | refine WL.lenItems ?_ | refine WL.errI ?_ | refine WL.keyAddr ?_ | refine WL.idAddr ?_ | refine WL.itemAddr ?_ | refine WL.neqE0 ?_ | refine WL.neqE1 ?_ | refine WL.eqlE0 ?_ | refine WL.eqlE1 ?_ | refine WL.item0 ?_ | refine WL.item ?_ | refine WL.itemsNil ?_ | refine WL.itemsTo ?_ | refine WL.itemsFrom ?_ | refine WL.yesA ?_ | refine WL.noA ?_ | refine WL.noUA ?_ | refine WC.seq ?_ | refine WC.region fun K hK => ?_ | refine WC.block ?_ | refine WC.skip ?_ | refine WC.exit ?_ | refine WC.ret ?_ | (refine WL.nil (hK _ _ ?_); clear hK K) | refine WX.then_n ?_ | refine WX.then_x ?_ | refine WX.then_r ?_ | refine WX.block_n ?_ | refine WX.block_r ?_ | refine WX.block_x ?_ | refine WX.block_oA ?_ )
      have h1' : w.heap.size < w1.heap.size := hH1.bk.lt
      have h2' : w1.heap.size < w2.heap.size := hH2.bk.lt
      refine WX.ret2 rfl rfl rfl ⟨hB1.tr (hB2.tr hB3), fun h => absurd (show roomErr 60 (r : Int) = 0 from if_neg (by omega)) h, fun _ => ⟨w2.heap.size, _, rfl, w.heap.size, w1.heap.size, .slice none 0 0, .slice none 0 0, .slice none 0 0, .slice none 0 0, [], [], [],
        fun g => if g = w.heap.size then 1 else if g = w1.heap.size then 2 else 0, ⟨hb3, by omega, (hH1.below hB2).below hB3, ?_, OwnO.nil _ _ _ _ _ _, OwnO.nil _ _ _ _ _ _, ?_, ?_, ?_, ?_, ?_⟩, Stm.med_nil, Stm.dq_nil _, rfl⟩⟩
      · exact (hH2.below hB3).re (by omega)
      · show (if w2.heap.size = w.heap.size then 1 else if w2.heap.size = w1.heap.size then 2 else 0) = 0
        rw [if_neg (by omega), if_neg (by omega)]
      · rintro g (rfl | hg)
        · simp
        · simp [Value.ownBlock] at hg
      · rintro g (rfl | hg)
        · show (if w1.heap.size = w.heap.size then 1 else if w1.heap.size = w1.heap.size then 2 else 0) = 2
          rw [if_neg (by omega), if_pos rfl]
        · simp [Value.ownBlock] at hg
      · intro g hg; simp [Value.ownBlock] at hg
      · intro g hg; simp [Value.ownBlock] at hg
end Rk
