/- The walk's own rules, shorter: numbers. -/
import Derived.Test.YthdiheblgmddhaaDoorTyI
import Derived.Test.YthdiheblgmddhaaDoorEx
namespace Rk
open Go Go.RowKit Go.Proofs
section
variable {E : Env} {w : World} {t : TypeId} {x y : Operand}
theorem OpV.sliceLH {P : Program} {xt e : TypeId} {agg : Bool} {sz bytes : Nat} {z : Value} {A : Option Addr} {n c j1 j2 : Nat} {k k2 : IntKind} {lo hi : Operand} (ht : P.underlying xt = some (.slice e)) (ty : Ty P e agg sz bytes z) (hx : evE E x = some (.slice A n c))
    (hl : evE E lo = some (.int k (j1 : Int))) (hh : evE E hi = some (.int k2 (j2 : Int))) (h0 : j1 ≤ j2) (hc : j2 ≤ c) :
    OpV P (.slice xt x (some lo) (some hi) none) t E w (.slice (if c = j1 then A else A.map (·.add (j1 * sz))) (j2 - j1) (c - j1)) w := fun ρ hρ _ _ _ _ => by
  have h1 : (j1 : Int) ≤ (j2 : Int) := by omega
  have h2 : (j2 : Int) ≤ (c : Int) := by omega
  have h3 : (j1 : Int) ≤ (c : Int) := by omega
  simp [execOp, hρ _ _ hx, hρ _ _ hl, hρ _ _ hh, Instr.sliceAt, Instr.slice, Instr.sliceBounds, Instr.sliceBound, asIntOf, run_underlying ht, h0, hc, h1, h2, h3, ty.size]
end
theorem unBoolT : Tryd.prog.underlying 4 = some .bool := by kernel_rfl
section
variable {E : Env} {w : World} {t : TypeId} {x y : Operand} {bk o n c : Nat}
theorem OpV.subN {x y : Operand} {a b : Nat} {xt yt : TypeId} (hx : evE E x = some (.int .i64 (a : Int))) (hy : evE E y = some (.int .i64 (b : Int))) (h : b ≤ a ∧ a ≤ 9223372036854775807) :
    OpV Tryd.prog (.binOp .sub xt x y yt) t E w (.int .i64 ((a - b : Nat) : Int)) w := by
  rw [show ((a - b : Nat) : Int) = (a : Int) - (b : Int) from by omega]
  exact OpV.sub hx hy (by omega)
theorem OpV.eqBool {x y : Operand} {a b : Bool} (hx : evE E x = some (.bool a)) (hy : evE E y = some (.bool b)) :
    OpV Tryd.prog (.binOp .eql 4 x y 4) t E w (.bool (a == b)) w := OpV.eqlB unBoolT hx hy
theorem OpV.neqBool {x y : Operand} {a b : Bool} (hx : evE E x = some (.bool a)) (hy : evE E y = some (.bool b)) :
    OpV Tryd.prog (.binOp .neq 4 x y 4) t E w (.bool (!(a == b))) w := fun ρ hρ _ _ _ _ => by
  simp [execOp, hρ _ _ hx, hρ _ _ hy, go_sem, eqGuard, unBoolT, bne]
theorem OpV.quoN {a b : Nat} {xt yt : TypeId} (hx : evE E x = some (.int .i64 (a : Int))) (hy : evE E y = some (.int .i64 (b : Int))) (h : a ≤ 9223372036854775807) (hb : 0 < b) :
    OpV Tryd.prog (.binOp .quo xt x y yt) t E w (.int .i64 ((a / b : Nat) : Int)) w := by
  rw [show ((a / b : Nat) : Int) = (a : Int) / (b : Int) from by simp]
  exact OpV.quo hx hy (by omega) (by omega)
theorem OpV.quo2N {a : Nat} {xt yt : TypeId} (hx : evE E x = some (.int .i64 (a : Int))) (hy : evE E y = some (.int .i64 2)) (h : a ≤ 9223372036854775807) :
    OpV Tryd.prog (.binOp .quo xt x y yt) t E w (.int .i64 ((a / 2 : Nat) : Int)) w := by
  rw [show ((a / 2 : Nat) : Int) = (a : Int) / 2 from by simp]
  exact OpV.quo hx hy (by omega) (by omega)
theorem OpV.sub1N {a : Nat} {xt yt : TypeId} (hx : evE E x = some (.int .i64 (a : Int))) (hy : evE E y = some (.int .i64 1)) (h : 1 ≤ a ∧ a ≤ 9223372036854775807) :
    OpV Tryd.prog (.binOp .sub xt x y yt) t E w (.int .i64 ((a - 1 : Nat) : Int)) w := by
  rw [show ((a - 1 : Nat) : Int) = (a : Int) - 1 from by omega]
  exact OpV.sub hx hy (by omega)
section
variable {ops : Array Oper} {K : Env → World → Prop} {N d_ : Nat} {rest : List Oper} {pos : String} {after : Array Edge} {C : World → Prop} {R : Env → Prop}
theorem WL.sliceLH {P : Program} {xt e : TypeId} {agg : Bool} {sz bytes : Nat} {z : Value} {A : Option Addr} {n c j1 j2 : Nat} {k k2 : IntKind} {lo hi : Operand} (ht : P.underlying xt = some (.slice e)) (ty : Ty P e agg sz bytes z) (hx : evE E x = some (.slice A n c)) (hl : evE E lo = some (.int k (j1 : Int))) (hh : evE E hi = some (.int k2 (j2 : Int))) (h0 : j1 ≤ j2) (hc : j2 ≤ c) (hd_ : Nat.blt d_ N = true) (h_ : WL P ops K N ((d_, (.slice (if c = j1 then A else A.map (·.add (j1 * sz))) (j2 - j1) (c - j1))) :: E) rest w) :
    WL P ops K N E (⟨some d_, .slice xt x (some lo) (some hi) none, t, pos, after, none⟩ :: rest) w := WL.step (OpV.sliceLH ht ty hx hl hh h0 hc) hd_ h_
theorem QL.sliceLH {P : Program} {xt e : TypeId} {agg : Bool} {sz bytes : Nat} {z : Value} {A : Option Addr} {n c j1 j2 : Nat} {k k2 : IntKind} {lo hi : Operand} (ht : P.underlying xt = some (.slice e)) (ty : Ty P e agg sz bytes z) (hx : evE E x = some (.slice A n c)) (hl : evE E lo = some (.int k (j1 : Int))) (hh : evE E hi = some (.int k2 (j2 : Int))) (h0 : j1 ≤ j2) (hc : j2 ≤ c) (hd_ : Nat.blt d_ N = true) (h_ : QL P ops C R N ((d_, (.slice (if c = j1 then A else A.map (·.add (j1 * sz))) (j2 - j1) (c - j1))) :: E) rest) :
    QL P ops C R N E (⟨some d_, .slice xt x (some lo) (some hi) none, t, pos, after, none⟩ :: rest) := QL.step (fun _ _ => OpV.sliceLH ht ty hx hl hh h0 hc) hd_ h_
theorem RL.sliceLH {P : Program} {xt e : TypeId} {agg : Bool} {sz bytes : Nat} {z : Value} {A : Option Addr} {n c j1 j2 : Nat} {k k2 : IntKind} {lo hi : Operand} (ht : P.underlying xt = some (.slice e)) (ty : Ty P e agg sz bytes z) (hx : evE E x = some (.slice A n c)) (hl : evE E lo = some (.int k (j1 : Int))) (hh : evE E hi = some (.int k2 (j2 : Int))) (h0 : j1 ≤ j2) (hc : j2 ≤ c) (hd_ : Nat.blt d_ N = true) (h_ : R ((d_, (.slice (if c = j1 then A else A.map (·.add (j1 * sz))) (j2 - j1) (c - j1))) :: E)) :
    RL P ops C R N E ⟨some d_, .slice xt x (some lo) (some hi) none, t, pos, after, none⟩ := RL.step (fun _ _ => OpV.sliceLH ht ty hx hl hh h0 hc) hd_ h_
theorem WL.subN {x y : Operand} {a b : Nat} {xt yt : TypeId} (h_ : WL Tryd.prog ops K N ((d_, (.int .i64 ((a - b : Nat) : Int))) :: E) rest w) (hx : evE E x = some (.int .i64 (a : Int)) := by with_unfolding_all exact rfl) (hy : evE E y = some (.int .i64 (b : Int)) := by with_unfolding_all exact rfl) (h : b ≤ a ∧ a ≤ 9223372036854775807 := by omega) (hd_ : Nat.blt d_ N = true := by with_unfolding_all exact rfl) :
    WL Tryd.prog ops K N E (⟨some d_, .binOp .sub xt x y yt, t, pos, after, none⟩ :: rest) w := WL.step (OpV.subN hx hy h) hd_ h_
theorem QL.subN {x y : Operand} {a b : Nat} {xt yt : TypeId} (h_ : QL Tryd.prog ops C R N ((d_, (.int .i64 ((a - b : Nat) : Int))) :: E) rest) (hx : evE E x = some (.int .i64 (a : Int)) := by with_unfolding_all exact rfl) (hy : evE E y = some (.int .i64 (b : Int)) := by with_unfolding_all exact rfl) (h : b ≤ a ∧ a ≤ 9223372036854775807 := by omega) (hd_ : Nat.blt d_ N = true := by with_unfolding_all exact rfl) :
    QL Tryd.prog ops C R N E (⟨some d_, .binOp .sub xt x y yt, t, pos, after, none⟩ :: rest) := QL.step (fun _ _ => OpV.subN hx hy h) hd_ h_
theorem RL.subN {x y : Operand} {a b : Nat} {xt yt : TypeId} (h_ : R ((d_, (.int .i64 ((a - b : Nat) : Int))) :: E)) (hx : evE E x = some (.int .i64 (a : Int)) := by with_unfolding_all exact rfl) (hy : evE E y = some (.int .i64 (b : Int)) := by with_unfolding_all exact rfl) (h : b ≤ a ∧ a ≤ 9223372036854775807 := by omega) (hd_ : Nat.blt d_ N = true := by with_unfolding_all exact rfl) :
    RL Tryd.prog ops C R N E ⟨some d_, .binOp .sub xt x y yt, t, pos, after, none⟩ := RL.step (fun _ _ => OpV.subN hx hy h) hd_ h_
theorem WL.eqBool {x y : Operand} {a b : Bool} (h_ : WL Tryd.prog ops K N ((d_, (.bool (a == b))) :: E) rest w) (hx : evE E x = some (.bool a) := by with_unfolding_all exact rfl) (hy : evE E y = some (.bool b) := by with_unfolding_all exact rfl) (hd_ : Nat.blt d_ N = true := by with_unfolding_all exact rfl) :
    WL Tryd.prog ops K N E (⟨some d_, .binOp .eql 4 x y 4, t, pos, after, none⟩ :: rest) w := WL.step (OpV.eqBool hx hy) hd_ h_
theorem QL.eqBool {x y : Operand} {a b : Bool} (h_ : QL Tryd.prog ops C R N ((d_, (.bool (a == b))) :: E) rest) (hx : evE E x = some (.bool a) := by with_unfolding_all exact rfl) (hy : evE E y = some (.bool b) := by with_unfolding_all exact rfl) (hd_ : Nat.blt d_ N = true := by with_unfolding_all exact rfl) :
    QL Tryd.prog ops C R N E (⟨some d_, .binOp .eql 4 x y 4, t, pos, after, none⟩ :: rest) := QL.step (fun _ _ => OpV.eqBool hx hy) hd_ h_
theorem RL.eqBool {x y : Operand} {a b : Bool} (h_ : R ((d_, (.bool (a == b))) :: E)) (hx : evE E x = some (.bool a) := by with_unfolding_all exact rfl) (hy : evE E y = some (.bool b) := by with_unfolding_all exact rfl) (hd_ : Nat.blt d_ N = true := by with_unfolding_all exact rfl) :
    RL Tryd.prog ops C R N E ⟨some d_, .binOp .eql 4 x y 4, t, pos, after, none⟩ := RL.step (fun _ _ => OpV.eqBool hx hy) hd_ h_
theorem WL.neqBool {x y : Operand} {a b : Bool} (h_ : WL Tryd.prog ops K N ((d_, (.bool (!(a == b)))) :: E) rest w) (hx : evE E x = some (.bool a) := by with_unfolding_all exact rfl) (hy : evE E y = some (.bool b) := by with_unfolding_all exact rfl) (hd_ : Nat.blt d_ N = true := by with_unfolding_all exact rfl) :
    WL Tryd.prog ops K N E (⟨some d_, .binOp .neq 4 x y 4, t, pos, after, none⟩ :: rest) w := WL.step (OpV.neqBool hx hy) hd_ h_
theorem QL.neqBool {x y : Operand} {a b : Bool} (h_ : QL Tryd.prog ops C R N ((d_, (.bool (!(a == b)))) :: E) rest) (hx : evE E x = some (.bool a) := by with_unfolding_all exact rfl) (hy : evE E y = some (.bool b) := by with_unfolding_all exact rfl) (hd_ : Nat.blt d_ N = true := by with_unfolding_all exact rfl) :
    QL Tryd.prog ops C R N E (⟨some d_, .binOp .neq 4 x y 4, t, pos, after, none⟩ :: rest) := QL.step (fun _ _ => OpV.neqBool hx hy) hd_ h_
theorem RL.neqBool {x y : Operand} {a b : Bool} (h_ : R ((d_, (.bool (!(a == b)))) :: E)) (hx : evE E x = some (.bool a) := by with_unfolding_all exact rfl) (hy : evE E y = some (.bool b) := by with_unfolding_all exact rfl) (hd_ : Nat.blt d_ N = true := by with_unfolding_all exact rfl) :
    RL Tryd.prog ops C R N E ⟨some d_, .binOp .neq 4 x y 4, t, pos, after, none⟩ := RL.step (fun _ _ => OpV.neqBool hx hy) hd_ h_
theorem WL.quoN {a b : Nat} {xt yt : TypeId} (h_ : WL Tryd.prog ops K N ((d_, (.int .i64 ((a / b : Nat) : Int))) :: E) rest w) (hx : evE E x = some (.int .i64 (a : Int)) := by with_unfolding_all exact rfl) (hy : evE E y = some (.int .i64 (b : Int)) := by with_unfolding_all exact rfl) (h : a ≤ 9223372036854775807 := by omega) (hb : 0 < b := by omega) (hd_ : Nat.blt d_ N = true := by with_unfolding_all exact rfl) :
    WL Tryd.prog ops K N E (⟨some d_, .binOp .quo xt x y yt, t, pos, after, none⟩ :: rest) w := WL.step (OpV.quoN hx hy h hb) hd_ h_
theorem QL.quoN {a b : Nat} {xt yt : TypeId} (h_ : QL Tryd.prog ops C R N ((d_, (.int .i64 ((a / b : Nat) : Int))) :: E) rest) (hx : evE E x = some (.int .i64 (a : Int)) := by with_unfolding_all exact rfl) (hy : evE E y = some (.int .i64 (b : Int)) := by with_unfolding_all exact rfl) (h : a ≤ 9223372036854775807 := by omega) (hb : 0 < b := by omega) (hd_ : Nat.blt d_ N = true := by with_unfolding_all exact rfl) :
    QL Tryd.prog ops C R N E (⟨some d_, .binOp .quo xt x y yt, t, pos, after, none⟩ :: rest) := QL.step (fun _ _ => OpV.quoN hx hy h hb) hd_ h_
theorem RL.quoN {a b : Nat} {xt yt : TypeId} (h_ : R ((d_, (.int .i64 ((a / b : Nat) : Int))) :: E)) (hx : evE E x = some (.int .i64 (a : Int)) := by with_unfolding_all exact rfl) (hy : evE E y = some (.int .i64 (b : Int)) := by with_unfolding_all exact rfl) (h : a ≤ 9223372036854775807 := by omega) (hb : 0 < b := by omega) (hd_ : Nat.blt d_ N = true := by with_unfolding_all exact rfl) :
    RL Tryd.prog ops C R N E ⟨some d_, .binOp .quo xt x y yt, t, pos, after, none⟩ := RL.step (fun _ _ => OpV.quoN hx hy h hb) hd_ h_
theorem WL.quo2N {a : Nat} {xt yt : TypeId} (h_ : WL Tryd.prog ops K N ((d_, (.int .i64 ((a / 2 : Nat) : Int))) :: E) rest w) (hx : evE E x = some (.int .i64 (a : Int)) := by with_unfolding_all exact rfl) (hy : evE E y = some (.int .i64 2) := by with_unfolding_all exact rfl) (h : a ≤ 9223372036854775807 := by omega) (hd_ : Nat.blt d_ N = true := by with_unfolding_all exact rfl) :
    WL Tryd.prog ops K N E (⟨some d_, .binOp .quo xt x y yt, t, pos, after, none⟩ :: rest) w := WL.step (OpV.quo2N hx hy h) hd_ h_
theorem QL.quo2N {a : Nat} {xt yt : TypeId} (h_ : QL Tryd.prog ops C R N ((d_, (.int .i64 ((a / 2 : Nat) : Int))) :: E) rest) (hx : evE E x = some (.int .i64 (a : Int)) := by with_unfolding_all exact rfl) (hy : evE E y = some (.int .i64 2) := by with_unfolding_all exact rfl) (h : a ≤ 9223372036854775807 := by omega) (hd_ : Nat.blt d_ N = true := by with_unfolding_all exact rfl) :
    QL Tryd.prog ops C R N E (⟨some d_, .binOp .quo xt x y yt, t, pos, after, none⟩ :: rest) := QL.step (fun _ _ => OpV.quo2N hx hy h) hd_ h_
theorem RL.quo2N {a : Nat} {xt yt : TypeId} (h_ : R ((d_, (.int .i64 ((a / 2 : Nat) : Int))) :: E)) (hx : evE E x = some (.int .i64 (a : Int)) := by with_unfolding_all exact rfl) (hy : evE E y = some (.int .i64 2) := by with_unfolding_all exact rfl) (h : a ≤ 9223372036854775807 := by omega) (hd_ : Nat.blt d_ N = true := by with_unfolding_all exact rfl) :
    RL Tryd.prog ops C R N E ⟨some d_, .binOp .quo xt x y yt, t, pos, after, none⟩ := RL.step (fun _ _ => OpV.quo2N hx hy h) hd_ h_
theorem WL.sub1N {a : Nat} {xt yt : TypeId} (h_ : WL Tryd.prog ops K N ((d_, (.int .i64 ((a - 1 : Nat) : Int))) :: E) rest w) (hx : evE E x = some (.int .i64 (a : Int)) := by with_unfolding_all exact rfl) (hy : evE E y = some (.int .i64 1) := by with_unfolding_all exact rfl) (h : 1 ≤ a ∧ a ≤ 9223372036854775807 := by omega) (hd_ : Nat.blt d_ N = true := by with_unfolding_all exact rfl) :
    WL Tryd.prog ops K N E (⟨some d_, .binOp .sub xt x y yt, t, pos, after, none⟩ :: rest) w := WL.step (OpV.sub1N hx hy h) hd_ h_
theorem QL.sub1N {a : Nat} {xt yt : TypeId} (h_ : QL Tryd.prog ops C R N ((d_, (.int .i64 ((a - 1 : Nat) : Int))) :: E) rest) (hx : evE E x = some (.int .i64 (a : Int)) := by with_unfolding_all exact rfl) (hy : evE E y = some (.int .i64 1) := by with_unfolding_all exact rfl) (h : 1 ≤ a ∧ a ≤ 9223372036854775807 := by omega) (hd_ : Nat.blt d_ N = true := by with_unfolding_all exact rfl) :
    QL Tryd.prog ops C R N E (⟨some d_, .binOp .sub xt x y yt, t, pos, after, none⟩ :: rest) := QL.step (fun _ _ => OpV.sub1N hx hy h) hd_ h_
theorem RL.sub1N {a : Nat} {xt yt : TypeId} (h_ : R ((d_, (.int .i64 ((a - 1 : Nat) : Int))) :: E)) (hx : evE E x = some (.int .i64 (a : Int)) := by with_unfolding_all exact rfl) (hy : evE E y = some (.int .i64 1) := by with_unfolding_all exact rfl) (h : 1 ≤ a ∧ a ≤ 9223372036854775807 := by omega) (hd_ : Nat.blt d_ N = true := by with_unfolding_all exact rfl) :
    RL Tryd.prog ops C R N E ⟨some d_, .binOp .sub xt x y yt, t, pos, after, none⟩ := RL.step (fun _ _ => OpV.sub1N hx hy h) hd_ h_
end
end
end Rk
