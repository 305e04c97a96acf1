/- This translation's types, as the walk wants them: numbers and errors. -/
import Derived.Test.YthdiheblgmddhaaDoorApp
import Derived.Test.YthdiheblgmddhaaDoorProg
namespace Rk
open Go Go.RowKit Go.Proofs
theorem notT {b : Bool} (h : (!b) = true) : b = false := by cases b <;> simp_all
theorem notF {b : Bool} (h : (!b) = false) : b = true := by cases b <;> simp_all
theorem mixed : Tryd.prog.follows .mixedOrders = true := by kernel_rfl
theorem tyInt : Ty Tryd.prog 3 false 1 8 (.int .i64 0) := Ty.mk' (by kernel_rfl) (fun _ => by kernel_rfl) rfl
theorem unErr : Tryd.prog.underlying 24 = some (.interface (Tryd.prog.methodsAt 24)) := by kernel_rfl
theorem unErrno : Tryd.prog.underlying 37 = some (.int .i64) := by kernel_rfl
def errOf (e : Nat) : Value := if e = 0 then .nilIface else .iface 37 (.int .i64 e)

section
variable {E : Env} {w : World} {t : TypeId} {x i : Operand} {bk o n c : Nat} {j : Int}
theorem OpV.errI {v : Value} (hx : evE E x = some v) : OpV Tryd.prog (.makeInterface 37 x) t E w (.iface 37 v) w := OpV.makeInterface unErrno (fun _ h => by cases h) hx
theorem OpV.neqE0 (hx : evE E x = some .nilIface) : OpV Tryd.prog (.binOp .neq 24 x (.const .nilIface) 24) t E w (.bool false) w := OpV.neqN0 unErr hx
theorem OpV.neqE1 {u : TypeId} {v : Value} (hx : evE E x = some (.iface u v)) : OpV Tryd.prog (.binOp .neq 24 x (.const .nilIface) 24) t E w (.bool true) w := OpV.neqN1 unErr hx
theorem OpV.eqlE0 (hx : evE E x = some .nilIface) : OpV Tryd.prog (.binOp .eql 24 x (.const .nilIface) 24) t E w (.bool true) w := OpV.eqlN0 unErr hx
theorem OpV.eqlE1 {u : TypeId} {v : Value} (hx : evE E x = some (.iface u v)) : OpV Tryd.prog (.binOp .eql 24 x (.const .nilIface) 24) t E w (.bool false) w := OpV.eqlN1 unErr hx
section
variable {ops : Array Oper} {K : Env → World → Prop} {N d_ : Nat} {rest : List Oper} {pos : String} {after : Array Edge} {C : World → Prop} {R : Env → Prop}
theorem WL.errI {v : Value} (h_ : WL Tryd.prog ops K N ((d_, (.iface 37 v)) :: E) rest w) (hx : evE E x = some v := by with_unfolding_all exact rfl) (hd_ : Nat.blt d_ N = true := by with_unfolding_all exact rfl) :
    WL Tryd.prog ops K N E (⟨some d_, .makeInterface 37 x, t, pos, after, none⟩ :: rest) w := WL.step (OpV.errI hx) hd_ h_
theorem QL.errI {v : Value} (h_ : QL Tryd.prog ops C R N ((d_, (.iface 37 v)) :: E) rest) (hx : evE E x = some v := by with_unfolding_all exact rfl) (hd_ : Nat.blt d_ N = true := by with_unfolding_all exact rfl) :
    QL Tryd.prog ops C R N E (⟨some d_, .makeInterface 37 x, t, pos, after, none⟩ :: rest) := QL.step (fun _ _ => OpV.errI hx) hd_ h_
theorem RL.errI {v : Value} (h_ : R ((d_, (.iface 37 v)) :: E)) (hx : evE E x = some v := by with_unfolding_all exact rfl) (hd_ : Nat.blt d_ N = true := by with_unfolding_all exact rfl) :
    RL Tryd.prog ops C R N E ⟨some d_, .makeInterface 37 x, t, pos, after, none⟩ := RL.step (fun _ _ => OpV.errI hx) hd_ h_
theorem WL.neqE0  (h_ : WL Tryd.prog ops K N ((d_, (.bool false)) :: E) rest w) (hx : evE E x = some .nilIface := by with_unfolding_all exact rfl) (hd_ : Nat.blt d_ N = true := by with_unfolding_all exact rfl) :
    WL Tryd.prog ops K N E (⟨some d_, .binOp .neq 24 x (.const .nilIface) 24, t, pos, after, none⟩ :: rest) w := WL.step (OpV.neqE0 hx) hd_ h_
theorem QL.neqE0  (h_ : QL Tryd.prog ops C R N ((d_, (.bool false)) :: E) rest) (hx : evE E x = some .nilIface := by with_unfolding_all exact rfl) (hd_ : Nat.blt d_ N = true := by with_unfolding_all exact rfl) :
    QL Tryd.prog ops C R N E (⟨some d_, .binOp .neq 24 x (.const .nilIface) 24, t, pos, after, none⟩ :: rest) := QL.step (fun _ _ => OpV.neqE0 hx) hd_ h_
theorem RL.neqE0  (h_ : R ((d_, (.bool false)) :: E)) (hx : evE E x = some .nilIface := by with_unfolding_all exact rfl) (hd_ : Nat.blt d_ N = true := by with_unfolding_all exact rfl) :
    RL Tryd.prog ops C R N E ⟨some d_, .binOp .neq 24 x (.const .nilIface) 24, t, pos, after, none⟩ := RL.step (fun _ _ => OpV.neqE0 hx) hd_ h_
theorem WL.neqE1 {u : TypeId} {v : Value} (h_ : WL Tryd.prog ops K N ((d_, (.bool true)) :: E) rest w) (hx : evE E x = some (.iface u v) := by with_unfolding_all exact rfl) (hd_ : Nat.blt d_ N = true := by with_unfolding_all exact rfl) :
    WL Tryd.prog ops K N E (⟨some d_, .binOp .neq 24 x (.const .nilIface) 24, t, pos, after, none⟩ :: rest) w := WL.step (OpV.neqE1 hx) hd_ h_
theorem QL.neqE1 {u : TypeId} {v : Value} (h_ : QL Tryd.prog ops C R N ((d_, (.bool true)) :: E) rest) (hx : evE E x = some (.iface u v) := by with_unfolding_all exact rfl) (hd_ : Nat.blt d_ N = true := by with_unfolding_all exact rfl) :
    QL Tryd.prog ops C R N E (⟨some d_, .binOp .neq 24 x (.const .nilIface) 24, t, pos, after, none⟩ :: rest) := QL.step (fun _ _ => OpV.neqE1 hx) hd_ h_
theorem RL.neqE1 {u : TypeId} {v : Value} (h_ : R ((d_, (.bool true)) :: E)) (hx : evE E x = some (.iface u v) := by with_unfolding_all exact rfl) (hd_ : Nat.blt d_ N = true := by with_unfolding_all exact rfl) :
    RL Tryd.prog ops C R N E ⟨some d_, .binOp .neq 24 x (.const .nilIface) 24, t, pos, after, none⟩ := RL.step (fun _ _ => OpV.neqE1 hx) hd_ h_
theorem WL.eqlE0  (h_ : WL Tryd.prog ops K N ((d_, (.bool true)) :: E) rest w) (hx : evE E x = some .nilIface := by with_unfolding_all exact rfl) (hd_ : Nat.blt d_ N = true := by with_unfolding_all exact rfl) :
    WL Tryd.prog ops K N E (⟨some d_, .binOp .eql 24 x (.const .nilIface) 24, t, pos, after, none⟩ :: rest) w := WL.step (OpV.eqlE0 hx) hd_ h_
theorem QL.eqlE0  (h_ : QL Tryd.prog ops C R N ((d_, (.bool true)) :: E) rest) (hx : evE E x = some .nilIface := by with_unfolding_all exact rfl) (hd_ : Nat.blt d_ N = true := by with_unfolding_all exact rfl) :
    QL Tryd.prog ops C R N E (⟨some d_, .binOp .eql 24 x (.const .nilIface) 24, t, pos, after, none⟩ :: rest) := QL.step (fun _ _ => OpV.eqlE0 hx) hd_ h_
theorem RL.eqlE0  (h_ : R ((d_, (.bool true)) :: E)) (hx : evE E x = some .nilIface := by with_unfolding_all exact rfl) (hd_ : Nat.blt d_ N = true := by with_unfolding_all exact rfl) :
    RL Tryd.prog ops C R N E ⟨some d_, .binOp .eql 24 x (.const .nilIface) 24, t, pos, after, none⟩ := RL.step (fun _ _ => OpV.eqlE0 hx) hd_ h_
theorem WL.eqlE1 {u : TypeId} {v : Value} (h_ : WL Tryd.prog ops K N ((d_, (.bool false)) :: E) rest w) (hx : evE E x = some (.iface u v) := by with_unfolding_all exact rfl) (hd_ : Nat.blt d_ N = true := by with_unfolding_all exact rfl) :
    WL Tryd.prog ops K N E (⟨some d_, .binOp .eql 24 x (.const .nilIface) 24, t, pos, after, none⟩ :: rest) w := WL.step (OpV.eqlE1 hx) hd_ h_
theorem QL.eqlE1 {u : TypeId} {v : Value} (h_ : QL Tryd.prog ops C R N ((d_, (.bool false)) :: E) rest) (hx : evE E x = some (.iface u v) := by with_unfolding_all exact rfl) (hd_ : Nat.blt d_ N = true := by with_unfolding_all exact rfl) :
    QL Tryd.prog ops C R N E (⟨some d_, .binOp .eql 24 x (.const .nilIface) 24, t, pos, after, none⟩ :: rest) := QL.step (fun _ _ => OpV.eqlE1 hx) hd_ h_
theorem RL.eqlE1 {u : TypeId} {v : Value} (h_ : R ((d_, (.bool false)) :: E)) (hx : evE E x = some (.iface u v) := by with_unfolding_all exact rfl) (hd_ : Nat.blt d_ N = true := by with_unfolding_all exact rfl) :
    RL Tryd.prog ops C R N E ⟨some d_, .binOp .eql 24 x (.const .nilIface) 24, t, pos, after, none⟩ := RL.step (fun _ _ => OpV.eqlE1 hx) hd_ h_
end
end
end Rk
