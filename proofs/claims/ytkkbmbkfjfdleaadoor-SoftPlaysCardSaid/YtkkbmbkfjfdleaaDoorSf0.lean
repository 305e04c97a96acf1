/- Soft heaps in memory: types, the steps on them, and what a tree is. -/
import Derived.Test.YtkkbmbkfjfdleaaDoorCell
import Derived.Test.YtkkbmbkfjfdleaaDoorOwnO
import Derived.Test.YtkkbmbkfjfdleaaDoorOrd1
import Derived.Test.YtkkbmbkfjfdleaaDoorExI
import Derived.Test.YtkkbmbkfjfdleaaDoorLit
import Derived.Test.YtkkbmbkfjfdleaaDoorSoftR
namespace Rk
open Go Go.RowKit Go.Proofs
abbrev TS : TypeId := 54
abbrev TSH : TypeId := 50
/-- a pointer to a block's beginning, or none -/
def pV (p : Option Nat) : Value := .pointer (p.map fun g => ⟨g, 0, none⟩)
abbrev ptV (g : Nat) : Value := .pointer (some ⟨g, 0, none⟩)
def ptC (g : Nat) : List Value := [ptV g]
theorem ptC_len (g : Nat) : (ptC g).length = 1 := rfl
theorem ptC_one (g : Nat) : ∀ u ∈ ptC g, u.oneCell' = true := by simp [ptC, Value.oneCell']
theorem tyItsS : Ty Tryd.prog 22 false 1 24 (.slice none 0 0) := Ty.mk' (by kernel_rfl) (fun _ => by kernel_rfl) rfl
theorem unSP : Tryd.prog.underlying 52 = some (.pointer (Tryd.prog.pointee 52)) := by kernel_rfl
theorem tySP : Ty Tryd.prog 52 false 1 8 (.pointer none) := Ty.mk' (by kernel_rfl) (fun _ => by kernel_rfl) rfl
theorem tySN : Ty Tryd.prog 54 true 6 64 (.agg #[.int .i64 0, .int .i64 0, .int .i64 0, .slice none 0 0, .pointer none, .pointer none]) := Ty.mk' (by kernel_rfl) (fun _ => by kernel_rfl) rfl
theorem unSN : Tryd.prog.underlying 54 = some (.struct (Tryd.prog.fieldsOf 54)) := by kernel_rfl
theorem unSPs : Tryd.prog.underlying 48 = some (.slice 52) := by kernel_rfl
theorem tySPs : Ty Tryd.prog 48 false 1 24 (.slice none 0 0) := Ty.mk' (by kernel_rfl) (fun _ => by kernel_rfl) rfl
theorem tySH : Ty Tryd.prog 50 true 3 40 (.agg #[.int .i64 0, .int .i64 0, .slice none 0 0]) := Ty.mk' (by kernel_rfl) (fun _ => by kernel_rfl) rfl
theorem unSH : Tryd.prog.underlying 50 = some (.struct (Tryd.prog.fieldsOf 50)) := by kernel_rfl
theorem sfn0 : ((Tryd.prog.fieldsOf 54)[0]?).map (fun f => (f.offset, f.type)) = some (0, 3) := by kernel_rfl
theorem sfn1 : ((Tryd.prog.fieldsOf 54)[1]?).map (fun f => (f.offset, f.type)) = some (1, 3) := by kernel_rfl
theorem sfn2 : ((Tryd.prog.fieldsOf 54)[2]?).map (fun f => (f.offset, f.type)) = some (2, 3) := by kernel_rfl
theorem sfn3 : ((Tryd.prog.fieldsOf 54)[3]?).map (fun f => (f.offset, f.type)) = some (3, 22) := by kernel_rfl
theorem sfn4 : ((Tryd.prog.fieldsOf 54)[4]?).map (fun f => (f.offset, f.type)) = some (4, 52) := by kernel_rfl
theorem sfn5 : ((Tryd.prog.fieldsOf 54)[5]?).map (fun f => (f.offset, f.type)) = some (5, 52) := by kernel_rfl
theorem sfh0 : ((Tryd.prog.fieldsOf 50)[0]?).map (fun f => (f.offset, f.type)) = some (0, 3) := by kernel_rfl
theorem sfh1 : ((Tryd.prog.fieldsOf 50)[1]?).map (fun f => (f.offset, f.type)) = some (1, 3) := by kernel_rfl
theorem sfh2 : ((Tryd.prog.fieldsOf 50)[2]?).map (fun f => (f.offset, f.type)) = some (2, 48) := by kernel_rfl
section
variable {E : Env} {w : World} {t : TypeId} {x y z u : Operand} {bk o n c j : Nat}
theorem OpV.st_s0 (hx : evE E x = some (.pointer (some ⟨bk, o, none⟩))) : OpV Tryd.prog (.fieldAddr 54 x 0) t E w (.pointer (some ⟨bk, o, none⟩)) w := OpV.fieldAddr (off := 0) unSN sfn0 tyInt (by omega) hx
theorem OpV.st_s1 (hx : evE E x = some (.pointer (some ⟨bk, o, none⟩))) : OpV Tryd.prog (.fieldAddr 54 x 1) t E w (.pointer (some ⟨bk, o + 1, none⟩)) w := OpV.fieldAddr unSN sfn1 tyInt (by omega) hx
theorem OpV.st_s2 (hx : evE E x = some (.pointer (some ⟨bk, o, none⟩))) : OpV Tryd.prog (.fieldAddr 54 x 2) t E w (.pointer (some ⟨bk, o + 2, none⟩)) w := OpV.fieldAddr unSN sfn2 tyInt (by omega) hx
theorem OpV.st_s3 (hx : evE E x = some (.pointer (some ⟨bk, o, none⟩))) : OpV Tryd.prog (.fieldAddr 54 x 3) t E w (.pointer (some ⟨bk, o + 3, none⟩)) w := OpV.fieldAddr unSN sfn3 tyItsS (by omega) hx
theorem OpV.st_s4 (hx : evE E x = some (.pointer (some ⟨bk, o, none⟩))) : OpV Tryd.prog (.fieldAddr 54 x 4) t E w (.pointer (some ⟨bk, o + 4, none⟩)) w := OpV.fieldAddr unSN sfn4 tySP (by omega) hx
theorem OpV.st_s5 (hx : evE E x = some (.pointer (some ⟨bk, o, none⟩))) : OpV Tryd.prog (.fieldAddr 54 x 5) t E w (.pointer (some ⟨bk, o + 5, none⟩)) w := OpV.fieldAddr unSN sfn5 tySP (by omega) hx
theorem OpV.st_sh0 (hx : evE E x = some (.pointer (some ⟨bk, o, none⟩))) : OpV Tryd.prog (.fieldAddr 50 x 0) t E w (.pointer (some ⟨bk, o, none⟩)) w := OpV.fieldAddr (off := 0) unSH sfh0 tyInt (by omega) hx
theorem OpV.st_sh1 (hx : evE E x = some (.pointer (some ⟨bk, o, none⟩))) : OpV Tryd.prog (.fieldAddr 50 x 1) t E w (.pointer (some ⟨bk, o + 1, none⟩)) w := OpV.fieldAddr unSH sfh1 tyInt (by omega) hx
theorem OpV.st_sh2 (hx : evE E x = some (.pointer (some ⟨bk, o, none⟩))) : OpV Tryd.prog (.fieldAddr 50 x 2) t E w (.pointer (some ⟨bk, o + 2, none⟩)) w := OpV.fieldAddr unSH sfh2 tySPs (by omega) hx
theorem OpV.elLen_s {A : Option Addr} (hx : evE E x = some (.slice A n c)) {rt : TypeId} : OpV Tryd.prog (.call { callee := .builtin .len, args := #[x], argTypes := #[48] }) rt E w (.int .i64 n) w := OpV.len_slice unSPs hx
theorem OpV.elAddrN_s (hx : evE E x = some (.slice (some ⟨bk, o, none⟩) n c)) (hi : evE E y = some (.int .i64 (j : Int))) (hn : j < n) :
    OpV Tryd.prog (.indexAddr 48 x y) t E w (.pointer (some ⟨bk, o + j * 1, none⟩)) w := OpV.indexAddr unSPs tySP.size hx hi (by omega) (by omega)
section
variable {ops : Array Oper} {K : Env → World → Prop} {N d_ : Nat} {rest : List Oper} {pos : String} {after : Array Edge} {C : World → Prop} {R : Env → Prop}
theorem WL.st_s0  (h_ : WL Tryd.prog ops K N ((d_, (.pointer (some ⟨bk, o, none⟩))) :: E) rest w) (hx : evE E x = some (.pointer (some ⟨bk, o, none⟩)) := by with_unfolding_all exact rfl) (hd_ : Nat.blt d_ N = true := by with_unfolding_all exact rfl) :
    WL Tryd.prog ops K N E (⟨some d_, .fieldAddr 54 x 0, t, pos, after, none⟩ :: rest) w := WL.step (OpV.st_s0 hx) hd_ h_
theorem QL.st_s0  (h_ : QL Tryd.prog ops C R N ((d_, (.pointer (some ⟨bk, o, none⟩))) :: E) rest) (hx : evE E x = some (.pointer (some ⟨bk, o, none⟩)) := by with_unfolding_all exact rfl) (hd_ : Nat.blt d_ N = true := by with_unfolding_all exact rfl) :
    QL Tryd.prog ops C R N E (⟨some d_, .fieldAddr 54 x 0, t, pos, after, none⟩ :: rest) := QL.step (fun _ _ => OpV.st_s0 hx) hd_ h_
theorem RL.st_s0  (h_ : R ((d_, (.pointer (some ⟨bk, o, none⟩))) :: E)) (hx : evE E x = some (.pointer (some ⟨bk, o, none⟩)) := by with_unfolding_all exact rfl) (hd_ : Nat.blt d_ N = true := by with_unfolding_all exact rfl) :
    RL Tryd.prog ops C R N E ⟨some d_, .fieldAddr 54 x 0, t, pos, after, none⟩ := RL.step (fun _ _ => OpV.st_s0 hx) hd_ h_
theorem WL.st_s1  (h_ : WL Tryd.prog ops K N ((d_, (.pointer (some ⟨bk, o + 1, none⟩))) :: E) rest w) (hx : evE E x = some (.pointer (some ⟨bk, o, none⟩)) := by with_unfolding_all exact rfl) (hd_ : Nat.blt d_ N = true := by with_unfolding_all exact rfl) :
    WL Tryd.prog ops K N E (⟨some d_, .fieldAddr 54 x 1, t, pos, after, none⟩ :: rest) w := WL.step (OpV.st_s1 hx) hd_ h_
theorem QL.st_s1  (h_ : QL Tryd.prog ops C R N ((d_, (.pointer (some ⟨bk, o + 1, none⟩))) :: E) rest) (hx : evE E x = some (.pointer (some ⟨bk, o, none⟩)) := by with_unfolding_all exact rfl) (hd_ : Nat.blt d_ N = true := by with_unfolding_all exact rfl) :
    QL Tryd.prog ops C R N E (⟨some d_, .fieldAddr 54 x 1, t, pos, after, none⟩ :: rest) := QL.step (fun _ _ => OpV.st_s1 hx) hd_ h_
theorem RL.st_s1  (h_ : R ((d_, (.pointer (some ⟨bk, o + 1, none⟩))) :: E)) (hx : evE E x = some (.pointer (some ⟨bk, o, none⟩)) := by with_unfolding_all exact rfl) (hd_ : Nat.blt d_ N = true := by with_unfolding_all exact rfl) :
    RL Tryd.prog ops C R N E ⟨some d_, .fieldAddr 54 x 1, t, pos, after, none⟩ := RL.step (fun _ _ => OpV.st_s1 hx) hd_ h_
theorem WL.st_s2  (h_ : WL Tryd.prog ops K N ((d_, (.pointer (some ⟨bk, o + 2, none⟩))) :: E) rest w) (hx : evE E x = some (.pointer (some ⟨bk, o, none⟩)) := by with_unfolding_all exact rfl) (hd_ : Nat.blt d_ N = true := by with_unfolding_all exact rfl) :
    WL Tryd.prog ops K N E (⟨some d_, .fieldAddr 54 x 2, t, pos, after, none⟩ :: rest) w := WL.step (OpV.st_s2 hx) hd_ h_
theorem QL.st_s2  (h_ : QL Tryd.prog ops C R N ((d_, (.pointer (some ⟨bk, o + 2, none⟩))) :: E) rest) (hx : evE E x = some (.pointer (some ⟨bk, o, none⟩)) := by with_unfolding_all exact rfl) (hd_ : Nat.blt d_ N = true := by with_unfolding_all exact rfl) :
    QL Tryd.prog ops C R N E (⟨some d_, .fieldAddr 54 x 2, t, pos, after, none⟩ :: rest) := QL.step (fun _ _ => OpV.st_s2 hx) hd_ h_
theorem RL.st_s2  (h_ : R ((d_, (.pointer (some ⟨bk, o + 2, none⟩))) :: E)) (hx : evE E x = some (.pointer (some ⟨bk, o, none⟩)) := by with_unfolding_all exact rfl) (hd_ : Nat.blt d_ N = true := by with_unfolding_all exact rfl) :
    RL Tryd.prog ops C R N E ⟨some d_, .fieldAddr 54 x 2, t, pos, after, none⟩ := RL.step (fun _ _ => OpV.st_s2 hx) hd_ h_
theorem WL.st_s3  (h_ : WL Tryd.prog ops K N ((d_, (.pointer (some ⟨bk, o + 3, none⟩))) :: E) rest w) (hx : evE E x = some (.pointer (some ⟨bk, o, none⟩)) := by with_unfolding_all exact rfl) (hd_ : Nat.blt d_ N = true := by with_unfolding_all exact rfl) :
    WL Tryd.prog ops K N E (⟨some d_, .fieldAddr 54 x 3, t, pos, after, none⟩ :: rest) w := WL.step (OpV.st_s3 hx) hd_ h_
theorem QL.st_s3  (h_ : QL Tryd.prog ops C R N ((d_, (.pointer (some ⟨bk, o + 3, none⟩))) :: E) rest) (hx : evE E x = some (.pointer (some ⟨bk, o, none⟩)) := by with_unfolding_all exact rfl) (hd_ : Nat.blt d_ N = true := by with_unfolding_all exact rfl) :
    QL Tryd.prog ops C R N E (⟨some d_, .fieldAddr 54 x 3, t, pos, after, none⟩ :: rest) := QL.step (fun _ _ => OpV.st_s3 hx) hd_ h_
theorem RL.st_s3  (h_ : R ((d_, (.pointer (some ⟨bk, o + 3, none⟩))) :: E)) (hx : evE E x = some (.pointer (some ⟨bk, o, none⟩)) := by with_unfolding_all exact rfl) (hd_ : Nat.blt d_ N = true := by with_unfolding_all exact rfl) :
    RL Tryd.prog ops C R N E ⟨some d_, .fieldAddr 54 x 3, t, pos, after, none⟩ := RL.step (fun _ _ => OpV.st_s3 hx) hd_ h_
theorem WL.st_s4  (h_ : WL Tryd.prog ops K N ((d_, (.pointer (some ⟨bk, o + 4, none⟩))) :: E) rest w) (hx : evE E x = some (.pointer (some ⟨bk, o, none⟩)) := by with_unfolding_all exact rfl) (hd_ : Nat.blt d_ N = true := by with_unfolding_all exact rfl) :
    WL Tryd.prog ops K N E (⟨some d_, .fieldAddr 54 x 4, t, pos, after, none⟩ :: rest) w := WL.step (OpV.st_s4 hx) hd_ h_
theorem QL.st_s4  (h_ : QL Tryd.prog ops C R N ((d_, (.pointer (some ⟨bk, o + 4, none⟩))) :: E) rest) (hx : evE E x = some (.pointer (some ⟨bk, o, none⟩)) := by with_unfolding_all exact rfl) (hd_ : Nat.blt d_ N = true := by with_unfolding_all exact rfl) :
    QL Tryd.prog ops C R N E (⟨some d_, .fieldAddr 54 x 4, t, pos, after, none⟩ :: rest) := QL.step (fun _ _ => OpV.st_s4 hx) hd_ h_
theorem RL.st_s4  (h_ : R ((d_, (.pointer (some ⟨bk, o + 4, none⟩))) :: E)) (hx : evE E x = some (.pointer (some ⟨bk, o, none⟩)) := by with_unfolding_all exact rfl) (hd_ : Nat.blt d_ N = true := by with_unfolding_all exact rfl) :
    RL Tryd.prog ops C R N E ⟨some d_, .fieldAddr 54 x 4, t, pos, after, none⟩ := RL.step (fun _ _ => OpV.st_s4 hx) hd_ h_
theorem WL.st_s5  (h_ : WL Tryd.prog ops K N ((d_, (.pointer (some ⟨bk, o + 5, none⟩))) :: E) rest w) (hx : evE E x = some (.pointer (some ⟨bk, o, none⟩)) := by with_unfolding_all exact rfl) (hd_ : Nat.blt d_ N = true := by with_unfolding_all exact rfl) :
    WL Tryd.prog ops K N E (⟨some d_, .fieldAddr 54 x 5, t, pos, after, none⟩ :: rest) w := WL.step (OpV.st_s5 hx) hd_ h_
theorem QL.st_s5  (h_ : QL Tryd.prog ops C R N ((d_, (.pointer (some ⟨bk, o + 5, none⟩))) :: E) rest) (hx : evE E x = some (.pointer (some ⟨bk, o, none⟩)) := by with_unfolding_all exact rfl) (hd_ : Nat.blt d_ N = true := by with_unfolding_all exact rfl) :
    QL Tryd.prog ops C R N E (⟨some d_, .fieldAddr 54 x 5, t, pos, after, none⟩ :: rest) := QL.step (fun _ _ => OpV.st_s5 hx) hd_ h_
theorem RL.st_s5  (h_ : R ((d_, (.pointer (some ⟨bk, o + 5, none⟩))) :: E)) (hx : evE E x = some (.pointer (some ⟨bk, o, none⟩)) := by with_unfolding_all exact rfl) (hd_ : Nat.blt d_ N = true := by with_unfolding_all exact rfl) :
    RL Tryd.prog ops C R N E ⟨some d_, .fieldAddr 54 x 5, t, pos, after, none⟩ := RL.step (fun _ _ => OpV.st_s5 hx) hd_ h_
theorem WL.st_sh0  (h_ : WL Tryd.prog ops K N ((d_, (.pointer (some ⟨bk, o, none⟩))) :: E) rest w) (hx : evE E x = some (.pointer (some ⟨bk, o, none⟩)) := by with_unfolding_all exact rfl) (hd_ : Nat.blt d_ N = true := by with_unfolding_all exact rfl) :
    WL Tryd.prog ops K N E (⟨some d_, .fieldAddr 50 x 0, t, pos, after, none⟩ :: rest) w := WL.step (OpV.st_sh0 hx) hd_ h_
theorem QL.st_sh0  (h_ : QL Tryd.prog ops C R N ((d_, (.pointer (some ⟨bk, o, none⟩))) :: E) rest) (hx : evE E x = some (.pointer (some ⟨bk, o, none⟩)) := by with_unfolding_all exact rfl) (hd_ : Nat.blt d_ N = true := by with_unfolding_all exact rfl) :
    QL Tryd.prog ops C R N E (⟨some d_, .fieldAddr 50 x 0, t, pos, after, none⟩ :: rest) := QL.step (fun _ _ => OpV.st_sh0 hx) hd_ h_
theorem RL.st_sh0  (h_ : R ((d_, (.pointer (some ⟨bk, o, none⟩))) :: E)) (hx : evE E x = some (.pointer (some ⟨bk, o, none⟩)) := by with_unfolding_all exact rfl) (hd_ : Nat.blt d_ N = true := by with_unfolding_all exact rfl) :
    RL Tryd.prog ops C R N E ⟨some d_, .fieldAddr 50 x 0, t, pos, after, none⟩ := RL.step (fun _ _ => OpV.st_sh0 hx) hd_ h_
theorem WL.st_sh1  (h_ : WL Tryd.prog ops K N ((d_, (.pointer (some ⟨bk, o + 1, none⟩))) :: E) rest w) (hx : evE E x = some (.pointer (some ⟨bk, o, none⟩)) := by with_unfolding_all exact rfl) (hd_ : Nat.blt d_ N = true := by with_unfolding_all exact rfl) :
    WL Tryd.prog ops K N E (⟨some d_, .fieldAddr 50 x 1, t, pos, after, none⟩ :: rest) w := WL.step (OpV.st_sh1 hx) hd_ h_
theorem QL.st_sh1  (h_ : QL Tryd.prog ops C R N ((d_, (.pointer (some ⟨bk, o + 1, none⟩))) :: E) rest) (hx : evE E x = some (.pointer (some ⟨bk, o, none⟩)) := by with_unfolding_all exact rfl) (hd_ : Nat.blt d_ N = true := by with_unfolding_all exact rfl) :
    QL Tryd.prog ops C R N E (⟨some d_, .fieldAddr 50 x 1, t, pos, after, none⟩ :: rest) := QL.step (fun _ _ => OpV.st_sh1 hx) hd_ h_
theorem RL.st_sh1  (h_ : R ((d_, (.pointer (some ⟨bk, o + 1, none⟩))) :: E)) (hx : evE E x = some (.pointer (some ⟨bk, o, none⟩)) := by with_unfolding_all exact rfl) (hd_ : Nat.blt d_ N = true := by with_unfolding_all exact rfl) :
    RL Tryd.prog ops C R N E ⟨some d_, .fieldAddr 50 x 1, t, pos, after, none⟩ := RL.step (fun _ _ => OpV.st_sh1 hx) hd_ h_
theorem WL.st_sh2  (h_ : WL Tryd.prog ops K N ((d_, (.pointer (some ⟨bk, o + 2, none⟩))) :: E) rest w) (hx : evE E x = some (.pointer (some ⟨bk, o, none⟩)) := by with_unfolding_all exact rfl) (hd_ : Nat.blt d_ N = true := by with_unfolding_all exact rfl) :
    WL Tryd.prog ops K N E (⟨some d_, .fieldAddr 50 x 2, t, pos, after, none⟩ :: rest) w := WL.step (OpV.st_sh2 hx) hd_ h_
theorem QL.st_sh2  (h_ : QL Tryd.prog ops C R N ((d_, (.pointer (some ⟨bk, o + 2, none⟩))) :: E) rest) (hx : evE E x = some (.pointer (some ⟨bk, o, none⟩)) := by with_unfolding_all exact rfl) (hd_ : Nat.blt d_ N = true := by with_unfolding_all exact rfl) :
    QL Tryd.prog ops C R N E (⟨some d_, .fieldAddr 50 x 2, t, pos, after, none⟩ :: rest) := QL.step (fun _ _ => OpV.st_sh2 hx) hd_ h_
theorem RL.st_sh2  (h_ : R ((d_, (.pointer (some ⟨bk, o + 2, none⟩))) :: E)) (hx : evE E x = some (.pointer (some ⟨bk, o, none⟩)) := by with_unfolding_all exact rfl) (hd_ : Nat.blt d_ N = true := by with_unfolding_all exact rfl) :
    RL Tryd.prog ops C R N E ⟨some d_, .fieldAddr 50 x 2, t, pos, after, none⟩ := RL.step (fun _ _ => OpV.st_sh2 hx) hd_ h_
theorem WL.elLen_s {A : Option Addr} {rt : TypeId} (h_ : WL Tryd.prog ops K N ((d_, (.int .i64 n)) :: E) rest w) (hx : evE E x = some (.slice A n c) := by with_unfolding_all exact rfl) (hd_ : Nat.blt d_ N = true := by with_unfolding_all exact rfl) :
    WL Tryd.prog ops K N E (⟨some d_, .call { callee := .builtin .len, args := #[x], argTypes := #[48] }, rt, pos, after, none⟩ :: rest) w := WL.step (OpV.elLen_s hx) hd_ h_
theorem QL.elLen_s {A : Option Addr} {rt : TypeId} (h_ : QL Tryd.prog ops C R N ((d_, (.int .i64 n)) :: E) rest) (hx : evE E x = some (.slice A n c) := by with_unfolding_all exact rfl) (hd_ : Nat.blt d_ N = true := by with_unfolding_all exact rfl) :
    QL Tryd.prog ops C R N E (⟨some d_, .call { callee := .builtin .len, args := #[x], argTypes := #[48] }, rt, pos, after, none⟩ :: rest) := QL.step (fun _ _ => OpV.elLen_s hx) hd_ h_
theorem RL.elLen_s {A : Option Addr} {rt : TypeId} (h_ : R ((d_, (.int .i64 n)) :: E)) (hx : evE E x = some (.slice A n c) := by with_unfolding_all exact rfl) (hd_ : Nat.blt d_ N = true := by with_unfolding_all exact rfl) :
    RL Tryd.prog ops C R N E ⟨some d_, .call { callee := .builtin .len, args := #[x], argTypes := #[48] }, rt, pos, after, none⟩ := RL.step (fun _ _ => OpV.elLen_s hx) hd_ h_
theorem WL.elAddrN_s  (h_ : WL Tryd.prog ops K N ((d_, (.pointer (some ⟨bk, o + j * 1, none⟩))) :: E) rest w) (hx : evE E x = some (.slice (some ⟨bk, o, none⟩) n c) := by with_unfolding_all exact rfl) (hi : evE E y = some (.int .i64 (j : Int)) := by with_unfolding_all exact rfl) (hn : j < n := by omega) (hd_ : Nat.blt d_ N = true := by with_unfolding_all exact rfl) :
    WL Tryd.prog ops K N E (⟨some d_, .indexAddr 48 x y, t, pos, after, none⟩ :: rest) w := WL.step (OpV.elAddrN_s hx hi hn) hd_ h_
theorem QL.elAddrN_s  (h_ : QL Tryd.prog ops C R N ((d_, (.pointer (some ⟨bk, o + j * 1, none⟩))) :: E) rest) (hx : evE E x = some (.slice (some ⟨bk, o, none⟩) n c) := by with_unfolding_all exact rfl) (hi : evE E y = some (.int .i64 (j : Int)) := by with_unfolding_all exact rfl) (hn : j < n := by omega) (hd_ : Nat.blt d_ N = true := by with_unfolding_all exact rfl) :
    QL Tryd.prog ops C R N E (⟨some d_, .indexAddr 48 x y, t, pos, after, none⟩ :: rest) := QL.step (fun _ _ => OpV.elAddrN_s hx hi hn) hd_ h_
theorem RL.elAddrN_s  (h_ : R ((d_, (.pointer (some ⟨bk, o + j * 1, none⟩))) :: E)) (hx : evE E x = some (.slice (some ⟨bk, o, none⟩) n c) := by with_unfolding_all exact rfl) (hi : evE E y = some (.int .i64 (j : Int)) := by with_unfolding_all exact rfl) (hn : j < n := by omega) (hd_ : Nat.blt d_ N = true := by with_unfolding_all exact rfl) :
    RL Tryd.prog ops C R N E ⟨some d_, .indexAddr 48 x y, t, pos, after, none⟩ := RL.step (fun _ _ => OpV.elAddrN_s hx hi hn) hd_ h_
end
end
section
variable {ops : Array Oper} {K : Env → World → Prop} {R : Env → Prop} {C : World → Prop} {N : Nat} {E : Env} {rest : List Oper} {w : World} {x y : Operand} {pos : String} {after : Array Edge} {t yt : TypeId} {p : Option Nat} {d : Nat}
theorem OpV.eqQ (hx : evE E x = some (pV p)) : OpV Tryd.prog (.binOp .eql 52 x (.const (.pointer none)) yt) t E w (.bool p.isNone) w := fun ρ hρ _ _ _ _ => by
  have := run_eql_pointer_nil w 52 (p.map fun g => (⟨g, 0, none⟩ : Addr)) unSP
  rw [Option.isNone_map] at this
  simp [execOp, hρ _ _ hx, hρ (.const (.pointer none)) (.pointer none) rfl, eqGuard, pV, this]
theorem OpV.neQ (hx : evE E x = some (pV p)) : OpV Tryd.prog (.binOp .neq 52 x (.const (.pointer none)) yt) t E w (.bool (!p.isNone)) w := fun ρ hρ _ _ _ _ => by
  have := run_neq_pointer_nil w 52 (p.map fun g => (⟨g, 0, none⟩ : Addr)) unSP
  rw [Option.isNone_map] at this
  simp [execOp, hρ _ _ hx, hρ (.const (.pointer none)) (.pointer none) rfl, eqGuard, pV, this]
theorem WL.eqQ (h : WL Tryd.prog ops K N ((d, .bool p.isNone) :: E) rest w) (hx : evE E x = some (pV p) := by with_unfolding_all exact rfl) (hd : Nat.blt d N = true := by with_unfolding_all exact rfl) : WL Tryd.prog ops K N E (⟨some d, .binOp .eql 52 x (.const (.pointer none)) yt, t, pos, after, none⟩ :: rest) w := WL.step (OpV.eqQ hx) hd h
theorem QL.eqQ (h : QL Tryd.prog ops C R N ((d, .bool p.isNone) :: E) rest) (hx : evE E x = some (pV p) := by with_unfolding_all exact rfl) (hd : Nat.blt d N = true := by with_unfolding_all exact rfl) : QL Tryd.prog ops C R N E (⟨some d, .binOp .eql 52 x (.const (.pointer none)) yt, t, pos, after, none⟩ :: rest) := QL.step (fun _ _ => OpV.eqQ hx) hd h
theorem WL.neQ (h : WL Tryd.prog ops K N ((d, .bool (!p.isNone)) :: E) rest w) (hx : evE E x = some (pV p) := by with_unfolding_all exact rfl) (hd : Nat.blt d N = true := by with_unfolding_all exact rfl) : WL Tryd.prog ops K N E (⟨some d, .binOp .neq 52 x (.const (.pointer none)) yt, t, pos, after, none⟩ :: rest) w := WL.step (OpV.neQ hx) hd h
theorem QL.neQ (h : QL Tryd.prog ops C R N ((d, .bool (!p.isNone)) :: E) rest) (hx : evE E x = some (pV p) := by with_unfolding_all exact rfl) (hd : Nat.blt d N = true := by with_unfolding_all exact rfl) : QL Tryd.prog ops C R N E (⟨some d, .binOp .neq 52 x (.const (.pointer none)) yt, t, pos, after, none⟩ :: rest) := QL.step (fun _ _ => OpV.neQ hx) hd h
end
/-- a node's cells -/
def nC (k : Int) (rk wt : Nat) (v : Value) (pl pr : Option Nat) : List Value := [.int .i64 k, .int .i64 rk, .int .i64 wt, v, pV pl, pV pr]
/-- a heap object's cells -/
def shC (R0 n0 : Nat) (tv : Value) : List Value := [.int .i64 R0, .int .i64 n0, tv]
section
variable {ops : Array Oper} {K : Env → World → Prop} {R : Env → Prop} {N : Nat} {E : Env} {rest : List Oper} {w : World} {t : TypeId} {pos : String} {after : Array Edge} {d : Nat} {x : Operand} {gg : Nat} {k : Int} {rk wt : Nat} {v : Value} {pl pr : Option Nat}
theorem WL.ldn_k (h : WL Tryd.prog ops K N ((d, .int .i64 k) :: E) rest w) (hx : evE E x = some (.pointer (some ⟨gg, 0, none⟩)) := by with_unfolding_all exact rfl) (hb : Bk w gg TS (nC k rk wt v pl pr) := by assumption) (hd : Nat.blt d N = true := by with_unfolding_all exact rfl) : WL Tryd.prog ops K N E (⟨some d, .load 3 x, t, pos, after, none⟩ :: rest) w := WL.step (OpV.load1 tyInt hx (hb.cell rfl)) hd h
theorem QL.ldn_k (h : QL Tryd.prog ops (fun w' => Below w.heap.size w w') R N ((d, .int .i64 k) :: E) rest) (hx : evE E x = some (.pointer (some ⟨gg, 0, none⟩)) := by with_unfolding_all exact rfl) (hb : Bk w gg TS (nC k rk wt v pl pr) := by assumption) (hd : Nat.blt d N = true := by with_unfolding_all exact rfl) : QL Tryd.prog ops (fun w' => Below w.heap.size w w') R N E (⟨some d, .load 3 x, t, pos, after, none⟩ :: rest) := QL.step (fun _ hw => (OpV.load1 tyInt hx ((hb.below hw).cell rfl))) hd h
theorem RL.ldn_k (h : R ((d, .int .i64 k) :: E)) (hx : evE E x = some (.pointer (some ⟨gg, 0, none⟩)) := by with_unfolding_all exact rfl) (hb : Bk w gg TS (nC k rk wt v pl pr) := by assumption) (hd : Nat.blt d N = true := by with_unfolding_all exact rfl) : RL Tryd.prog ops (fun w' => Below w.heap.size w w') R N E ⟨some d, .load 3 x, t, pos, after, none⟩ := RL.step (fun _ hw => (OpV.load1 tyInt hx ((hb.below hw).cell rfl))) hd h
end
section
variable {ops : Array Oper} {K : Env → World → Prop} {R : Env → Prop} {N : Nat} {E : Env} {rest : List Oper} {w : World} {t : TypeId} {pos : String} {after : Array Edge} {d : Nat} {x : Operand} {gg : Nat} {k : Int} {rk wt : Nat} {v : Value} {pl pr : Option Nat}
theorem WL.ldn_r (h : WL Tryd.prog ops K N ((d, .int .i64 (rk : Nat)) :: E) rest w) (hx : evE E x = some (.pointer (some ⟨gg, 1, none⟩)) := by with_unfolding_all exact rfl) (hb : Bk w gg TS (nC k rk wt v pl pr) := by assumption) (hd : Nat.blt d N = true := by with_unfolding_all exact rfl) : WL Tryd.prog ops K N E (⟨some d, .load 3 x, t, pos, after, none⟩ :: rest) w := WL.step (OpV.load1 tyInt hx (hb.cell rfl)) hd h
theorem QL.ldn_r (h : QL Tryd.prog ops (fun w' => Below w.heap.size w w') R N ((d, .int .i64 (rk : Nat)) :: E) rest) (hx : evE E x = some (.pointer (some ⟨gg, 1, none⟩)) := by with_unfolding_all exact rfl) (hb : Bk w gg TS (nC k rk wt v pl pr) := by assumption) (hd : Nat.blt d N = true := by with_unfolding_all exact rfl) : QL Tryd.prog ops (fun w' => Below w.heap.size w w') R N E (⟨some d, .load 3 x, t, pos, after, none⟩ :: rest) := QL.step (fun _ hw => (OpV.load1 tyInt hx ((hb.below hw).cell rfl))) hd h
theorem RL.ldn_r (h : R ((d, .int .i64 (rk : Nat)) :: E)) (hx : evE E x = some (.pointer (some ⟨gg, 1, none⟩)) := by with_unfolding_all exact rfl) (hb : Bk w gg TS (nC k rk wt v pl pr) := by assumption) (hd : Nat.blt d N = true := by with_unfolding_all exact rfl) : RL Tryd.prog ops (fun w' => Below w.heap.size w w') R N E ⟨some d, .load 3 x, t, pos, after, none⟩ := RL.step (fun _ hw => (OpV.load1 tyInt hx ((hb.below hw).cell rfl))) hd h
end
section
variable {ops : Array Oper} {K : Env → World → Prop} {R : Env → Prop} {N : Nat} {E : Env} {rest : List Oper} {w : World} {t : TypeId} {pos : String} {after : Array Edge} {d : Nat} {x : Operand} {gg : Nat} {k : Int} {rk wt : Nat} {v : Value} {pl pr : Option Nat}
theorem WL.ldn_w (h : WL Tryd.prog ops K N ((d, .int .i64 (wt : Nat)) :: E) rest w) (hx : evE E x = some (.pointer (some ⟨gg, 2, none⟩)) := by with_unfolding_all exact rfl) (hb : Bk w gg TS (nC k rk wt v pl pr) := by assumption) (hd : Nat.blt d N = true := by with_unfolding_all exact rfl) : WL Tryd.prog ops K N E (⟨some d, .load 3 x, t, pos, after, none⟩ :: rest) w := WL.step (OpV.load1 tyInt hx (hb.cell rfl)) hd h
theorem QL.ldn_w (h : QL Tryd.prog ops (fun w' => Below w.heap.size w w') R N ((d, .int .i64 (wt : Nat)) :: E) rest) (hx : evE E x = some (.pointer (some ⟨gg, 2, none⟩)) := by with_unfolding_all exact rfl) (hb : Bk w gg TS (nC k rk wt v pl pr) := by assumption) (hd : Nat.blt d N = true := by with_unfolding_all exact rfl) : QL Tryd.prog ops (fun w' => Below w.heap.size w w') R N E (⟨some d, .load 3 x, t, pos, after, none⟩ :: rest) := QL.step (fun _ hw => (OpV.load1 tyInt hx ((hb.below hw).cell rfl))) hd h
theorem RL.ldn_w (h : R ((d, .int .i64 (wt : Nat)) :: E)) (hx : evE E x = some (.pointer (some ⟨gg, 2, none⟩)) := by with_unfolding_all exact rfl) (hb : Bk w gg TS (nC k rk wt v pl pr) := by assumption) (hd : Nat.blt d N = true := by with_unfolding_all exact rfl) : RL Tryd.prog ops (fun w' => Below w.heap.size w w') R N E ⟨some d, .load 3 x, t, pos, after, none⟩ := RL.step (fun _ hw => (OpV.load1 tyInt hx ((hb.below hw).cell rfl))) hd h
end
section
variable {ops : Array Oper} {K : Env → World → Prop} {R : Env → Prop} {N : Nat} {E : Env} {rest : List Oper} {w : World} {t : TypeId} {pos : String} {after : Array Edge} {d : Nat} {x : Operand} {gg : Nat} {k : Int} {rk wt : Nat} {v : Value} {pl pr : Option Nat}
theorem WL.ldn_i (h : WL Tryd.prog ops K N ((d, v) :: E) rest w) (hx : evE E x = some (.pointer (some ⟨gg, 3, none⟩)) := by with_unfolding_all exact rfl) (hb : Bk w gg TS (nC k rk wt v pl pr) := by assumption) (hd : Nat.blt d N = true := by with_unfolding_all exact rfl) : WL Tryd.prog ops K N E (⟨some d, .load 22 x, t, pos, after, none⟩ :: rest) w := WL.step (OpV.load1 tyItsS hx (hb.cell rfl)) hd h
theorem QL.ldn_i (h : QL Tryd.prog ops (fun w' => Below w.heap.size w w') R N ((d, v) :: E) rest) (hx : evE E x = some (.pointer (some ⟨gg, 3, none⟩)) := by with_unfolding_all exact rfl) (hb : Bk w gg TS (nC k rk wt v pl pr) := by assumption) (hd : Nat.blt d N = true := by with_unfolding_all exact rfl) : QL Tryd.prog ops (fun w' => Below w.heap.size w w') R N E (⟨some d, .load 22 x, t, pos, after, none⟩ :: rest) := QL.step (fun _ hw => (OpV.load1 tyItsS hx ((hb.below hw).cell rfl))) hd h
theorem RL.ldn_i (h : R ((d, v) :: E)) (hx : evE E x = some (.pointer (some ⟨gg, 3, none⟩)) := by with_unfolding_all exact rfl) (hb : Bk w gg TS (nC k rk wt v pl pr) := by assumption) (hd : Nat.blt d N = true := by with_unfolding_all exact rfl) : RL Tryd.prog ops (fun w' => Below w.heap.size w w') R N E ⟨some d, .load 22 x, t, pos, after, none⟩ := RL.step (fun _ hw => (OpV.load1 tyItsS hx ((hb.below hw).cell rfl))) hd h
end
section
variable {ops : Array Oper} {K : Env → World → Prop} {R : Env → Prop} {N : Nat} {E : Env} {rest : List Oper} {w : World} {t : TypeId} {pos : String} {after : Array Edge} {d : Nat} {x : Operand} {gg : Nat} {k : Int} {rk wt : Nat} {v : Value} {pl pr : Option Nat}
theorem WL.ldn_l (h : WL Tryd.prog ops K N ((d, pV pl) :: E) rest w) (hx : evE E x = some (.pointer (some ⟨gg, 4, none⟩)) := by with_unfolding_all exact rfl) (hb : Bk w gg TS (nC k rk wt v pl pr) := by assumption) (hd : Nat.blt d N = true := by with_unfolding_all exact rfl) : WL Tryd.prog ops K N E (⟨some d, .load 52 x, t, pos, after, none⟩ :: rest) w := WL.step (OpV.load1 tySP hx (hb.cell rfl)) hd h
theorem QL.ldn_l (h : QL Tryd.prog ops (fun w' => Below w.heap.size w w') R N ((d, pV pl) :: E) rest) (hx : evE E x = some (.pointer (some ⟨gg, 4, none⟩)) := by with_unfolding_all exact rfl) (hb : Bk w gg TS (nC k rk wt v pl pr) := by assumption) (hd : Nat.blt d N = true := by with_unfolding_all exact rfl) : QL Tryd.prog ops (fun w' => Below w.heap.size w w') R N E (⟨some d, .load 52 x, t, pos, after, none⟩ :: rest) := QL.step (fun _ hw => (OpV.load1 tySP hx ((hb.below hw).cell rfl))) hd h
theorem RL.ldn_l (h : R ((d, pV pl) :: E)) (hx : evE E x = some (.pointer (some ⟨gg, 4, none⟩)) := by with_unfolding_all exact rfl) (hb : Bk w gg TS (nC k rk wt v pl pr) := by assumption) (hd : Nat.blt d N = true := by with_unfolding_all exact rfl) : RL Tryd.prog ops (fun w' => Below w.heap.size w w') R N E ⟨some d, .load 52 x, t, pos, after, none⟩ := RL.step (fun _ hw => (OpV.load1 tySP hx ((hb.below hw).cell rfl))) hd h
end
section
variable {ops : Array Oper} {K : Env → World → Prop} {R : Env → Prop} {N : Nat} {E : Env} {rest : List Oper} {w : World} {t : TypeId} {pos : String} {after : Array Edge} {d : Nat} {x : Operand} {gg : Nat} {k : Int} {rk wt : Nat} {v : Value} {pl pr : Option Nat}
theorem WL.ldn_g (h : WL Tryd.prog ops K N ((d, pV pr) :: E) rest w) (hx : evE E x = some (.pointer (some ⟨gg, 5, none⟩)) := by with_unfolding_all exact rfl) (hb : Bk w gg TS (nC k rk wt v pl pr) := by assumption) (hd : Nat.blt d N = true := by with_unfolding_all exact rfl) : WL Tryd.prog ops K N E (⟨some d, .load 52 x, t, pos, after, none⟩ :: rest) w := WL.step (OpV.load1 tySP hx (hb.cell rfl)) hd h
theorem QL.ldn_g (h : QL Tryd.prog ops (fun w' => Below w.heap.size w w') R N ((d, pV pr) :: E) rest) (hx : evE E x = some (.pointer (some ⟨gg, 5, none⟩)) := by with_unfolding_all exact rfl) (hb : Bk w gg TS (nC k rk wt v pl pr) := by assumption) (hd : Nat.blt d N = true := by with_unfolding_all exact rfl) : QL Tryd.prog ops (fun w' => Below w.heap.size w w') R N E (⟨some d, .load 52 x, t, pos, after, none⟩ :: rest) := QL.step (fun _ hw => (OpV.load1 tySP hx ((hb.below hw).cell rfl))) hd h
theorem RL.ldn_g (h : R ((d, pV pr) :: E)) (hx : evE E x = some (.pointer (some ⟨gg, 5, none⟩)) := by with_unfolding_all exact rfl) (hb : Bk w gg TS (nC k rk wt v pl pr) := by assumption) (hd : Nat.blt d N = true := by with_unfolding_all exact rfl) : RL Tryd.prog ops (fun w' => Below w.heap.size w w') R N E ⟨some d, .load 52 x, t, pos, after, none⟩ := RL.step (fun _ hw => (OpV.load1 tySP hx ((hb.below hw).cell rfl))) hd h
end
section
variable {ops : Array Oper} {K : Env → World → Prop} {R : Env → Prop} {N : Nat} {E : Env} {rest : List Oper} {w : World} {t : TypeId} {pos : String} {after : Array Edge} {d : Nat} {x : Operand} {gg : Nat} {R0 n0 : Nat} {tv : Value}
theorem WL.ldh_r (h : WL Tryd.prog ops K N ((d, .int .i64 (R0 : Nat)) :: E) rest w) (hx : evE E x = some (.pointer (some ⟨gg, 0, none⟩)) := by with_unfolding_all exact rfl) (hb : Bk w gg TSH (shC R0 n0 tv) := by assumption) (hd : Nat.blt d N = true := by with_unfolding_all exact rfl) : WL Tryd.prog ops K N E (⟨some d, .load 3 x, t, pos, after, none⟩ :: rest) w := WL.step (OpV.load1 tyInt hx (hb.cell rfl)) hd h
theorem QL.ldh_r (h : QL Tryd.prog ops (fun w' => Below w.heap.size w w') R N ((d, .int .i64 (R0 : Nat)) :: E) rest) (hx : evE E x = some (.pointer (some ⟨gg, 0, none⟩)) := by with_unfolding_all exact rfl) (hb : Bk w gg TSH (shC R0 n0 tv) := by assumption) (hd : Nat.blt d N = true := by with_unfolding_all exact rfl) : QL Tryd.prog ops (fun w' => Below w.heap.size w w') R N E (⟨some d, .load 3 x, t, pos, after, none⟩ :: rest) := QL.step (fun _ hw => (OpV.load1 tyInt hx ((hb.below hw).cell rfl))) hd h
theorem RL.ldh_r (h : R ((d, .int .i64 (R0 : Nat)) :: E)) (hx : evE E x = some (.pointer (some ⟨gg, 0, none⟩)) := by with_unfolding_all exact rfl) (hb : Bk w gg TSH (shC R0 n0 tv) := by assumption) (hd : Nat.blt d N = true := by with_unfolding_all exact rfl) : RL Tryd.prog ops (fun w' => Below w.heap.size w w') R N E ⟨some d, .load 3 x, t, pos, after, none⟩ := RL.step (fun _ hw => (OpV.load1 tyInt hx ((hb.below hw).cell rfl))) hd h
end
section
variable {ops : Array Oper} {K : Env → World → Prop} {R : Env → Prop} {N : Nat} {E : Env} {rest : List Oper} {w : World} {t : TypeId} {pos : String} {after : Array Edge} {d : Nat} {x : Operand} {gg : Nat} {R0 n0 : Nat} {tv : Value}
theorem WL.ldh_p (h : WL Tryd.prog ops K N ((d, .int .i64 (n0 : Nat)) :: E) rest w) (hx : evE E x = some (.pointer (some ⟨gg, 1, none⟩)) := by with_unfolding_all exact rfl) (hb : Bk w gg TSH (shC R0 n0 tv) := by assumption) (hd : Nat.blt d N = true := by with_unfolding_all exact rfl) : WL Tryd.prog ops K N E (⟨some d, .load 3 x, t, pos, after, none⟩ :: rest) w := WL.step (OpV.load1 tyInt hx (hb.cell rfl)) hd h
theorem QL.ldh_p (h : QL Tryd.prog ops (fun w' => Below w.heap.size w w') R N ((d, .int .i64 (n0 : Nat)) :: E) rest) (hx : evE E x = some (.pointer (some ⟨gg, 1, none⟩)) := by with_unfolding_all exact rfl) (hb : Bk w gg TSH (shC R0 n0 tv) := by assumption) (hd : Nat.blt d N = true := by with_unfolding_all exact rfl) : QL Tryd.prog ops (fun w' => Below w.heap.size w w') R N E (⟨some d, .load 3 x, t, pos, after, none⟩ :: rest) := QL.step (fun _ hw => (OpV.load1 tyInt hx ((hb.below hw).cell rfl))) hd h
theorem RL.ldh_p (h : R ((d, .int .i64 (n0 : Nat)) :: E)) (hx : evE E x = some (.pointer (some ⟨gg, 1, none⟩)) := by with_unfolding_all exact rfl) (hb : Bk w gg TSH (shC R0 n0 tv) := by assumption) (hd : Nat.blt d N = true := by with_unfolding_all exact rfl) : RL Tryd.prog ops (fun w' => Below w.heap.size w w') R N E ⟨some d, .load 3 x, t, pos, after, none⟩ := RL.step (fun _ hw => (OpV.load1 tyInt hx ((hb.below hw).cell rfl))) hd h
end
section
variable {ops : Array Oper} {K : Env → World → Prop} {R : Env → Prop} {N : Nat} {E : Env} {rest : List Oper} {w : World} {t : TypeId} {pos : String} {after : Array Edge} {d : Nat} {x : Operand} {gg : Nat} {R0 n0 : Nat} {tv : Value}
theorem WL.ldh_t (h : WL Tryd.prog ops K N ((d, tv) :: E) rest w) (hx : evE E x = some (.pointer (some ⟨gg, 2, none⟩)) := by with_unfolding_all exact rfl) (hb : Bk w gg TSH (shC R0 n0 tv) := by assumption) (hd : Nat.blt d N = true := by with_unfolding_all exact rfl) : WL Tryd.prog ops K N E (⟨some d, .load 48 x, t, pos, after, none⟩ :: rest) w := WL.step (OpV.load1 tySPs hx (hb.cell rfl)) hd h
theorem QL.ldh_t (h : QL Tryd.prog ops (fun w' => Below w.heap.size w w') R N ((d, tv) :: E) rest) (hx : evE E x = some (.pointer (some ⟨gg, 2, none⟩)) := by with_unfolding_all exact rfl) (hb : Bk w gg TSH (shC R0 n0 tv) := by assumption) (hd : Nat.blt d N = true := by with_unfolding_all exact rfl) : QL Tryd.prog ops (fun w' => Below w.heap.size w w') R N E (⟨some d, .load 48 x, t, pos, after, none⟩ :: rest) := QL.step (fun _ hw => (OpV.load1 tySPs hx ((hb.below hw).cell rfl))) hd h
theorem RL.ldh_t (h : R ((d, tv) :: E)) (hx : evE E x = some (.pointer (some ⟨gg, 2, none⟩)) := by with_unfolding_all exact rfl) (hb : Bk w gg TSH (shC R0 n0 tv) := by assumption) (hd : Nat.blt d N = true := by with_unfolding_all exact rfl) : RL Tryd.prog ops (fun w' => Below w.heap.size w w') R N E ⟨some d, .load 48 x, t, pos, after, none⟩ := RL.step (fun _ hw => (OpV.load1 tySPs hx ((hb.below hw).cell rfl))) hd h
end
section
variable {ops : Array Oper} {K : Env → World → Prop} {R : Env → Prop} {N : Nat} {E : Env} {rest : List Oper} {w : World} {t : TypeId} {pos : String} {after : Array Edge} {d : Nat} {x : Operand} {b o i n : Nat} {f : Nat → Nat}
theorem WL.ldPt (h : WL Tryd.prog ops K N ((d, ptV (f i)) :: E) rest w) (hx : evE E x = some (.pointer (some ⟨b, o + i * 1, none⟩)) := by with_unfolding_all exact rfl) (hr : RowOf ptC 1 w (some ⟨b, o, none⟩) n f := by first | assumption | exact OwnS.toRow (by assumption)) (hi : i < n := by omega) (hd : Nat.blt d N = true := by with_unfolding_all exact rfl) : WL Tryd.prog ops K N E (⟨some d, .load 52 x, t, pos, after, none⟩ :: rest) w := WL.step (OpV.load1 tySP hx (hr.get hi 0 _ rfl)) hd h
theorem QL.ldPt (h : QL Tryd.prog ops (fun w' => Below w.heap.size w w') R N ((d, ptV (f i)) :: E) rest) (hx : evE E x = some (.pointer (some ⟨b, o + i * 1, none⟩)) := by with_unfolding_all exact rfl) (hr : RowOf ptC 1 w (some ⟨b, o, none⟩) n f := by first | assumption | exact OwnS.toRow (by assumption)) (hi : i < n := by omega) (hd : Nat.blt d N = true := by with_unfolding_all exact rfl) : QL Tryd.prog ops (fun w' => Below w.heap.size w w') R N E (⟨some d, .load 52 x, t, pos, after, none⟩ :: rest) := QL.step (fun _ hw => (OpV.load1 tySP hx ((hr.below hw).get hi 0 _ rfl))) hd h
theorem RL.ldPtB (h : R ((d, ptV (f i)) :: E)) (hx : evE E x = some (.pointer (some ⟨b, o + i * 1, none⟩)) := by with_unfolding_all exact rfl) (hr : RowOf ptC 1 w (some ⟨b, o, none⟩) n f := by first | assumption | exact OwnS.toRow (by assumption)) (hi : i < n := by omega) (hd : Nat.blt d N = true := by with_unfolding_all exact rfl) : RL Tryd.prog ops (fun w' => Below w.heap.size w w') R N E ⟨some d, .load 52 x, t, pos, after, none⟩ := RL.step (fun _ hw => (OpV.load1 tySP hx ((hr.below hw).get hi 0 _ rfl))) hd h
theorem RL.ldPtH (h : R ((d, ptV (f i)) :: E)) (hx : evE E x = some (.pointer (some ⟨b, o + i * 1, none⟩)) := by with_unfolding_all exact rfl) (hr : RowOf ptC 1 w (some ⟨b, o, none⟩) n f := by first | assumption | exact OwnS.toRow (by assumption)) (hi : i < n := by omega) (hd : Nat.blt d N = true := by with_unfolding_all exact rfl) : RL Tryd.prog ops (fun w' => w'.heap = w.heap) R N E ⟨some d, .load 52 x, t, pos, after, none⟩ := RL.step (fun _ hw => (OpV.load1 tySP hx ((hr.heap hw).get hi 0 _ rfl))) hd h
end
attribute [local irreducible] OpV OpU OpC WL QL WC WX OL RL TL TM
/-- a node in memory, what it owns (F), and what its parts own -/
structure SN (w : World) (g : Nat) (k : Int) (rk wt : Nat) (its : List It) (v : Value) (pl pr : Option Nat) (Fl Fr F : Nat → Prop) : Prop where
  blk : Bk w g TS (nC k rk wt v pl pr)
  own : OwnO itC 2 30 w 0 v its
  lt : ∀ x, F x → x < w.heap.size
  fg : F g
  fv : ∀ x, v.ownBlock = some x → F x
  fl : ∀ x, Fl x → F x
  fr : ∀ x, Fr x → F x
  gv : v.ownBlock ≠ some g
  gl : ¬ Fl g
  gr : ¬ Fr g
  vl : ∀ x, v.ownBlock = some x → ¬ Fl x
  vr : ∀ x, v.ownBlock = some x → ¬ Fr x
  lr : ∀ x, Fl x → ¬ Fr x
/-- a tree in memory -/
def SIn (w : World) : Sf.T → Option Nat → (Nat → Prop) → Prop
  | .nil, p, _ => p = none
  | .node k rk wt its l r, p, F => ∃ g v pl pr Fl Fr, p = some g ∧ SN w g k rk wt its v pl pr Fl Fr F ∧ SIn w l pl Fl ∧ SIn w r pr Fr
section
variable {w w' : World} {g : Nat} {k k' : Int} {rk wt : Nat} {its its' : List It} {v v' : Value} {pl pr pl' pr' p : Option Nat} {Fl Fr F F' : Nat → Prop} {row : Option Nat}
theorem SN.other (h : SN w g k rk wt its v pl pr Fl Fr F) (hs : w.heap.size ≤ w'.heap.size) (hb : ∀ x, F x → w'.heap[x]? = w.heap[x]?) : SN w' g k rk wt its v pl pr Fl Fr F :=
  ⟨(hb g h.fg).trans h.blk, h.own.other fun x hx => hb x (h.fv x hx), fun x hx => Nat.lt_of_lt_of_le (h.lt x hx) hs, h.fg, h.fv, h.fl, h.fr, h.gv, h.gl, h.gr, h.vl, h.vr, h.lr⟩
theorem SN.mono (h : SN w g k rk wt its v pl pr Fl Fr F) (hl : ∀ x, F' x → x < w.heap.size) (hf : ∀ x, F x → F' x) : SN w g k rk wt its v pl pr Fl Fr F' :=
  ⟨h.blk, h.own, hl, hf g h.fg, fun x hx => hf x (h.fv x hx), fun x hx => hf x (h.fl x hx), fun x hx => hf x (h.fr x hx), h.gv, h.gl, h.gr, h.vl, h.vr, h.lr⟩
theorem SIn.other : ∀ {t : Sf.T} {p : Option Nat} {F : Nat → Prop}, SIn w t p F → w.heap.size ≤ w'.heap.size → (∀ x, F x → w'.heap[x]? = w.heap[x]?) → SIn w' t p F := by
  intro t
  induction t with
  | nil => intro p F h _ _; exact h
  | node k rk wt its l r hl hr =>
    intro p F h hs hb
    obtain ⟨g, v, pl, pr, Fl, Fr, e, h1, h2, h3⟩ := h
    exact ⟨g, v, pl, pr, Fl, Fr, e, h1.other hs hb, hl h2 hs fun x hx => hb x (h1.fl x hx), hr h3 hs fun x hx => hb x (h1.fr x hx)⟩
theorem SIn.mono {t : Sf.T} (h : SIn w t p F) (hl : ∀ x, F' x → x < w.heap.size) (hf : ∀ x, F x → F' x) : SIn w t p F' := by
  cases t with
  | nil => exact h
  | node k rk wt its l r =>
    obtain ⟨g, v, pl, pr, Fl, Fr, e, h1, h2, h3⟩ := h
    exact ⟨g, v, pl, pr, Fl, Fr, e, h1.mono hl hf, h2, h3⟩
theorem SIn.below {t : Sf.T} (h : SIn w t p F) (hl : ∀ x, F x → x < w.heap.size) (hb : Below w.heap.size w w') : SIn w' t p F := h.other hb.size fun x hx => hb.block x (hl x hx)
theorem SIn.grown {t : Sf.T} (h : SIn w t p F) (hl : ∀ x, F x → x < w.heap.size) (hg : w.grownBy w' row) (hn : ∀ x, row = some x → ¬ F x) : SIn w' t p F := h.other hg.size fun x hx => hg.block x (hl x hx) fun e => hn x e.symm hx
theorem SIn.chg {t : Sf.T} {G G' : Nat → Prop} (h : SIn w t p F) (hl : ∀ x, F x → x < w.heap.size) (hc : Chg w w' G G') (ha : ∀ x, G x → ¬ F x) : SIn w' t p F := h.other hc.size fun x hx => hc.block x (hl x hx) fun e => ha x e hx
theorem SN.below (h : SN w g k rk wt its v pl pr Fl Fr F) (hb : Below w.heap.size w w') : SN w' g k rk wt its v pl pr Fl Fr F := h.other hb.size fun x hx => hb.block x (h.lt x hx)
theorem SN.lt_l (h : SN w g k rk wt its v pl pr Fl Fr F) : ∀ x, Fl x → x < w.heap.size := fun x hx => h.lt x (h.fl x hx)
theorem SN.lt_r (h : SN w g k rk wt its v pl pr Fl Fr F) : ∀ x, Fr x → x < w.heap.size := fun x hx => h.lt x (h.fr x hx)
/-- its own block is written anew -/
theorem SN.re {k2 : Int} {rk2 wt2 : Nat} {pl2 pr2 : Option Nat} (h : SN w g k rk wt its v pl pr Fl Fr F) (hg : w.grownBy w' (some g)) (hb : Bk w' g TS (nC k2 rk2 wt2 v pl2 pr2)) : SN w' g k2 rk2 wt2 its v pl2 pr2 Fl Fr F :=
  ⟨hb, h.own.keep hg (.inr h.gv), fun x hx => Nat.lt_of_lt_of_le (h.lt x hx) hg.size, h.fg, h.fv, h.fl, h.fr, h.gv, h.gl, h.gr, h.vl, h.vr, h.lr⟩
theorem SN.swap (h : SN w g k rk wt its v pl pr Fl Fr F) : SN w g k rk wt its v pl pr Fr Fl F :=
  ⟨h.blk, h.own, h.lt, h.fg, h.fv, h.fr, h.fl, h.gv, h.gr, h.gl, h.vr, h.vl, fun x h1 h2 => h.lr x h2 h1⟩
end
end Rk
