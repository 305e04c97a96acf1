/- Leaning trees in memory: each node a block of its own. Nodes as lists. -/
import Derived.Test.YtlocmbnbfjonbaaDoorCell
import Derived.Test.YtlocmbnbfjonbaaDoorOwnO
import Derived.Test.YtlocmbnbfjonbaaDoorOrd1
import Derived.Test.YtlocmbnbfjonbaaDoorExI
import Derived.Test.YtlocmbnbfjonbaaDoorLit
import Derived.Test.YtlocmbnbfjonbaaDoorLeanP
import Derived.Test.YtlocmbnbfjonbaaDoorAppK
namespace Rk
open Go Go.RowKit Go.Proofs
theorem OpV.eqP_ {P : Program} {E : Env} {w : World} {t xt yt : TypeId} {x : Operand} {p : Option Addr} (ht : P.underlying xt = some (.pointer (P.pointee xt))) (hx : evE E x = some (.pointer p)) :
    OpV P (.binOp .eql xt x (.const (.pointer none)) yt) t E w (.bool p.isNone) w := fun ρ hρ _ _ _ _ => by
  simp [execOp, hρ _ _ hx, hρ (.const (.pointer none)) (.pointer none) rfl, eqGuard, run_eql_pointer_nil w xt p ht]
theorem OpV.neP_ {P : Program} {E : Env} {w : World} {t xt yt : TypeId} {x : Operand} {p : Option Addr} (ht : P.underlying xt = some (.pointer (P.pointee xt))) (hx : evE E x = some (.pointer p)) :
    OpV P (.binOp .neq xt x (.const (.pointer none)) yt) t E w (.bool (!p.isNone)) w := fun ρ hρ _ _ _ _ => by
  simp [execOp, hρ _ _ hx, hρ (.const (.pointer none)) (.pointer none) rfl, eqGuard, run_neq_pointer_nil w xt p ht]
abbrev TN : TypeId := 83
theorem unTP : Tryd.prog.underlying 74 = some (.pointer (Tryd.prog.pointee 74)) := by kernel_rfl
theorem tyTP : Ty Tryd.prog 74 false 1 8 (.pointer none) := Ty.mk' (by kernel_rfl) (fun _ => by kernel_rfl) rfl
theorem tyTN : Ty Tryd.prog 83 true 5 40 (.agg #[.int .i64 0, .int .i64 0, .pointer none, .pointer none, .int .i64 0]) := Ty.mk' (by kernel_rfl) (fun _ => by kernel_rfl) rfl
theorem unTN : Tryd.prog.underlying 83 = some (.struct (Tryd.prog.fieldsOf 83)) := by kernel_rfl
theorem n0 : ((Tryd.prog.fieldsOf 83)[0]?).map (fun f => (f.offset, f.type)) = some (0, 42) := by kernel_rfl
theorem n1 : ((Tryd.prog.fieldsOf 83)[1]?).map (fun f => (f.offset, f.type)) = some (2, 74) := by kernel_rfl
theorem n2 : ((Tryd.prog.fieldsOf 83)[2]?).map (fun f => (f.offset, f.type)) = some (3, 74) := by kernel_rfl
theorem n3 : ((Tryd.prog.fieldsOf 83)[3]?).map (fun f => (f.offset, f.type)) = some (4, 3) := by kernel_rfl
theorem unNds : Tryd.prog.underlying 24 = some (.slice 35) := by kernel_rfl
theorem unNd : Tryd.prog.underlying 35 = some (.struct (Tryd.prog.fieldsOf 35)) := by kernel_rfl
theorem tyNd : Ty Tryd.prog 35 true 4 32 (.agg #[.int .i64 0, .int .i64 0, .int .i64 0, .int .i64 0]) := Ty.mk' (by kernel_rfl) (fun _ => by kernel_rfl) rfl
theorem d0 : ((Tryd.prog.fieldsOf 35)[0]?).map (fun f => (f.offset, f.type)) = some (0, 3) := by kernel_rfl
theorem d1 : ((Tryd.prog.fieldsOf 35)[1]?).map (fun f => (f.offset, f.type)) = some (1, 3) := by kernel_rfl
theorem d2 : ((Tryd.prog.fieldsOf 35)[2]?).map (fun f => (f.offset, f.type)) = some (2, 3) := by kernel_rfl
theorem d3 : ((Tryd.prog.fieldsOf 35)[3]?).map (fun f => (f.offset, f.type)) = some (3, 3) := by kernel_rfl
abbrev Nd := Ln.Nd
/-- a node's four cells -/
def ndC (x : Nd) : List Value := [.int .i64 x.1, .int .i64 x.2.1, .int .i64 x.2.2.1, .int .i64 x.2.2.2]
theorem ndC_len (x : Nd) : (ndC x).length = 4 := rfl
theorem ndC_one (x : Nd) : ∀ u ∈ ndC x, u.oneCell' = true := by simp [ndC, Value.oneCell']
abbrev ndV (x : Nd) : Value := .agg (ndC x).toArray
section
variable {E : Env} {w : World} {t : TypeId} {x y z u : Operand} {bk o n c j : Nat} {a b d e : Int}
theorem OpV.st_n0 (hx : evE E x = some (.pointer (some ⟨bk, o, none⟩))) : OpV Tryd.prog (.fieldAddr 83 x 0) t E w (.pointer (some ⟨bk, o, none⟩)) w := OpV.fieldAddr (off := 0) unTN n0 tyItem (by omega) hx
theorem OpV.st_n1 (hx : evE E x = some (.pointer (some ⟨bk, o, none⟩))) : OpV Tryd.prog (.fieldAddr 83 x 1) t E w (.pointer (some ⟨bk, o + 2, none⟩)) w := OpV.fieldAddr unTN n1 tyTP (by omega) hx
theorem OpV.st_n2 (hx : evE E x = some (.pointer (some ⟨bk, o, none⟩))) : OpV Tryd.prog (.fieldAddr 83 x 2) t E w (.pointer (some ⟨bk, o + 3, none⟩)) w := OpV.fieldAddr unTN n2 tyTP (by omega) hx
theorem OpV.st_n3 (hx : evE E x = some (.pointer (some ⟨bk, o, none⟩))) : OpV Tryd.prog (.fieldAddr 83 x 3) t E w (.pointer (some ⟨bk, o + 4, none⟩)) w := OpV.fieldAddr unTN n3 tyInt (by omega) hx
theorem OpV.fd_n0 (hx : evE E x = some (.pointer (some ⟨bk, o, none⟩))) : OpV Tryd.prog (.fieldAddr 35 x 0) t E w (.pointer (some ⟨bk, o, none⟩)) w := OpV.fieldAddr (off := 0) unNd d0 tyInt (by omega) hx
theorem OpV.fd_n1 (hx : evE E x = some (.pointer (some ⟨bk, o, none⟩))) : OpV Tryd.prog (.fieldAddr 35 x 1) t E w (.pointer (some ⟨bk, o + 1, none⟩)) w := OpV.fieldAddr unNd d1 tyInt (by omega) hx
theorem OpV.fd_n2 (hx : evE E x = some (.pointer (some ⟨bk, o, none⟩))) : OpV Tryd.prog (.fieldAddr 35 x 2) t E w (.pointer (some ⟨bk, o + 2, none⟩)) w := OpV.fieldAddr unNd d2 tyInt (by omega) hx
theorem OpV.fd_n3 (hx : evE E x = some (.pointer (some ⟨bk, o, none⟩))) : OpV Tryd.prog (.fieldAddr 35 x 3) t E w (.pointer (some ⟨bk, o + 3, none⟩)) w := OpV.fieldAddr unNd d3 tyInt (by omega) hx
theorem OpV.eqP0_t (hx : evE E x = some (.pointer none)) {yt : TypeId} : OpV Tryd.prog (.binOp .eql 74 x (.const (.pointer none)) yt) t E w (.bool true) w := OpV.eqP_ unTP hx
theorem OpV.elLen_n {A : Option Addr} (hx : evE E x = some (.slice A n c)) {rt : TypeId} : OpV Tryd.prog (.call { callee := .builtin .len, args := #[x], argTypes := #[24] }) rt E w (.int .i64 n) w := OpV.len_slice unNds hx
theorem OpV.elAddrN_n (hx : evE E x = some (.slice (some ⟨bk, o, none⟩) n c)) (hi : evE E y = some (.int .i64 (j : Int))) (hn : j < n) :
    OpV Tryd.prog (.indexAddr 24 x y) t E w (.pointer (some ⟨bk, o + j * 4, none⟩)) w := OpV.indexAddr unNds tyNd.size hx hi (by omega) (by omega)
theorem OpV.nd4 (hx : evE E x = some (.int .i64 a)) (hy : evE E y = some (.int .i64 b)) (hz : evE E z = some (.int .i64 d)) (hu : evE E u = some (.int .i64 e)) :
    OpV Tryd.prog (.build 35 #[(0, x), (1, y), (2, z), (3, u)]) t E w (ndV (a, b, d, e)) w :=
  OpV.build (parts := [(0, x), (1, y), (2, z), (3, u)]) (ps := [(0, .int .i64 a), (1, .int .i64 b), (2, .int .i64 d), (3, .int .i64 e)]) (by simp [evp, hx, hy, hz, hu]) (by kernel_rfl)
theorem OpV.fd_tn (hx : evE E x = some (.agg (itC (a, b)).toArray)) :
    OpV Tryd.prog (.build 83 #[(0, x)]) t E w (.agg #[.int .i64 a, .int .i64 b, .pointer none, .pointer none, .int .i64 0]) w :=
  OpV.build (parts := [(0, x)]) (ps := [(0, .agg (itC (a, b)).toArray)]) (by simp [evp, hx]) (by kernel_rfl)
section
variable {ops : Array Oper} {K : Env → World → Prop} {N d_ : Nat} {rest : List Oper} {pos : String} {after : Array Edge} {C : World → Prop} {R : Env → Prop}
theorem WL.eqP_ {P : Program} {E : Env} {w : World} {t xt yt : TypeId} {x : Operand} {p : Option Addr} (ht : P.underlying xt = some (.pointer (P.pointee xt))) (hx : evE E x = some (.pointer p)) (hd_ : Nat.blt d_ N = true) (h_ : WL P ops K N ((d_, (.bool p.isNone)) :: E) rest w) :
    WL P ops K N E (⟨some d_, .binOp .eql xt x (.const (.pointer none)) yt, t, pos, after, none⟩ :: rest) w := WL.step (OpV.eqP_ ht hx) hd_ h_
theorem WL.neP_ {P : Program} {E : Env} {w : World} {t xt yt : TypeId} {x : Operand} {p : Option Addr} (ht : P.underlying xt = some (.pointer (P.pointee xt))) (hx : evE E x = some (.pointer p)) (hd_ : Nat.blt d_ N = true) (h_ : WL P ops K N ((d_, (.bool (!p.isNone))) :: E) rest w) :
    WL P ops K N E (⟨some d_, .binOp .neq xt x (.const (.pointer none)) yt, t, pos, after, none⟩ :: rest) w := WL.step (OpV.neP_ ht hx) hd_ h_
theorem WL.st_n0  (h_ : WL Tryd.prog ops K N ((d_, (.pointer (some ⟨bk, o, none⟩))) :: E) rest w) (hx : evE E x = some (.pointer (some ⟨bk, o, none⟩)) := by with_unfolding_all exact rfl) (hd_ : Nat.blt d_ N = true := by with_unfolding_all exact rfl) :
    WL Tryd.prog ops K N E (⟨some d_, .fieldAddr 83 x 0, t, pos, after, none⟩ :: rest) w := WL.step (OpV.st_n0 hx) hd_ h_
theorem QL.st_n0  (h_ : QL Tryd.prog ops C R N ((d_, (.pointer (some ⟨bk, o, none⟩))) :: E) rest) (hx : evE E x = some (.pointer (some ⟨bk, o, none⟩)) := by with_unfolding_all exact rfl) (hd_ : Nat.blt d_ N = true := by with_unfolding_all exact rfl) :
    QL Tryd.prog ops C R N E (⟨some d_, .fieldAddr 83 x 0, t, pos, after, none⟩ :: rest) := QL.step (fun _ _ => OpV.st_n0 hx) hd_ h_
theorem RL.st_n0  (h_ : R ((d_, (.pointer (some ⟨bk, o, none⟩))) :: E)) (hx : evE E x = some (.pointer (some ⟨bk, o, none⟩)) := by with_unfolding_all exact rfl) (hd_ : Nat.blt d_ N = true := by with_unfolding_all exact rfl) :
    RL Tryd.prog ops C R N E ⟨some d_, .fieldAddr 83 x 0, t, pos, after, none⟩ := RL.step (fun _ _ => OpV.st_n0 hx) hd_ h_
theorem WL.st_n1  (h_ : WL Tryd.prog ops K N ((d_, (.pointer (some ⟨bk, o + 2, none⟩))) :: E) rest w) (hx : evE E x = some (.pointer (some ⟨bk, o, none⟩)) := by with_unfolding_all exact rfl) (hd_ : Nat.blt d_ N = true := by with_unfolding_all exact rfl) :
    WL Tryd.prog ops K N E (⟨some d_, .fieldAddr 83 x 1, t, pos, after, none⟩ :: rest) w := WL.step (OpV.st_n1 hx) hd_ h_
theorem QL.st_n1  (h_ : QL Tryd.prog ops C R N ((d_, (.pointer (some ⟨bk, o + 2, none⟩))) :: E) rest) (hx : evE E x = some (.pointer (some ⟨bk, o, none⟩)) := by with_unfolding_all exact rfl) (hd_ : Nat.blt d_ N = true := by with_unfolding_all exact rfl) :
    QL Tryd.prog ops C R N E (⟨some d_, .fieldAddr 83 x 1, t, pos, after, none⟩ :: rest) := QL.step (fun _ _ => OpV.st_n1 hx) hd_ h_
theorem RL.st_n1  (h_ : R ((d_, (.pointer (some ⟨bk, o + 2, none⟩))) :: E)) (hx : evE E x = some (.pointer (some ⟨bk, o, none⟩)) := by with_unfolding_all exact rfl) (hd_ : Nat.blt d_ N = true := by with_unfolding_all exact rfl) :
    RL Tryd.prog ops C R N E ⟨some d_, .fieldAddr 83 x 1, t, pos, after, none⟩ := RL.step (fun _ _ => OpV.st_n1 hx) hd_ h_
theorem WL.st_n2  (h_ : WL Tryd.prog ops K N ((d_, (.pointer (some ⟨bk, o + 3, none⟩))) :: E) rest w) (hx : evE E x = some (.pointer (some ⟨bk, o, none⟩)) := by with_unfolding_all exact rfl) (hd_ : Nat.blt d_ N = true := by with_unfolding_all exact rfl) :
    WL Tryd.prog ops K N E (⟨some d_, .fieldAddr 83 x 2, t, pos, after, none⟩ :: rest) w := WL.step (OpV.st_n2 hx) hd_ h_
theorem QL.st_n2  (h_ : QL Tryd.prog ops C R N ((d_, (.pointer (some ⟨bk, o + 3, none⟩))) :: E) rest) (hx : evE E x = some (.pointer (some ⟨bk, o, none⟩)) := by with_unfolding_all exact rfl) (hd_ : Nat.blt d_ N = true := by with_unfolding_all exact rfl) :
    QL Tryd.prog ops C R N E (⟨some d_, .fieldAddr 83 x 2, t, pos, after, none⟩ :: rest) := QL.step (fun _ _ => OpV.st_n2 hx) hd_ h_
theorem RL.st_n2  (h_ : R ((d_, (.pointer (some ⟨bk, o + 3, none⟩))) :: E)) (hx : evE E x = some (.pointer (some ⟨bk, o, none⟩)) := by with_unfolding_all exact rfl) (hd_ : Nat.blt d_ N = true := by with_unfolding_all exact rfl) :
    RL Tryd.prog ops C R N E ⟨some d_, .fieldAddr 83 x 2, t, pos, after, none⟩ := RL.step (fun _ _ => OpV.st_n2 hx) hd_ h_
theorem WL.st_n3  (h_ : WL Tryd.prog ops K N ((d_, (.pointer (some ⟨bk, o + 4, none⟩))) :: E) rest w) (hx : evE E x = some (.pointer (some ⟨bk, o, none⟩)) := by with_unfolding_all exact rfl) (hd_ : Nat.blt d_ N = true := by with_unfolding_all exact rfl) :
    WL Tryd.prog ops K N E (⟨some d_, .fieldAddr 83 x 3, t, pos, after, none⟩ :: rest) w := WL.step (OpV.st_n3 hx) hd_ h_
theorem QL.st_n3  (h_ : QL Tryd.prog ops C R N ((d_, (.pointer (some ⟨bk, o + 4, none⟩))) :: E) rest) (hx : evE E x = some (.pointer (some ⟨bk, o, none⟩)) := by with_unfolding_all exact rfl) (hd_ : Nat.blt d_ N = true := by with_unfolding_all exact rfl) :
    QL Tryd.prog ops C R N E (⟨some d_, .fieldAddr 83 x 3, t, pos, after, none⟩ :: rest) := QL.step (fun _ _ => OpV.st_n3 hx) hd_ h_
theorem RL.st_n3  (h_ : R ((d_, (.pointer (some ⟨bk, o + 4, none⟩))) :: E)) (hx : evE E x = some (.pointer (some ⟨bk, o, none⟩)) := by with_unfolding_all exact rfl) (hd_ : Nat.blt d_ N = true := by with_unfolding_all exact rfl) :
    RL Tryd.prog ops C R N E ⟨some d_, .fieldAddr 83 x 3, t, pos, after, none⟩ := RL.step (fun _ _ => OpV.st_n3 hx) hd_ h_
theorem WL.fd_n0  (h_ : WL Tryd.prog ops K N ((d_, (.pointer (some ⟨bk, o, none⟩))) :: E) rest w) (hx : evE E x = some (.pointer (some ⟨bk, o, none⟩)) := by with_unfolding_all exact rfl) (hd_ : Nat.blt d_ N = true := by with_unfolding_all exact rfl) :
    WL Tryd.prog ops K N E (⟨some d_, .fieldAddr 35 x 0, t, pos, after, none⟩ :: rest) w := WL.step (OpV.fd_n0 hx) hd_ h_
theorem QL.fd_n0  (h_ : QL Tryd.prog ops C R N ((d_, (.pointer (some ⟨bk, o, none⟩))) :: E) rest) (hx : evE E x = some (.pointer (some ⟨bk, o, none⟩)) := by with_unfolding_all exact rfl) (hd_ : Nat.blt d_ N = true := by with_unfolding_all exact rfl) :
    QL Tryd.prog ops C R N E (⟨some d_, .fieldAddr 35 x 0, t, pos, after, none⟩ :: rest) := QL.step (fun _ _ => OpV.fd_n0 hx) hd_ h_
theorem RL.fd_n0  (h_ : R ((d_, (.pointer (some ⟨bk, o, none⟩))) :: E)) (hx : evE E x = some (.pointer (some ⟨bk, o, none⟩)) := by with_unfolding_all exact rfl) (hd_ : Nat.blt d_ N = true := by with_unfolding_all exact rfl) :
    RL Tryd.prog ops C R N E ⟨some d_, .fieldAddr 35 x 0, t, pos, after, none⟩ := RL.step (fun _ _ => OpV.fd_n0 hx) hd_ h_
theorem WL.fd_n1  (h_ : WL Tryd.prog ops K N ((d_, (.pointer (some ⟨bk, o + 1, none⟩))) :: E) rest w) (hx : evE E x = some (.pointer (some ⟨bk, o, none⟩)) := by with_unfolding_all exact rfl) (hd_ : Nat.blt d_ N = true := by with_unfolding_all exact rfl) :
    WL Tryd.prog ops K N E (⟨some d_, .fieldAddr 35 x 1, t, pos, after, none⟩ :: rest) w := WL.step (OpV.fd_n1 hx) hd_ h_
theorem QL.fd_n1  (h_ : QL Tryd.prog ops C R N ((d_, (.pointer (some ⟨bk, o + 1, none⟩))) :: E) rest) (hx : evE E x = some (.pointer (some ⟨bk, o, none⟩)) := by with_unfolding_all exact rfl) (hd_ : Nat.blt d_ N = true := by with_unfolding_all exact rfl) :
    QL Tryd.prog ops C R N E (⟨some d_, .fieldAddr 35 x 1, t, pos, after, none⟩ :: rest) := QL.step (fun _ _ => OpV.fd_n1 hx) hd_ h_
theorem RL.fd_n1  (h_ : R ((d_, (.pointer (some ⟨bk, o + 1, none⟩))) :: E)) (hx : evE E x = some (.pointer (some ⟨bk, o, none⟩)) := by with_unfolding_all exact rfl) (hd_ : Nat.blt d_ N = true := by with_unfolding_all exact rfl) :
    RL Tryd.prog ops C R N E ⟨some d_, .fieldAddr 35 x 1, t, pos, after, none⟩ := RL.step (fun _ _ => OpV.fd_n1 hx) hd_ h_
theorem WL.fd_n2  (h_ : WL Tryd.prog ops K N ((d_, (.pointer (some ⟨bk, o + 2, none⟩))) :: E) rest w) (hx : evE E x = some (.pointer (some ⟨bk, o, none⟩)) := by with_unfolding_all exact rfl) (hd_ : Nat.blt d_ N = true := by with_unfolding_all exact rfl) :
    WL Tryd.prog ops K N E (⟨some d_, .fieldAddr 35 x 2, t, pos, after, none⟩ :: rest) w := WL.step (OpV.fd_n2 hx) hd_ h_
theorem QL.fd_n2  (h_ : QL Tryd.prog ops C R N ((d_, (.pointer (some ⟨bk, o + 2, none⟩))) :: E) rest) (hx : evE E x = some (.pointer (some ⟨bk, o, none⟩)) := by with_unfolding_all exact rfl) (hd_ : Nat.blt d_ N = true := by with_unfolding_all exact rfl) :
    QL Tryd.prog ops C R N E (⟨some d_, .fieldAddr 35 x 2, t, pos, after, none⟩ :: rest) := QL.step (fun _ _ => OpV.fd_n2 hx) hd_ h_
theorem RL.fd_n2  (h_ : R ((d_, (.pointer (some ⟨bk, o + 2, none⟩))) :: E)) (hx : evE E x = some (.pointer (some ⟨bk, o, none⟩)) := by with_unfolding_all exact rfl) (hd_ : Nat.blt d_ N = true := by with_unfolding_all exact rfl) :
    RL Tryd.prog ops C R N E ⟨some d_, .fieldAddr 35 x 2, t, pos, after, none⟩ := RL.step (fun _ _ => OpV.fd_n2 hx) hd_ h_
theorem WL.fd_n3  (h_ : WL Tryd.prog ops K N ((d_, (.pointer (some ⟨bk, o + 3, none⟩))) :: E) rest w) (hx : evE E x = some (.pointer (some ⟨bk, o, none⟩)) := by with_unfolding_all exact rfl) (hd_ : Nat.blt d_ N = true := by with_unfolding_all exact rfl) :
    WL Tryd.prog ops K N E (⟨some d_, .fieldAddr 35 x 3, t, pos, after, none⟩ :: rest) w := WL.step (OpV.fd_n3 hx) hd_ h_
theorem QL.fd_n3  (h_ : QL Tryd.prog ops C R N ((d_, (.pointer (some ⟨bk, o + 3, none⟩))) :: E) rest) (hx : evE E x = some (.pointer (some ⟨bk, o, none⟩)) := by with_unfolding_all exact rfl) (hd_ : Nat.blt d_ N = true := by with_unfolding_all exact rfl) :
    QL Tryd.prog ops C R N E (⟨some d_, .fieldAddr 35 x 3, t, pos, after, none⟩ :: rest) := QL.step (fun _ _ => OpV.fd_n3 hx) hd_ h_
theorem RL.fd_n3  (h_ : R ((d_, (.pointer (some ⟨bk, o + 3, none⟩))) :: E)) (hx : evE E x = some (.pointer (some ⟨bk, o, none⟩)) := by with_unfolding_all exact rfl) (hd_ : Nat.blt d_ N = true := by with_unfolding_all exact rfl) :
    RL Tryd.prog ops C R N E ⟨some d_, .fieldAddr 35 x 3, t, pos, after, none⟩ := RL.step (fun _ _ => OpV.fd_n3 hx) hd_ h_
theorem WL.eqP0_t {yt : TypeId} (h_ : WL Tryd.prog ops K N ((d_, (.bool true)) :: E) rest w) (hx : evE E x = some (.pointer none) := by with_unfolding_all exact rfl) (hd_ : Nat.blt d_ N = true := by with_unfolding_all exact rfl) :
    WL Tryd.prog ops K N E (⟨some d_, .binOp .eql 74 x (.const (.pointer none)) yt, t, pos, after, none⟩ :: rest) w := WL.step (OpV.eqP0_t hx) hd_ h_
theorem QL.eqP0_t {yt : TypeId} (h_ : QL Tryd.prog ops C R N ((d_, (.bool true)) :: E) rest) (hx : evE E x = some (.pointer none) := by with_unfolding_all exact rfl) (hd_ : Nat.blt d_ N = true := by with_unfolding_all exact rfl) :
    QL Tryd.prog ops C R N E (⟨some d_, .binOp .eql 74 x (.const (.pointer none)) yt, t, pos, after, none⟩ :: rest) := QL.step (fun _ _ => OpV.eqP0_t hx) hd_ h_
theorem RL.eqP0_t {yt : TypeId} (h_ : R ((d_, (.bool true)) :: E)) (hx : evE E x = some (.pointer none) := by with_unfolding_all exact rfl) (hd_ : Nat.blt d_ N = true := by with_unfolding_all exact rfl) :
    RL Tryd.prog ops C R N E ⟨some d_, .binOp .eql 74 x (.const (.pointer none)) yt, t, pos, after, none⟩ := RL.step (fun _ _ => OpV.eqP0_t hx) hd_ h_
theorem WL.elLen_n {A : Option Addr} {rt : TypeId} (h_ : WL Tryd.prog ops K N ((d_, (.int .i64 n)) :: E) rest w) (hx : evE E x = some (.slice A n c) := by with_unfolding_all exact rfl) (hd_ : Nat.blt d_ N = true := by with_unfolding_all exact rfl) :
    WL Tryd.prog ops K N E (⟨some d_, .call { callee := .builtin .len, args := #[x], argTypes := #[24] }, rt, pos, after, none⟩ :: rest) w := WL.step (OpV.elLen_n hx) hd_ h_
theorem QL.elLen_n {A : Option Addr} {rt : TypeId} (h_ : QL Tryd.prog ops C R N ((d_, (.int .i64 n)) :: E) rest) (hx : evE E x = some (.slice A n c) := by with_unfolding_all exact rfl) (hd_ : Nat.blt d_ N = true := by with_unfolding_all exact rfl) :
    QL Tryd.prog ops C R N E (⟨some d_, .call { callee := .builtin .len, args := #[x], argTypes := #[24] }, rt, pos, after, none⟩ :: rest) := QL.step (fun _ _ => OpV.elLen_n hx) hd_ h_
theorem RL.elLen_n {A : Option Addr} {rt : TypeId} (h_ : R ((d_, (.int .i64 n)) :: E)) (hx : evE E x = some (.slice A n c) := by with_unfolding_all exact rfl) (hd_ : Nat.blt d_ N = true := by with_unfolding_all exact rfl) :
    RL Tryd.prog ops C R N E ⟨some d_, .call { callee := .builtin .len, args := #[x], argTypes := #[24] }, rt, pos, after, none⟩ := RL.step (fun _ _ => OpV.elLen_n hx) hd_ h_
theorem WL.elAddrN_n  (h_ : WL Tryd.prog ops K N ((d_, (.pointer (some ⟨bk, o + j * 4, none⟩))) :: E) rest w) (hx : evE E x = some (.slice (some ⟨bk, o, none⟩) n c) := by with_unfolding_all exact rfl) (hi : evE E y = some (.int .i64 (j : Int)) := by with_unfolding_all exact rfl) (hn : j < n := by omega) (hd_ : Nat.blt d_ N = true := by with_unfolding_all exact rfl) :
    WL Tryd.prog ops K N E (⟨some d_, .indexAddr 24 x y, t, pos, after, none⟩ :: rest) w := WL.step (OpV.elAddrN_n hx hi hn) hd_ h_
theorem QL.elAddrN_n  (h_ : QL Tryd.prog ops C R N ((d_, (.pointer (some ⟨bk, o + j * 4, none⟩))) :: E) rest) (hx : evE E x = some (.slice (some ⟨bk, o, none⟩) n c) := by with_unfolding_all exact rfl) (hi : evE E y = some (.int .i64 (j : Int)) := by with_unfolding_all exact rfl) (hn : j < n := by omega) (hd_ : Nat.blt d_ N = true := by with_unfolding_all exact rfl) :
    QL Tryd.prog ops C R N E (⟨some d_, .indexAddr 24 x y, t, pos, after, none⟩ :: rest) := QL.step (fun _ _ => OpV.elAddrN_n hx hi hn) hd_ h_
theorem RL.elAddrN_n  (h_ : R ((d_, (.pointer (some ⟨bk, o + j * 4, none⟩))) :: E)) (hx : evE E x = some (.slice (some ⟨bk, o, none⟩) n c) := by with_unfolding_all exact rfl) (hi : evE E y = some (.int .i64 (j : Int)) := by with_unfolding_all exact rfl) (hn : j < n := by omega) (hd_ : Nat.blt d_ N = true := by with_unfolding_all exact rfl) :
    RL Tryd.prog ops C R N E ⟨some d_, .indexAddr 24 x y, t, pos, after, none⟩ := RL.step (fun _ _ => OpV.elAddrN_n hx hi hn) hd_ h_
theorem WL.nd4 (hx : evE E x = some (.int .i64 a)) (hy : evE E y = some (.int .i64 b)) (hz : evE E z = some (.int .i64 d)) (hu : evE E u = some (.int .i64 e)) (hd_ : Nat.blt d_ N = true) (h_ : WL Tryd.prog ops K N ((d_, (ndV (a, b, d, e))) :: E) rest w) :
    WL Tryd.prog ops K N E (⟨some d_, .build 35 #[(0, x), (1, y), (2, z), (3, u)], t, pos, after, none⟩ :: rest) w := WL.step (OpV.nd4 hx hy hz hu) hd_ h_
theorem QL.nd4 (hx : evE E x = some (.int .i64 a)) (hy : evE E y = some (.int .i64 b)) (hz : evE E z = some (.int .i64 d)) (hu : evE E u = some (.int .i64 e)) (hd_ : Nat.blt d_ N = true) (h_ : QL Tryd.prog ops C R N ((d_, (ndV (a, b, d, e))) :: E) rest) :
    QL Tryd.prog ops C R N E (⟨some d_, .build 35 #[(0, x), (1, y), (2, z), (3, u)], t, pos, after, none⟩ :: rest) := QL.step (fun _ _ => OpV.nd4 hx hy hz hu) hd_ h_
theorem RL.nd4 (hx : evE E x = some (.int .i64 a)) (hy : evE E y = some (.int .i64 b)) (hz : evE E z = some (.int .i64 d)) (hu : evE E u = some (.int .i64 e)) (hd_ : Nat.blt d_ N = true) (h_ : R ((d_, (ndV (a, b, d, e))) :: E)) :
    RL Tryd.prog ops C R N E ⟨some d_, .build 35 #[(0, x), (1, y), (2, z), (3, u)], t, pos, after, none⟩ := RL.step (fun _ _ => OpV.nd4 hx hy hz hu) hd_ h_
theorem WL.fd_tn  (h_ : WL Tryd.prog ops K N ((d_, (.agg #[.int .i64 a, .int .i64 b, .pointer none, .pointer none, .int .i64 0])) :: E) rest w) (hx : evE E x = some (.agg (itC (a, b)).toArray) := by with_unfolding_all exact rfl) (hd_ : Nat.blt d_ N = true := by with_unfolding_all exact rfl) :
    WL Tryd.prog ops K N E (⟨some d_, .build 83 #[(0, x)], t, pos, after, none⟩ :: rest) w := WL.step (OpV.fd_tn hx) hd_ h_
theorem QL.fd_tn  (h_ : QL Tryd.prog ops C R N ((d_, (.agg #[.int .i64 a, .int .i64 b, .pointer none, .pointer none, .int .i64 0])) :: E) rest) (hx : evE E x = some (.agg (itC (a, b)).toArray) := by with_unfolding_all exact rfl) (hd_ : Nat.blt d_ N = true := by with_unfolding_all exact rfl) :
    QL Tryd.prog ops C R N E (⟨some d_, .build 83 #[(0, x)], t, pos, after, none⟩ :: rest) := QL.step (fun _ _ => OpV.fd_tn hx) hd_ h_
theorem RL.fd_tn  (h_ : R ((d_, (.agg #[.int .i64 a, .int .i64 b, .pointer none, .pointer none, .int .i64 0])) :: E)) (hx : evE E x = some (.agg (itC (a, b)).toArray) := by with_unfolding_all exact rfl) (hd_ : Nat.blt d_ N = true := by with_unfolding_all exact rfl) :
    RL Tryd.prog ops C R N E ⟨some d_, .build 83 #[(0, x)], t, pos, after, none⟩ := RL.step (fun _ _ => OpV.fd_tn hx) hd_ h_
end
end
section
variable {ops : Array Oper} {K : Env → World → Prop} {R : Env → Prop} {N : Nat} {E : Env} {rest : List Oper} {w : World} {t : TypeId} {pos : String} {after : Array Edge} {d : Nat} {x : Operand} {g j : Nat} {te : TypeId} {cs : List Value} {u : Value}
theorem WL.ldTP (h : WL Tryd.prog ops K N ((d, u) :: E) rest w) (hx : evE E x = some (.pointer (some ⟨g, j, none⟩)) := by with_unfolding_all exact rfl) (hb : Bk w g te cs := by assumption) (hu : cs[j]? = some u := by with_unfolding_all exact rfl) (hd : Nat.blt d N = true := by with_unfolding_all exact rfl) : WL Tryd.prog ops K N E (⟨some d, .load 74 x, t, pos, after, none⟩ :: rest) w := WL.step (OpV.load1 tyTP hx (hb.cell hu)) hd h
theorem QL.ldTP (h : QL Tryd.prog ops (fun w' => Below w.heap.size w w') R N ((d, u) :: E) rest) (hx : evE E x = some (.pointer (some ⟨g, j, none⟩)) := by with_unfolding_all exact rfl) (hb : Bk w g te cs := by assumption) (hu : cs[j]? = some u := by with_unfolding_all exact rfl) (hd : Nat.blt d N = true := by with_unfolding_all exact rfl) : QL Tryd.prog ops (fun w' => Below w.heap.size w w') R N E (⟨some d, .load 74 x, t, pos, after, none⟩ :: rest) := QL.step (fun _ hw => OpV.load1 tyTP hx ((hb.below hw).cell hu)) hd h
theorem RL.ldTPB (h : R ((d, u) :: E)) (hx : evE E x = some (.pointer (some ⟨g, j, none⟩)) := by with_unfolding_all exact rfl) (hb : Bk w g te cs := by assumption) (hu : cs[j]? = some u := by with_unfolding_all exact rfl) (hd : Nat.blt d N = true := by with_unfolding_all exact rfl) : RL Tryd.prog ops (fun w' => Below w.heap.size w w') R N E ⟨some d, .load 74 x, t, pos, after, none⟩ := RL.step (fun _ hw => OpV.load1 tyTP hx ((hb.below hw).cell hu)) hd h
theorem RL.ldTPH (h : R ((d, u) :: E)) (hx : evE E x = some (.pointer (some ⟨g, j, none⟩)) := by with_unfolding_all exact rfl) (hb : Bk w g te cs := by assumption) (hu : cs[j]? = some u := by with_unfolding_all exact rfl) (hd : Nat.blt d N = true := by with_unfolding_all exact rfl) : RL Tryd.prog ops (fun w' => w'.heap = w.heap) R N E ⟨some d, .load 74 x, t, pos, after, none⟩ := RL.step (fun _ hw => OpV.load1 tyTP hx ((hb.heap hw).cell hu)) hd h
end
attribute [local irreducible] OpV OpU OpC WL QL WC WX OL RL TL TM
/-- a tree of which each node is named by its block -/
abbrev PN := Nat × Ln.It
def kP : PN → Int := fun x => x.2.1
def ptr : Ln.T PN → Value
  | .nil => .pointer none
  | .node x _ _ => .pointer (some ⟨x.1, 0, none⟩)
def ndCells (x : PN) (l r : Ln.T PN) (s : Int) : List Value := [.int .i64 x.2.1, .int .i64 x.2.2, ptr l, ptr r, .int .i64 s]
def In (w : World) : Ln.T PN → Prop
  | .nil => True
  | .node x l r => Bk w x.1 TN (ndCells x l r ((r.span + 1 : Nat) : Int)) ∧ In w l ∧ In w r
def blks (t : Ln.T PN) : List Nat := t.items.map (·.1)
def FnS (t : Ln.T PN) : Nat → Prop := fun g => g ∈ blks t
theorem blks_node (x : PN) (l r : Ln.T PN) : blks (.node x l r) = x.1 :: (blks l ++ blks r) := by simp [blks, Ln.T.items]
theorem ptr_one (t : Ln.T PN) : (ptr t).oneCell' = true := by cases t <;> rfl
theorem ptr_cells (t : Ln.T PN) : (ptr t).cells = #[ptr t] := by cases t <;> rfl
section
variable {w w' : World}
theorem In.keep : ∀ {t : Ln.T PN}, In w t → (∀ g, g ∈ blks t → w'.heap[g]? = w.heap[g]?) → In w' t := by
  intro t
  induction t with
  | nil => intro _ _; trivial
  | node x l r hl hr =>
    intro h hk
    rw [blks_node] at hk
    exact ⟨(hk x.1 (by simp)).trans h.1, hl h.2.1 fun g hg => hk g (by simp [hg]), hr h.2.2 fun g hg => hk g (by simp [hg])⟩
theorem In.lt : ∀ {t : Ln.T PN}, In w t → ∀ g, g ∈ blks t → g < w.heap.size := by
  intro t
  induction t with
  | nil => intro _ g hg; cases hg
  | node x l r hl hr =>
    intro h g hg
    rw [blks_node] at hg
    rcases List.mem_cons.1 hg with rfl | hg
    · exact h.1.lt
    · rcases List.mem_append.1 hg with hg | hg
      · exact hl h.2.1 g hg
      · exact hr h.2.2 g hg
theorem In.below {t : Ln.T PN} (h : In w t) (hb : Below w.heap.size w w') : In w' t := h.keep fun g hg => hb.block g (h.lt g hg)
theorem In.chg {t : Ln.T PN} {F F' : Nat → Prop} (h : In w t) (hc : Chg w w' F F') (ha : ∀ g, g ∈ blks t → ¬ F g) : In w' t := h.keep fun g hg => hc.block g (h.lt g hg) (ha g hg)
theorem In.one {t : Ln.T PN} {g : Nat} (h : In w t) (hg : w.grownBy w' (some g)) (hn : g ∉ blks t) : In w' t := h.keep fun k hk => hg.block k (h.lt k hk) (fun e => hn (by injection e with e; subst e; exact hk))
end
theorem Chg.wid {w w' : World} {F F' S S' : Nat → Prop} (hc : Chg w w' F F') (h1 : ∀ g, F g → S g) (h2 : ∀ g, S' g → F' g ∨ S g) (hl : ∀ g, S g → g < w.heap.size) : Chg w w' S S' :=
  ⟨hc.os, hc.tape, hc.output, hc.size, fun k hk hn => hc.block k hk (fun hf => hn (h1 k hf)), fun g hg => by
    rcases h2 g hg with h | h
    · exact ⟨(hc.next g h).1.imp (h1 g) id, (hc.next g h).2⟩
    · exact ⟨.inl h, Nat.lt_of_lt_of_le (hl g h) hc.size⟩⟩
/-- how long the way to the right is -/
theorem long_any (t : Ln.T PN) (w : World) (h : In w t) : Calls Tryd.prog 48 #[ptr t] w (Ret fun v w' => v = .int .i64 (t.span : Nat) ∧ w' = w) := by
  refine calls_of (l := [ptr t]) Tryd.func48 rfl Tryd.ntmps48 rfl ?_
  cases t with
  | nil =>
    with_reducible repeat (first | refine WL.move ?_ | refine WL.assign ?_ | refine WL.ldKey ?_ | refine WL.ldId ?_ | refine WL.ldInt ?_ | refine WL.ldIt ?_ | refine WL.itemAddrN ?_ | refine WL.itemAddrP ?_ | refine WL.itemAddrM ?_ | refine WL.toU ?_ | refine WL.shr1 ?_ | refine WL.toI ?_ | refine WL.sub1N ?_ | refine WL.subN ?_ | refine WL.neqItem ?_ | refine WL.eqIt ?_ | refine WL.eqBool ?_ | refine WL.neqBool ?_ | refine WL.quoN ?_ | refine WL.quo2N ?_ | refine WL.intAddrN ?_ | refine WL.intAddrM ?_ | refine WL.intAddr ?_ | refine WL.lenInts ?_ | refine WL.intsTo ?_ | refine WL.intsFrom ?_ | refine WL.lss ?_ | refine WL.leq ?_ | refine WL.gtr ?_ | refine WL.geq ?_ | refine WL.add ?_ | refine WL.sub ?_ | refine WL.mul ?_ | refine WL.quo ?_ | refine WL.rem ?_ | refine WL.eqlI ?_ | refine WL.neqI ?_ | refine WL.not ?_ | refine WL.pick_t ?_ | refine WL.pick_f ?_ | refine WL.extract ?_ | refine WL.lenItems ?_ | refine WL.errI ?_ | refine WL.keyAddr ?_ | refine WL.idAddr ?_ | refine WL.itemAddr ?_ | refine WL.neqE0 ?_ | refine WL.neqE1 ?_ | refine WL.eqlE0 ?_ | refine WL.eqlE1 ?_ | refine WL.item0 ?_ | refine WL.item ?_ | refine WL.itemsNil ?_ | refine WL.itemsTo ?_ | refine WL.itemsFrom ?_ | refine WL.yesA ?_ | refine WL.noA ?_ | refine WL.noUA ?_ | refine WC.seq ?_ | refine WC.region fun K hK => ?_ | refine WC.block ?_ | refine WC.skip ?_ | refine WC.exit ?_ | refine WC.ret ?_ | (refine WL.nil (hK _ _ ?_); clear hK K) | refine WX.then_n ?_ | refine WX.then_x ?_ | refine WX.then_r ?_ | refine WX.block_n ?_ | refine WX.block_r ?_ | refine WX.block_x ?_ | refine WX.block_oA ?_ | refine WL.eqP0_t ?_)
    refine WC.cond_true rfl ?_
    with_reducible repeat (first | refine WL.move ?_ | refine WL.assign ?_ | refine WL.ldKey ?_ | refine WL.ldId ?_ | refine WL.ldInt ?_ | refine WL.ldIt ?_ | refine WL.itemAddrN ?_ | refine WL.itemAddrP ?_ | refine WL.itemAddrM ?_ | refine WL.toU ?_ | refine WL.shr1 ?_ | refine WL.toI ?_ | refine WL.sub1N ?_ | refine WL.subN ?_ | refine WL.neqItem ?_ | refine WL.eqIt ?_ | refine WL.eqBool ?_ | refine WL.neqBool ?_ | refine WL.quoN ?_ | refine WL.quo2N ?_ | refine WL.intAddrN ?_ | refine WL.intAddrM ?_ | refine WL.intAddr ?_ | refine WL.lenInts ?_ | refine WL.intsTo ?_ | refine WL.intsFrom ?_ | refine WL.lss ?_ | refine WL.leq ?_ | refine WL.gtr ?_ | refine WL.geq ?_ | refine WL.add ?_ | refine WL.sub ?_ | refine WL.mul ?_ | refine WL.quo ?_ | refine WL.rem ?_ | refine WL.eqlI ?_ | refine WL.neqI ?_ | refine WL.not ?_ | refine WL.pick_t ?_ | refine WL.pick_f ?_ | refine WL.extract ?_ | refine WL.lenItems ?_ | refine WL.errI ?_ | refine WL.keyAddr ?_ | refine WL.idAddr ?_ | refine WL.itemAddr ?_ | refine WL.neqE0 ?_ | refine WL.neqE1 ?_ | refine WL.eqlE0 ?_ | refine WL.eqlE1 ?_ | refine WL.item0 ?_ | refine WL.item ?_ | refine WL.itemsNil ?_ | refine WL.itemsTo ?_ | refine WL.itemsFrom ?_ | refine WL.yesA ?_ | refine WL.noA ?_ | refine WL.noUA ?_ | refine WC.seq ?_ | refine WC.region fun K hK => ?_ | refine WC.block ?_ | refine WC.skip ?_ | refine WC.exit ?_ | refine WC.ret ?_ | (refine WL.nil (hK _ _ ?_); clear hK K) | refine WX.then_n ?_ | refine WX.then_x ?_ | refine WX.then_r ?_ | refine WX.block_n ?_ | refine WX.block_r ?_ | refine WX.block_x ?_ | refine WX.block_oA ?_ )
    exact WX.ret1 rfl rfl ⟨rfl, rfl⟩
  | node x l r =>
    obtain ⟨hb, _, _⟩ := h
    with_reducible repeat (first | refine WL.move ?_ | refine WL.assign ?_ | refine WL.ldKey ?_ | refine WL.ldId ?_ | refine WL.ldInt ?_ | refine WL.ldIt ?_ | refine WL.itemAddrN ?_ | refine WL.itemAddrP ?_ | refine WL.itemAddrM ?_ | refine WL.toU ?_ | refine WL.shr1 ?_ | refine WL.toI ?_ | refine WL.sub1N ?_ | refine WL.subN ?_ | refine WL.neqItem ?_ | refine WL.eqIt ?_ | refine WL.eqBool ?_ | refine WL.neqBool ?_ | refine WL.quoN ?_ | refine WL.quo2N ?_ | refine WL.intAddrN ?_ | refine WL.intAddrM ?_ | refine WL.intAddr ?_ | refine WL.lenInts ?_ | refine WL.intsTo ?_ | refine WL.intsFrom ?_ | refine WL.lss ?_ | refine WL.leq ?_ | refine WL.gtr ?_ | refine WL.geq ?_ | refine WL.add ?_ | refine WL.sub ?_ | refine WL.mul ?_ | refine WL.quo ?_ | refine WL.rem ?_ | refine WL.eqlI ?_ | refine WL.neqI ?_ | refine WL.not ?_ | refine WL.pick_t ?_ | refine WL.pick_f ?_ | refine WL.extract ?_ | refine WL.lenItems ?_ | refine WL.errI ?_ | refine WL.keyAddr ?_ | refine WL.idAddr ?_ | refine WL.itemAddr ?_ | refine WL.neqE0 ?_ | refine WL.neqE1 ?_ | refine WL.eqlE0 ?_ | refine WL.eqlE1 ?_ | refine WL.item0 ?_ | refine WL.item ?_ | refine WL.itemsNil ?_ | refine WL.itemsTo ?_ | refine WL.itemsFrom ?_ | refine WL.yesA ?_ | refine WL.noA ?_ | refine WL.noUA ?_ | refine WC.seq ?_ | refine WC.region fun K hK => ?_ | refine WC.block ?_ | refine WC.skip ?_ | refine WC.exit ?_ | refine WC.ret ?_ | (refine WL.nil (hK _ _ ?_); clear hK K) | refine WX.then_n ?_ | refine WX.then_x ?_ | refine WX.then_r ?_ | refine WX.block_n ?_ | refine WX.block_r ?_ | refine WX.block_x ?_ | refine WX.block_oA ?_ )
    refine WL.step (OpV.eqP_ unTP (p := some ⟨x.1, 0, none⟩) rfl) rfl ?_
    with_reducible repeat (first | refine WL.move ?_ | refine WL.assign ?_ | refine WL.ldKey ?_ | refine WL.ldId ?_ | refine WL.ldInt ?_ | refine WL.ldIt ?_ | refine WL.itemAddrN ?_ | refine WL.itemAddrP ?_ | refine WL.itemAddrM ?_ | refine WL.toU ?_ | refine WL.shr1 ?_ | refine WL.toI ?_ | refine WL.sub1N ?_ | refine WL.subN ?_ | refine WL.neqItem ?_ | refine WL.eqIt ?_ | refine WL.eqBool ?_ | refine WL.neqBool ?_ | refine WL.quoN ?_ | refine WL.quo2N ?_ | refine WL.intAddrN ?_ | refine WL.intAddrM ?_ | refine WL.intAddr ?_ | refine WL.lenInts ?_ | refine WL.intsTo ?_ | refine WL.intsFrom ?_ | refine WL.lss ?_ | refine WL.leq ?_ | refine WL.gtr ?_ | refine WL.geq ?_ | refine WL.add ?_ | refine WL.sub ?_ | refine WL.mul ?_ | refine WL.quo ?_ | refine WL.rem ?_ | refine WL.eqlI ?_ | refine WL.neqI ?_ | refine WL.not ?_ | refine WL.pick_t ?_ | refine WL.pick_f ?_ | refine WL.extract ?_ | refine WL.lenItems ?_ | refine WL.errI ?_ | refine WL.keyAddr ?_ | refine WL.idAddr ?_ | refine WL.itemAddr ?_ | refine WL.neqE0 ?_ | refine WL.neqE1 ?_ | refine WL.eqlE0 ?_ | refine WL.eqlE1 ?_ | refine WL.item0 ?_ | refine WL.item ?_ | refine WL.itemsNil ?_ | refine WL.itemsTo ?_ | refine WL.itemsFrom ?_ | refine WL.yesA ?_ | refine WL.noA ?_ | refine WL.noUA ?_ | refine WC.seq ?_ | refine WC.region fun K hK => ?_ | refine WC.block ?_ | refine WC.skip ?_ | refine WC.exit ?_ | refine WC.ret ?_ | (refine WL.nil (hK _ _ ?_); clear hK K) | refine WX.then_n ?_ | refine WX.then_x ?_ | refine WX.then_r ?_ | refine WX.block_n ?_ | refine WX.block_r ?_ | refine WX.block_x ?_ | refine WX.block_oA ?_ )
    refine WC.cond_false rfl ?_
    with_reducible repeat (first | refine WL.move ?_ | refine WL.assign ?_ | refine WL.ldKey ?_ | refine WL.ldId ?_ | refine WL.ldInt ?_ | refine WL.ldIt ?_ | refine WL.itemAddrN ?_ | refine WL.itemAddrP ?_ | refine WL.itemAddrM ?_ | refine WL.toU ?_ | refine WL.shr1 ?_ | refine WL.toI ?_ | refine WL.sub1N ?_ | refine WL.subN ?_ | refine WL.neqItem ?_ | refine WL.eqIt ?_ | refine WL.eqBool ?_ | refine WL.neqBool ?_ | refine WL.quoN ?_ | refine WL.quo2N ?_ | refine WL.intAddrN ?_ | refine WL.intAddrM ?_ | refine WL.intAddr ?_ | refine WL.lenInts ?_ | refine WL.intsTo ?_ | refine WL.intsFrom ?_ | refine WL.lss ?_ | refine WL.leq ?_ | refine WL.gtr ?_ | refine WL.geq ?_ | refine WL.add ?_ | refine WL.sub ?_ | refine WL.mul ?_ | refine WL.quo ?_ | refine WL.rem ?_ | refine WL.eqlI ?_ | refine WL.neqI ?_ | refine WL.not ?_ | refine WL.pick_t ?_ | refine WL.pick_f ?_ | refine WL.extract ?_ | refine WL.lenItems ?_ | refine WL.errI ?_ | refine WL.keyAddr ?_ | refine WL.idAddr ?_ | refine WL.itemAddr ?_ | refine WL.neqE0 ?_ | refine WL.neqE1 ?_ | refine WL.eqlE0 ?_ | refine WL.eqlE1 ?_ | refine WL.item0 ?_ | refine WL.item ?_ | refine WL.itemsNil ?_ | refine WL.itemsTo ?_ | refine WL.itemsFrom ?_ | refine WL.yesA ?_ | refine WL.noA ?_ | refine WL.noUA ?_ | refine WC.seq ?_ | refine WC.region fun K hK => ?_ | refine WC.block ?_ | refine WC.skip ?_ | refine WC.exit ?_ | refine WC.ret ?_ | (refine WL.nil (hK _ _ ?_); clear hK K) | refine WX.then_n ?_ | refine WX.then_x ?_ | refine WX.then_r ?_ | refine WX.block_n ?_ | refine WX.block_r ?_ | refine WX.block_x ?_ | refine WX.block_oA ?_ | refine WL.nilP ?_ | refine WL.st_n3 ?_)
    refine WL.ldCI (u := .int .i64 ((r.span + 1 : Nat) : Int)) ?_
    with_reducible repeat (first | refine WL.move ?_ | refine WL.assign ?_ | refine WL.ldKey ?_ | refine WL.ldId ?_ | refine WL.ldInt ?_ | refine WL.ldIt ?_ | refine WL.itemAddrN ?_ | refine WL.itemAddrP ?_ | refine WL.itemAddrM ?_ | refine WL.toU ?_ | refine WL.shr1 ?_ | refine WL.toI ?_ | refine WL.sub1N ?_ | refine WL.subN ?_ | refine WL.neqItem ?_ | refine WL.eqIt ?_ | refine WL.eqBool ?_ | refine WL.neqBool ?_ | refine WL.quoN ?_ | refine WL.quo2N ?_ | refine WL.intAddrN ?_ | refine WL.intAddrM ?_ | refine WL.intAddr ?_ | refine WL.lenInts ?_ | refine WL.intsTo ?_ | refine WL.intsFrom ?_ | refine WL.lss ?_ | refine WL.leq ?_ | refine WL.gtr ?_ | refine WL.geq ?_ | refine WL.add ?_ | refine WL.sub ?_ | refine WL.mul ?_ | refine WL.quo ?_ | refine WL.rem ?_ | refine WL.eqlI ?_ | refine WL.neqI ?_ | refine WL.not ?_ | refine WL.pick_t ?_ | refine WL.pick_f ?_ | refine WL.extract ?_ | refine WL.lenItems ?_ | refine WL.errI ?_ | refine WL.keyAddr ?_ | refine WL.idAddr ?_ | refine WL.itemAddr ?_ | refine WL.neqE0 ?_ | refine WL.neqE1 ?_ | refine WL.eqlE0 ?_ | refine WL.eqlE1 ?_ | refine WL.item0 ?_ | refine WL.item ?_ | refine WL.itemsNil ?_ | refine WL.itemsTo ?_ | refine WL.itemsFrom ?_ | refine WL.yesA ?_ | refine WL.noA ?_ | refine WL.noUA ?_ | refine WC.seq ?_ | refine WC.region fun K hK => ?_ | refine WC.block ?_ | refine WC.skip ?_ | refine WC.exit ?_ | refine WC.ret ?_ | (refine WL.nil (hK _ _ ?_); clear hK K) | refine WX.then_n ?_ | refine WX.then_x ?_ | refine WX.then_r ?_ | refine WX.block_n ?_ | refine WX.block_r ?_ | refine WX.block_x ?_ | refine WX.block_oA ?_ )
    exact WX.ret1 rfl rfl ⟨rfl, rfl⟩
end Rk
