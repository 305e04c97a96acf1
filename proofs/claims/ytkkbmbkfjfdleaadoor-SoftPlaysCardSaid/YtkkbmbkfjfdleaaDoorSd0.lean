/- The document's soft heap in memory: cells. -/
import Derived.Test.YtkkbmbkfjfdleaaDoorInts
import Derived.Test.YtkkbmbkfjfdleaaDoorSf0
import Derived.Test.YtkkbmbkfjfdleaaDoorStoC
import Derived.Test.YtkkbmbkfjfdleaaDoorSoftN
import Derived.Test.YtkkbmbkfjfdleaaDoorItV
namespace Rk
open Go Go.RowKit Go.Proofs
abbrev TC : TypeId := 60
theorem unCs : Tryd.prog.underlying 37 = some (.slice 60) := by kernel_rfl
theorem unC_ : Tryd.prog.underlying 60 = some (.struct (Tryd.prog.fieldsOf 60)) := by kernel_rfl
theorem tyC_ : Ty Tryd.prog 60 true 6 64 (.agg #[.int .i64 0, .int .i64 0, .int .i64 0, .int .i64 0, .int .i64 0, .slice none 0 0]) := Ty.mk' (by kernel_rfl) (fun _ => by kernel_rfl) rfl
theorem tyCs : Ty Tryd.prog 37 false 1 24 (.slice none 0 0) := Ty.mk' (by kernel_rfl) (fun _ => by kernel_rfl) rfl
theorem rcn0 : ((Tryd.prog.fieldsOf 60)[0]?).map (fun f => (f.offset, f.type)) = some (0, 3) := by kernel_rfl
theorem rcn1 : ((Tryd.prog.fieldsOf 60)[1]?).map (fun f => (f.offset, f.type)) = some (1, 3) := by kernel_rfl
theorem rcn2 : ((Tryd.prog.fieldsOf 60)[2]?).map (fun f => (f.offset, f.type)) = some (2, 3) := by kernel_rfl
theorem rcn3 : ((Tryd.prog.fieldsOf 60)[3]?).map (fun f => (f.offset, f.type)) = some (3, 3) := by kernel_rfl
theorem rcn4 : ((Tryd.prog.fieldsOf 60)[4]?).map (fun f => (f.offset, f.type)) = some (4, 3) := by kernel_rfl
theorem rcn5 : ((Tryd.prog.fieldsOf 60)[5]?).map (fun f => (f.offset, f.type)) = some (5, 22) := by kernel_rfl
/-- a cell: key, rank, want, left, right; its items' slice and items -/
abbrev RC := (Int × Int × Int × Int × Int) × (Option Addr × Nat) × List It
def rcC (x : RC) : List Value := [.int .i64 x.1.1, .int .i64 x.1.2.1, .int .i64 x.1.2.2.1, .int .i64 x.1.2.2.2.1, .int .i64 x.1.2.2.2.2, .slice x.2.1.1 x.2.2.length x.2.1.2]
theorem rcC_len (x : RC) : (rcC x).length = 6 := rfl
theorem rcC_one (x : RC) : ∀ u ∈ rcC x, u.oneCell' = true := by simp [rcC, Value.oneCell']
abbrev rcV (x : RC) : Value := .agg (rcC x).toArray
section
variable {E : Env} {w : World} {t : TypeId} {x y z u : Operand} {bk o n c j : Nat}
theorem OpV.elLen_rc {A : Option Addr} (hx : evE E x = some (.slice A n c)) {rt : TypeId} : OpV Tryd.prog (.call { callee := .builtin .len, args := #[x], argTypes := #[37] }) rt E w (.int .i64 n) w := OpV.len_slice unCs hx
theorem OpV.elAddrN_rc (hx : evE E x = some (.slice (some ⟨bk, o, none⟩) n c)) (hi : evE E y = some (.int .i64 (j : Int))) (hn : j < n) :
    OpV Tryd.prog (.indexAddr 37 x y) t E w (.pointer (some ⟨bk, o + j * 6, none⟩)) w := OpV.indexAddr unCs tyC_.size hx hi (by omega) (by omega)
theorem OpV.st_rc0 (hx : evE E x = some (.pointer (some ⟨bk, o, none⟩))) : OpV Tryd.prog (.fieldAddr 60 x 0) t E w (.pointer (some ⟨bk, o, none⟩)) w := OpV.fieldAddr (off := 0) unC_ rcn0 tyInt (by omega) hx
theorem OpV.st_rc1 (hx : evE E x = some (.pointer (some ⟨bk, o, none⟩))) : OpV Tryd.prog (.fieldAddr 60 x 1) t E w (.pointer (some ⟨bk, o + 1, none⟩)) w := OpV.fieldAddr unC_ rcn1 tyInt (by omega) hx
theorem OpV.st_rc2 (hx : evE E x = some (.pointer (some ⟨bk, o, none⟩))) : OpV Tryd.prog (.fieldAddr 60 x 2) t E w (.pointer (some ⟨bk, o + 2, none⟩)) w := OpV.fieldAddr unC_ rcn2 tyInt (by omega) hx
theorem OpV.st_rc3 (hx : evE E x = some (.pointer (some ⟨bk, o, none⟩))) : OpV Tryd.prog (.fieldAddr 60 x 3) t E w (.pointer (some ⟨bk, o + 3, none⟩)) w := OpV.fieldAddr unC_ rcn3 tyInt (by omega) hx
theorem OpV.st_rc4 (hx : evE E x = some (.pointer (some ⟨bk, o, none⟩))) : OpV Tryd.prog (.fieldAddr 60 x 4) t E w (.pointer (some ⟨bk, o + 4, none⟩)) w := OpV.fieldAddr unC_ rcn4 tyInt (by omega) hx
theorem OpV.st_rc5 (hx : evE E x = some (.pointer (some ⟨bk, o, none⟩))) : OpV Tryd.prog (.fieldAddr 60 x 5) t E w (.pointer (some ⟨bk, o + 5, none⟩)) w := OpV.fieldAddr unC_ rcn5 tyItsS (by omega) hx
section
variable {ops : Array Oper} {K : Env → World → Prop} {N d_ : Nat} {rest : List Oper} {pos : String} {after : Array Edge} {C : World → Prop} {R : Env → Prop}
theorem WL.elLen_rc {A : Option Addr} {rt : TypeId} (h_ : WL Tryd.prog ops K N ((d_, (.int .i64 n)) :: E) rest w) (hx : evE E x = some (.slice A n c) := by with_unfolding_all exact rfl) (hd_ : Nat.blt d_ N = true := by with_unfolding_all exact rfl) :
    WL Tryd.prog ops K N E (⟨some d_, .call { callee := .builtin .len, args := #[x], argTypes := #[37] }, rt, pos, after, none⟩ :: rest) w := WL.step (OpV.elLen_rc hx) hd_ h_
theorem QL.elLen_rc {A : Option Addr} {rt : TypeId} (h_ : QL Tryd.prog ops C R N ((d_, (.int .i64 n)) :: E) rest) (hx : evE E x = some (.slice A n c) := by with_unfolding_all exact rfl) (hd_ : Nat.blt d_ N = true := by with_unfolding_all exact rfl) :
    QL Tryd.prog ops C R N E (⟨some d_, .call { callee := .builtin .len, args := #[x], argTypes := #[37] }, rt, pos, after, none⟩ :: rest) := QL.step (fun _ _ => OpV.elLen_rc hx) hd_ h_
theorem RL.elLen_rc {A : Option Addr} {rt : TypeId} (h_ : R ((d_, (.int .i64 n)) :: E)) (hx : evE E x = some (.slice A n c) := by with_unfolding_all exact rfl) (hd_ : Nat.blt d_ N = true := by with_unfolding_all exact rfl) :
    RL Tryd.prog ops C R N E ⟨some d_, .call { callee := .builtin .len, args := #[x], argTypes := #[37] }, rt, pos, after, none⟩ := RL.step (fun _ _ => OpV.elLen_rc hx) hd_ h_
theorem WL.elAddrN_rc  (h_ : WL Tryd.prog ops K N ((d_, (.pointer (some ⟨bk, o + j * 6, none⟩))) :: E) rest w) (hx : evE E x = some (.slice (some ⟨bk, o, none⟩) n c) := by with_unfolding_all exact rfl) (hi : evE E y = some (.int .i64 (j : Int)) := by with_unfolding_all exact rfl) (hn : j < n := by omega) (hd_ : Nat.blt d_ N = true := by with_unfolding_all exact rfl) :
    WL Tryd.prog ops K N E (⟨some d_, .indexAddr 37 x y, t, pos, after, none⟩ :: rest) w := WL.step (OpV.elAddrN_rc hx hi hn) hd_ h_
theorem QL.elAddrN_rc  (h_ : QL Tryd.prog ops C R N ((d_, (.pointer (some ⟨bk, o + j * 6, none⟩))) :: E) rest) (hx : evE E x = some (.slice (some ⟨bk, o, none⟩) n c) := by with_unfolding_all exact rfl) (hi : evE E y = some (.int .i64 (j : Int)) := by with_unfolding_all exact rfl) (hn : j < n := by omega) (hd_ : Nat.blt d_ N = true := by with_unfolding_all exact rfl) :
    QL Tryd.prog ops C R N E (⟨some d_, .indexAddr 37 x y, t, pos, after, none⟩ :: rest) := QL.step (fun _ _ => OpV.elAddrN_rc hx hi hn) hd_ h_
theorem RL.elAddrN_rc  (h_ : R ((d_, (.pointer (some ⟨bk, o + j * 6, none⟩))) :: E)) (hx : evE E x = some (.slice (some ⟨bk, o, none⟩) n c) := by with_unfolding_all exact rfl) (hi : evE E y = some (.int .i64 (j : Int)) := by with_unfolding_all exact rfl) (hn : j < n := by omega) (hd_ : Nat.blt d_ N = true := by with_unfolding_all exact rfl) :
    RL Tryd.prog ops C R N E ⟨some d_, .indexAddr 37 x y, t, pos, after, none⟩ := RL.step (fun _ _ => OpV.elAddrN_rc hx hi hn) hd_ h_
theorem WL.st_rc0  (h_ : WL Tryd.prog ops K N ((d_, (.pointer (some ⟨bk, o, none⟩))) :: E) rest w) (hx : evE E x = some (.pointer (some ⟨bk, o, none⟩)) := by with_unfolding_all exact rfl) (hd_ : Nat.blt d_ N = true := by with_unfolding_all exact rfl) :
    WL Tryd.prog ops K N E (⟨some d_, .fieldAddr 60 x 0, t, pos, after, none⟩ :: rest) w := WL.step (OpV.st_rc0 hx) hd_ h_
theorem QL.st_rc0  (h_ : QL Tryd.prog ops C R N ((d_, (.pointer (some ⟨bk, o, none⟩))) :: E) rest) (hx : evE E x = some (.pointer (some ⟨bk, o, none⟩)) := by with_unfolding_all exact rfl) (hd_ : Nat.blt d_ N = true := by with_unfolding_all exact rfl) :
    QL Tryd.prog ops C R N E (⟨some d_, .fieldAddr 60 x 0, t, pos, after, none⟩ :: rest) := QL.step (fun _ _ => OpV.st_rc0 hx) hd_ h_
theorem RL.st_rc0  (h_ : R ((d_, (.pointer (some ⟨bk, o, none⟩))) :: E)) (hx : evE E x = some (.pointer (some ⟨bk, o, none⟩)) := by with_unfolding_all exact rfl) (hd_ : Nat.blt d_ N = true := by with_unfolding_all exact rfl) :
    RL Tryd.prog ops C R N E ⟨some d_, .fieldAddr 60 x 0, t, pos, after, none⟩ := RL.step (fun _ _ => OpV.st_rc0 hx) hd_ h_
theorem WL.st_rc1  (h_ : WL Tryd.prog ops K N ((d_, (.pointer (some ⟨bk, o + 1, none⟩))) :: E) rest w) (hx : evE E x = some (.pointer (some ⟨bk, o, none⟩)) := by with_unfolding_all exact rfl) (hd_ : Nat.blt d_ N = true := by with_unfolding_all exact rfl) :
    WL Tryd.prog ops K N E (⟨some d_, .fieldAddr 60 x 1, t, pos, after, none⟩ :: rest) w := WL.step (OpV.st_rc1 hx) hd_ h_
theorem QL.st_rc1  (h_ : QL Tryd.prog ops C R N ((d_, (.pointer (some ⟨bk, o + 1, none⟩))) :: E) rest) (hx : evE E x = some (.pointer (some ⟨bk, o, none⟩)) := by with_unfolding_all exact rfl) (hd_ : Nat.blt d_ N = true := by with_unfolding_all exact rfl) :
    QL Tryd.prog ops C R N E (⟨some d_, .fieldAddr 60 x 1, t, pos, after, none⟩ :: rest) := QL.step (fun _ _ => OpV.st_rc1 hx) hd_ h_
theorem RL.st_rc1  (h_ : R ((d_, (.pointer (some ⟨bk, o + 1, none⟩))) :: E)) (hx : evE E x = some (.pointer (some ⟨bk, o, none⟩)) := by with_unfolding_all exact rfl) (hd_ : Nat.blt d_ N = true := by with_unfolding_all exact rfl) :
    RL Tryd.prog ops C R N E ⟨some d_, .fieldAddr 60 x 1, t, pos, after, none⟩ := RL.step (fun _ _ => OpV.st_rc1 hx) hd_ h_
theorem WL.st_rc2  (h_ : WL Tryd.prog ops K N ((d_, (.pointer (some ⟨bk, o + 2, none⟩))) :: E) rest w) (hx : evE E x = some (.pointer (some ⟨bk, o, none⟩)) := by with_unfolding_all exact rfl) (hd_ : Nat.blt d_ N = true := by with_unfolding_all exact rfl) :
    WL Tryd.prog ops K N E (⟨some d_, .fieldAddr 60 x 2, t, pos, after, none⟩ :: rest) w := WL.step (OpV.st_rc2 hx) hd_ h_
theorem QL.st_rc2  (h_ : QL Tryd.prog ops C R N ((d_, (.pointer (some ⟨bk, o + 2, none⟩))) :: E) rest) (hx : evE E x = some (.pointer (some ⟨bk, o, none⟩)) := by with_unfolding_all exact rfl) (hd_ : Nat.blt d_ N = true := by with_unfolding_all exact rfl) :
    QL Tryd.prog ops C R N E (⟨some d_, .fieldAddr 60 x 2, t, pos, after, none⟩ :: rest) := QL.step (fun _ _ => OpV.st_rc2 hx) hd_ h_
theorem RL.st_rc2  (h_ : R ((d_, (.pointer (some ⟨bk, o + 2, none⟩))) :: E)) (hx : evE E x = some (.pointer (some ⟨bk, o, none⟩)) := by with_unfolding_all exact rfl) (hd_ : Nat.blt d_ N = true := by with_unfolding_all exact rfl) :
    RL Tryd.prog ops C R N E ⟨some d_, .fieldAddr 60 x 2, t, pos, after, none⟩ := RL.step (fun _ _ => OpV.st_rc2 hx) hd_ h_
theorem WL.st_rc3  (h_ : WL Tryd.prog ops K N ((d_, (.pointer (some ⟨bk, o + 3, none⟩))) :: E) rest w) (hx : evE E x = some (.pointer (some ⟨bk, o, none⟩)) := by with_unfolding_all exact rfl) (hd_ : Nat.blt d_ N = true := by with_unfolding_all exact rfl) :
    WL Tryd.prog ops K N E (⟨some d_, .fieldAddr 60 x 3, t, pos, after, none⟩ :: rest) w := WL.step (OpV.st_rc3 hx) hd_ h_
theorem QL.st_rc3  (h_ : QL Tryd.prog ops C R N ((d_, (.pointer (some ⟨bk, o + 3, none⟩))) :: E) rest) (hx : evE E x = some (.pointer (some ⟨bk, o, none⟩)) := by with_unfolding_all exact rfl) (hd_ : Nat.blt d_ N = true := by with_unfolding_all exact rfl) :
    QL Tryd.prog ops C R N E (⟨some d_, .fieldAddr 60 x 3, t, pos, after, none⟩ :: rest) := QL.step (fun _ _ => OpV.st_rc3 hx) hd_ h_
theorem RL.st_rc3  (h_ : R ((d_, (.pointer (some ⟨bk, o + 3, none⟩))) :: E)) (hx : evE E x = some (.pointer (some ⟨bk, o, none⟩)) := by with_unfolding_all exact rfl) (hd_ : Nat.blt d_ N = true := by with_unfolding_all exact rfl) :
    RL Tryd.prog ops C R N E ⟨some d_, .fieldAddr 60 x 3, t, pos, after, none⟩ := RL.step (fun _ _ => OpV.st_rc3 hx) hd_ h_
theorem WL.st_rc4  (h_ : WL Tryd.prog ops K N ((d_, (.pointer (some ⟨bk, o + 4, none⟩))) :: E) rest w) (hx : evE E x = some (.pointer (some ⟨bk, o, none⟩)) := by with_unfolding_all exact rfl) (hd_ : Nat.blt d_ N = true := by with_unfolding_all exact rfl) :
    WL Tryd.prog ops K N E (⟨some d_, .fieldAddr 60 x 4, t, pos, after, none⟩ :: rest) w := WL.step (OpV.st_rc4 hx) hd_ h_
theorem QL.st_rc4  (h_ : QL Tryd.prog ops C R N ((d_, (.pointer (some ⟨bk, o + 4, none⟩))) :: E) rest) (hx : evE E x = some (.pointer (some ⟨bk, o, none⟩)) := by with_unfolding_all exact rfl) (hd_ : Nat.blt d_ N = true := by with_unfolding_all exact rfl) :
    QL Tryd.prog ops C R N E (⟨some d_, .fieldAddr 60 x 4, t, pos, after, none⟩ :: rest) := QL.step (fun _ _ => OpV.st_rc4 hx) hd_ h_
theorem RL.st_rc4  (h_ : R ((d_, (.pointer (some ⟨bk, o + 4, none⟩))) :: E)) (hx : evE E x = some (.pointer (some ⟨bk, o, none⟩)) := by with_unfolding_all exact rfl) (hd_ : Nat.blt d_ N = true := by with_unfolding_all exact rfl) :
    RL Tryd.prog ops C R N E ⟨some d_, .fieldAddr 60 x 4, t, pos, after, none⟩ := RL.step (fun _ _ => OpV.st_rc4 hx) hd_ h_
theorem WL.st_rc5  (h_ : WL Tryd.prog ops K N ((d_, (.pointer (some ⟨bk, o + 5, none⟩))) :: E) rest w) (hx : evE E x = some (.pointer (some ⟨bk, o, none⟩)) := by with_unfolding_all exact rfl) (hd_ : Nat.blt d_ N = true := by with_unfolding_all exact rfl) :
    WL Tryd.prog ops K N E (⟨some d_, .fieldAddr 60 x 5, t, pos, after, none⟩ :: rest) w := WL.step (OpV.st_rc5 hx) hd_ h_
theorem QL.st_rc5  (h_ : QL Tryd.prog ops C R N ((d_, (.pointer (some ⟨bk, o + 5, none⟩))) :: E) rest) (hx : evE E x = some (.pointer (some ⟨bk, o, none⟩)) := by with_unfolding_all exact rfl) (hd_ : Nat.blt d_ N = true := by with_unfolding_all exact rfl) :
    QL Tryd.prog ops C R N E (⟨some d_, .fieldAddr 60 x 5, t, pos, after, none⟩ :: rest) := QL.step (fun _ _ => OpV.st_rc5 hx) hd_ h_
theorem RL.st_rc5  (h_ : R ((d_, (.pointer (some ⟨bk, o + 5, none⟩))) :: E)) (hx : evE E x = some (.pointer (some ⟨bk, o, none⟩)) := by with_unfolding_all exact rfl) (hd_ : Nat.blt d_ N = true := by with_unfolding_all exact rfl) :
    RL Tryd.prog ops C R N E ⟨some d_, .fieldAddr 60 x 5, t, pos, after, none⟩ := RL.step (fun _ _ => OpV.st_rc5 hx) hd_ h_
end
end
section
variable {ops : Array Oper} {K : Env → World → Prop} {R : Env → Prop} {N : Nat} {E : Env} {rest : List Oper} {w : World} {t : TypeId} {pos : String} {after : Array Edge} {d : Nat} {x : Operand} {b o i n : Nat} {f : Nat → RC}
theorem WL.ldRc0 (h : WL Tryd.prog ops K N ((d, .int .i64 (f i).1.1) :: E) rest w) (hx : evE E x = some (.pointer (some ⟨b, o + i * 6, none⟩)) := by with_unfolding_all exact rfl) (hr : RowOf rcC 6 w (some ⟨b, o, none⟩) n f := by first | assumption | exact OwnS.toRow (by assumption)) (hi : i < n := by omega) (hd : Nat.blt d N = true := by with_unfolding_all exact rfl) : WL Tryd.prog ops K N E (⟨some d, .load 3 x, t, pos, after, none⟩ :: rest) w := WL.step (OpV.load1 tyInt hx (hr.get hi 0 _ rfl)) hd h
theorem QL.ldRc0 (h : QL Tryd.prog ops (fun w' => Below w.heap.size w w') R N ((d, .int .i64 (f i).1.1) :: E) rest) (hx : evE E x = some (.pointer (some ⟨b, o + i * 6, none⟩)) := by with_unfolding_all exact rfl) (hr : RowOf rcC 6 w (some ⟨b, o, none⟩) n f := by first | assumption | exact OwnS.toRow (by assumption)) (hi : i < n := by omega) (hd : Nat.blt d N = true := by with_unfolding_all exact rfl) : QL Tryd.prog ops (fun w' => Below w.heap.size w w') R N E (⟨some d, .load 3 x, t, pos, after, none⟩ :: rest) := QL.step (fun _ hw => (OpV.load1 tyInt hx ((hr.below hw).get hi 0 _ rfl))) hd h
theorem RL.ldRc0B (h : R ((d, .int .i64 (f i).1.1) :: E)) (hx : evE E x = some (.pointer (some ⟨b, o + i * 6, none⟩)) := by with_unfolding_all exact rfl) (hr : RowOf rcC 6 w (some ⟨b, o, none⟩) n f := by first | assumption | exact OwnS.toRow (by assumption)) (hi : i < n := by omega) (hd : Nat.blt d N = true := by with_unfolding_all exact rfl) : RL Tryd.prog ops (fun w' => Below w.heap.size w w') R N E ⟨some d, .load 3 x, t, pos, after, none⟩ := RL.step (fun _ hw => (OpV.load1 tyInt hx ((hr.below hw).get hi 0 _ rfl))) hd h
end
section
variable {ops : Array Oper} {K : Env → World → Prop} {R : Env → Prop} {N : Nat} {E : Env} {rest : List Oper} {w : World} {t : TypeId} {pos : String} {after : Array Edge} {d : Nat} {x : Operand} {b o i n : Nat} {f : Nat → RC}
theorem WL.ldRc1 (h : WL Tryd.prog ops K N ((d, .int .i64 (f i).1.2.1) :: E) rest w) (hx : evE E x = some (.pointer (some ⟨b, o + i * 6 + 1, none⟩)) := by with_unfolding_all exact rfl) (hr : RowOf rcC 6 w (some ⟨b, o, none⟩) n f := by first | assumption | exact OwnS.toRow (by assumption)) (hi : i < n := by omega) (hd : Nat.blt d N = true := by with_unfolding_all exact rfl) : WL Tryd.prog ops K N E (⟨some d, .load 3 x, t, pos, after, none⟩ :: rest) w := WL.step (OpV.load1 tyInt hx (hr.get hi 1 _ rfl)) hd h
theorem QL.ldRc1 (h : QL Tryd.prog ops (fun w' => Below w.heap.size w w') R N ((d, .int .i64 (f i).1.2.1) :: E) rest) (hx : evE E x = some (.pointer (some ⟨b, o + i * 6 + 1, none⟩)) := by with_unfolding_all exact rfl) (hr : RowOf rcC 6 w (some ⟨b, o, none⟩) n f := by first | assumption | exact OwnS.toRow (by assumption)) (hi : i < n := by omega) (hd : Nat.blt d N = true := by with_unfolding_all exact rfl) : QL Tryd.prog ops (fun w' => Below w.heap.size w w') R N E (⟨some d, .load 3 x, t, pos, after, none⟩ :: rest) := QL.step (fun _ hw => (OpV.load1 tyInt hx ((hr.below hw).get hi 1 _ rfl))) hd h
theorem RL.ldRc1B (h : R ((d, .int .i64 (f i).1.2.1) :: E)) (hx : evE E x = some (.pointer (some ⟨b, o + i * 6 + 1, none⟩)) := by with_unfolding_all exact rfl) (hr : RowOf rcC 6 w (some ⟨b, o, none⟩) n f := by first | assumption | exact OwnS.toRow (by assumption)) (hi : i < n := by omega) (hd : Nat.blt d N = true := by with_unfolding_all exact rfl) : RL Tryd.prog ops (fun w' => Below w.heap.size w w') R N E ⟨some d, .load 3 x, t, pos, after, none⟩ := RL.step (fun _ hw => (OpV.load1 tyInt hx ((hr.below hw).get hi 1 _ rfl))) hd h
end
section
variable {ops : Array Oper} {K : Env → World → Prop} {R : Env → Prop} {N : Nat} {E : Env} {rest : List Oper} {w : World} {t : TypeId} {pos : String} {after : Array Edge} {d : Nat} {x : Operand} {b o i n : Nat} {f : Nat → RC}
theorem WL.ldRc2 (h : WL Tryd.prog ops K N ((d, .int .i64 (f i).1.2.2.1) :: E) rest w) (hx : evE E x = some (.pointer (some ⟨b, o + i * 6 + 2, none⟩)) := by with_unfolding_all exact rfl) (hr : RowOf rcC 6 w (some ⟨b, o, none⟩) n f := by first | assumption | exact OwnS.toRow (by assumption)) (hi : i < n := by omega) (hd : Nat.blt d N = true := by with_unfolding_all exact rfl) : WL Tryd.prog ops K N E (⟨some d, .load 3 x, t, pos, after, none⟩ :: rest) w := WL.step (OpV.load1 tyInt hx (hr.get hi 2 _ rfl)) hd h
theorem QL.ldRc2 (h : QL Tryd.prog ops (fun w' => Below w.heap.size w w') R N ((d, .int .i64 (f i).1.2.2.1) :: E) rest) (hx : evE E x = some (.pointer (some ⟨b, o + i * 6 + 2, none⟩)) := by with_unfolding_all exact rfl) (hr : RowOf rcC 6 w (some ⟨b, o, none⟩) n f := by first | assumption | exact OwnS.toRow (by assumption)) (hi : i < n := by omega) (hd : Nat.blt d N = true := by with_unfolding_all exact rfl) : QL Tryd.prog ops (fun w' => Below w.heap.size w w') R N E (⟨some d, .load 3 x, t, pos, after, none⟩ :: rest) := QL.step (fun _ hw => (OpV.load1 tyInt hx ((hr.below hw).get hi 2 _ rfl))) hd h
theorem RL.ldRc2B (h : R ((d, .int .i64 (f i).1.2.2.1) :: E)) (hx : evE E x = some (.pointer (some ⟨b, o + i * 6 + 2, none⟩)) := by with_unfolding_all exact rfl) (hr : RowOf rcC 6 w (some ⟨b, o, none⟩) n f := by first | assumption | exact OwnS.toRow (by assumption)) (hi : i < n := by omega) (hd : Nat.blt d N = true := by with_unfolding_all exact rfl) : RL Tryd.prog ops (fun w' => Below w.heap.size w w') R N E ⟨some d, .load 3 x, t, pos, after, none⟩ := RL.step (fun _ hw => (OpV.load1 tyInt hx ((hr.below hw).get hi 2 _ rfl))) hd h
end
section
variable {ops : Array Oper} {K : Env → World → Prop} {R : Env → Prop} {N : Nat} {E : Env} {rest : List Oper} {w : World} {t : TypeId} {pos : String} {after : Array Edge} {d : Nat} {x : Operand} {b o i n : Nat} {f : Nat → RC}
theorem WL.ldRc3 (h : WL Tryd.prog ops K N ((d, .int .i64 (f i).1.2.2.2.1) :: E) rest w) (hx : evE E x = some (.pointer (some ⟨b, o + i * 6 + 3, none⟩)) := by with_unfolding_all exact rfl) (hr : RowOf rcC 6 w (some ⟨b, o, none⟩) n f := by first | assumption | exact OwnS.toRow (by assumption)) (hi : i < n := by omega) (hd : Nat.blt d N = true := by with_unfolding_all exact rfl) : WL Tryd.prog ops K N E (⟨some d, .load 3 x, t, pos, after, none⟩ :: rest) w := WL.step (OpV.load1 tyInt hx (hr.get hi 3 _ rfl)) hd h
theorem QL.ldRc3 (h : QL Tryd.prog ops (fun w' => Below w.heap.size w w') R N ((d, .int .i64 (f i).1.2.2.2.1) :: E) rest) (hx : evE E x = some (.pointer (some ⟨b, o + i * 6 + 3, none⟩)) := by with_unfolding_all exact rfl) (hr : RowOf rcC 6 w (some ⟨b, o, none⟩) n f := by first | assumption | exact OwnS.toRow (by assumption)) (hi : i < n := by omega) (hd : Nat.blt d N = true := by with_unfolding_all exact rfl) : QL Tryd.prog ops (fun w' => Below w.heap.size w w') R N E (⟨some d, .load 3 x, t, pos, after, none⟩ :: rest) := QL.step (fun _ hw => (OpV.load1 tyInt hx ((hr.below hw).get hi 3 _ rfl))) hd h
theorem RL.ldRc3B (h : R ((d, .int .i64 (f i).1.2.2.2.1) :: E)) (hx : evE E x = some (.pointer (some ⟨b, o + i * 6 + 3, none⟩)) := by with_unfolding_all exact rfl) (hr : RowOf rcC 6 w (some ⟨b, o, none⟩) n f := by first | assumption | exact OwnS.toRow (by assumption)) (hi : i < n := by omega) (hd : Nat.blt d N = true := by with_unfolding_all exact rfl) : RL Tryd.prog ops (fun w' => Below w.heap.size w w') R N E ⟨some d, .load 3 x, t, pos, after, none⟩ := RL.step (fun _ hw => (OpV.load1 tyInt hx ((hr.below hw).get hi 3 _ rfl))) hd h
end
section
variable {ops : Array Oper} {K : Env → World → Prop} {R : Env → Prop} {N : Nat} {E : Env} {rest : List Oper} {w : World} {t : TypeId} {pos : String} {after : Array Edge} {d : Nat} {x : Operand} {b o i n : Nat} {f : Nat → RC}
theorem WL.ldRc4 (h : WL Tryd.prog ops K N ((d, .int .i64 (f i).1.2.2.2.2) :: E) rest w) (hx : evE E x = some (.pointer (some ⟨b, o + i * 6 + 4, none⟩)) := by with_unfolding_all exact rfl) (hr : RowOf rcC 6 w (some ⟨b, o, none⟩) n f := by first | assumption | exact OwnS.toRow (by assumption)) (hi : i < n := by omega) (hd : Nat.blt d N = true := by with_unfolding_all exact rfl) : WL Tryd.prog ops K N E (⟨some d, .load 3 x, t, pos, after, none⟩ :: rest) w := WL.step (OpV.load1 tyInt hx (hr.get hi 4 _ rfl)) hd h
theorem QL.ldRc4 (h : QL Tryd.prog ops (fun w' => Below w.heap.size w w') R N ((d, .int .i64 (f i).1.2.2.2.2) :: E) rest) (hx : evE E x = some (.pointer (some ⟨b, o + i * 6 + 4, none⟩)) := by with_unfolding_all exact rfl) (hr : RowOf rcC 6 w (some ⟨b, o, none⟩) n f := by first | assumption | exact OwnS.toRow (by assumption)) (hi : i < n := by omega) (hd : Nat.blt d N = true := by with_unfolding_all exact rfl) : QL Tryd.prog ops (fun w' => Below w.heap.size w w') R N E (⟨some d, .load 3 x, t, pos, after, none⟩ :: rest) := QL.step (fun _ hw => (OpV.load1 tyInt hx ((hr.below hw).get hi 4 _ rfl))) hd h
theorem RL.ldRc4B (h : R ((d, .int .i64 (f i).1.2.2.2.2) :: E)) (hx : evE E x = some (.pointer (some ⟨b, o + i * 6 + 4, none⟩)) := by with_unfolding_all exact rfl) (hr : RowOf rcC 6 w (some ⟨b, o, none⟩) n f := by first | assumption | exact OwnS.toRow (by assumption)) (hi : i < n := by omega) (hd : Nat.blt d N = true := by with_unfolding_all exact rfl) : RL Tryd.prog ops (fun w' => Below w.heap.size w w') R N E ⟨some d, .load 3 x, t, pos, after, none⟩ := RL.step (fun _ hw => (OpV.load1 tyInt hx ((hr.below hw).get hi 4 _ rfl))) hd h
end
section
variable {ops : Array Oper} {K : Env → World → Prop} {R : Env → Prop} {N : Nat} {E : Env} {rest : List Oper} {w : World} {t : TypeId} {pos : String} {after : Array Edge} {d : Nat} {x : Operand} {b o i n : Nat} {f : Nat → RC}
theorem WL.ldRc5 (h : WL Tryd.prog ops K N ((d, .slice (f i).2.1.1 (f i).2.2.length (f i).2.1.2) :: E) rest w) (hx : evE E x = some (.pointer (some ⟨b, o + i * 6 + 5, none⟩)) := by with_unfolding_all exact rfl) (hr : RowOf rcC 6 w (some ⟨b, o, none⟩) n f := by first | assumption | exact OwnS.toRow (by assumption)) (hi : i < n := by omega) (hd : Nat.blt d N = true := by with_unfolding_all exact rfl) : WL Tryd.prog ops K N E (⟨some d, .load 22 x, t, pos, after, none⟩ :: rest) w := WL.step (OpV.load1 tyItsS hx (hr.get hi 5 _ rfl)) hd h
theorem QL.ldRc5 (h : QL Tryd.prog ops (fun w' => Below w.heap.size w w') R N ((d, .slice (f i).2.1.1 (f i).2.2.length (f i).2.1.2) :: E) rest) (hx : evE E x = some (.pointer (some ⟨b, o + i * 6 + 5, none⟩)) := by with_unfolding_all exact rfl) (hr : RowOf rcC 6 w (some ⟨b, o, none⟩) n f := by first | assumption | exact OwnS.toRow (by assumption)) (hi : i < n := by omega) (hd : Nat.blt d N = true := by with_unfolding_all exact rfl) : QL Tryd.prog ops (fun w' => Below w.heap.size w w') R N E (⟨some d, .load 22 x, t, pos, after, none⟩ :: rest) := QL.step (fun _ hw => (OpV.load1 tyItsS hx ((hr.below hw).get hi 5 _ rfl))) hd h
theorem RL.ldRc5B (h : R ((d, .slice (f i).2.1.1 (f i).2.2.length (f i).2.1.2) :: E)) (hx : evE E x = some (.pointer (some ⟨b, o + i * 6 + 5, none⟩)) := by with_unfolding_all exact rfl) (hr : RowOf rcC 6 w (some ⟨b, o, none⟩) n f := by first | assumption | exact OwnS.toRow (by assumption)) (hi : i < n := by omega) (hd : Nat.blt d N = true := by with_unfolding_all exact rfl) : RL Tryd.prog ops (fun w' => Below w.heap.size w w') R N E ⟨some d, .load 22 x, t, pos, after, none⟩ := RL.step (fun _ hw => (OpV.load1 tyItsS hx ((hr.below hw).get hi 5 _ rfl))) hd h
end
attribute [local irreducible] OpV OpU OpC WL QL WC WX OL RL TL TM
/-- a tree among the cells, by the places of its nodes -/
def CT (C : Nat → RC) : Sf.T → Int → List Nat → Prop
  | .nil, i, L => i = -1 ∧ L = []
  | .node k rk wt its l r, i, L => ∃ (j : Nat) (il ir : Int) (Ll Lr : List Nat), i = (j : Int) ∧ L = j :: (Ll ++ Lr) ∧ (C j).1 = (k, (rk : Int), (wt : Int), il, ir) ∧ (C j).2.2 = its ∧ CT C l il Ll ∧ CT C r ir Lr
theorem CT.congr {C C' : Nat → RC} : ∀ {t : Sf.T} {i : Int} {L : List Nat}, CT C t i L → (∀ j ∈ L, C' j = C j) → CT C' t i L := by
  intro t
  induction t with
  | nil => intro i L h _; exact h
  | node k rk wt its l r hl hr =>
    intro i L h hc
    obtain ⟨j, il, ir, Ll, Lr, rfl, rfl, h1, h2, h3, h4⟩ := h
    have hj := hc j (by simp)
    exact ⟨j, il, ir, Ll, Lr, rfl, rfl, by rw [hj]; exact h1, by rw [hj]; exact h2, hl h3 fun x hx => hc x (by simp [hx]), hr h4 fun x hx => hc x (by simp [hx])⟩
theorem CT.neg {C : Nat → RC} {t : Sf.T} {i : Int} {L : List Nat} (h : CT C t i L) : decide (0 ≤ i) = !t.isNil := by
  cases t with
  | nil => obtain ⟨rfl, _⟩ := h; rfl
  | node => obtain ⟨j, _, _, _, _, rfl, _⟩ := h; simp [Sf.T.isNil]
theorem CT.neg' {C : Nat → RC} {t : Sf.T} {i : Int} {L : List Nat} (h : CT C t i L) : decide (i < 0) = t.isNil := by
  cases t with
  | nil => obtain ⟨rfl, _⟩ := h; rfl
  | node => obtain ⟨j, _, _, _, _, rfl, _⟩ := h; exact decide_eq_false (by omega)
/-- the cells' items are there, in blocks that Φ allows -/
def OkC (w : World) (Φ : Nat → Prop) (n : Nat) (C : Nat → RC) : Prop := ∀ q, q < n → RowOf itC 2 w (C q).2.1.1 (C q).2.2.length (lf (C q).2.2) ∧ (C q).2.2.length ≤ (C q).2.1.2 ∧ ∀ p, (C q).2.1.1 = some p → 0 < (C q).2.2.length → Φ p.block
section
variable {w w' : World} {g n : Nat} {Φ : Nat → Prop} {C C' : Nat → RC}
theorem OkC.below (h : OkC w Φ n C) (hb : Below w.heap.size w w') : OkC w' Φ n C := fun q hq => ⟨(h q hq).1.below hb, (h q hq).2⟩
theorem OkC.row {row : Option Nat} (h : OkC w Φ n C) (hg : w.grownBy w' row) (hn : ∀ x, row = some x → ¬ Φ x) : OkC w' Φ n C := fun q hq => by
  obtain ⟨h1, h2, h3⟩ := h q hq
  refine ⟨?_, h2, h3⟩
  by_cases h0 : 0 < (C q).2.2.length
  · exact h1.grown hg fun p hp e => hn _ e (h3 p hp h0)
  · exact fun h => absurd h h0
theorem OkC.grown (h : OkC w Φ n C) (hg : w.grownBy w' (some g)) (hn : ¬ Φ g) : OkC w' Φ n C := h.row hg fun x e => by injection e with e; subst e; exact hn
theorem OkC.chg {S S' : Nat → Prop} (h : OkC w Φ n C) (hc : Chg w w' S S') (hn : ∀ x, S x → ¬ Φ x) : OkC w' Φ n C := fun q hq => by
  obtain ⟨h1, h2, h3⟩ := h q hq
  refine ⟨?_, h2, h3⟩
  by_cases h0 : 0 < (C q).2.2.length
  · exact h1.chg hc fun p hp e => hn _ e (h3 p hp h0)
  · exact fun h => absurd h h0
theorem OkC.set (h : OkC w Φ n C) {j : Nat} {x : RC} (hx : RowOf itC 2 w x.2.1.1 x.2.2.length (lf x.2.2) ∧ x.2.2.length ≤ x.2.1.2 ∧ ∀ p, x.2.1.1 = some p → 0 < x.2.2.length → Φ p.block) : OkC w Φ n (fun q => if q = j then x else C q) := fun q hq => by
  by_cases e : q = j
  · simp only [if_pos e]; exact hx
  · simp only [if_neg e]; exact h q hq
end
end Rk
