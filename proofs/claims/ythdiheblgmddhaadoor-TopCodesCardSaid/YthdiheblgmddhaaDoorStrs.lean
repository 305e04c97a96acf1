/- The walk's own rules: lists of strings. -/
import Derived.Test.YthdiheblgmddhaaDoorStrB
namespace Rk
open Go Go.RowKit Go.Proofs
theorem unStrs : Tryd.prog.underlying 50 = some (.slice 9) := by kernel_rfl
section
variable {E : Env} {w : World} {t : TypeId} {x y : Operand} {a b : Int} {s r : Bs} {xt yt : TypeId}
theorem OpV.strAddr {bk o n c j : Nat} (hx : evE E x = some (.slice (some ⟨bk, o, none⟩) n c)) (hi : evE E y = some (.int .i64 (j : Int))) (hn : j < n) :
    OpV Tryd.prog (.indexAddr 50 x y) t E w (.pointer (some ⟨bk, o + j * 1, none⟩)) w := OpV.indexAddr unStrs tyStr.size hx hi (by omega) (by omega)
theorem OpV.lenStrs {A : Option Addr} {n c : Nat} (hx : evE E x = some (.slice A n c)) {rt : TypeId} : OpV Tryd.prog (.call { callee := .builtin .len, args := #[x], argTypes := #[50] }) rt E w (.int .i64 n) w := OpV.len_slice unStrs hx
section
variable {ops : Array Oper} {K : Env → World → Prop} {N d_ : Nat} {rest : List Oper} {pos : String} {after : Array Edge} {C : World → Prop} {R : Env → Prop}
theorem WL.strAddr {bk o n c j : Nat} (h_ : WL Tryd.prog ops K N ((d_, (.pointer (some ⟨bk, o + j * 1, none⟩))) :: E) rest w) (hx : evE E x = some (.slice (some ⟨bk, o, none⟩) n c) := by with_unfolding_all exact rfl) (hi : evE E y = some (.int .i64 (j : Int)) := by with_unfolding_all exact rfl) (hn : j < n := by omega) (hd_ : Nat.blt d_ N = true := by with_unfolding_all exact rfl) :
    WL Tryd.prog ops K N E (⟨some d_, .indexAddr 50 x y, t, pos, after, none⟩ :: rest) w := WL.step (OpV.strAddr hx hi hn) hd_ h_
theorem QL.strAddr {bk o n c j : Nat} (h_ : QL Tryd.prog ops C R N ((d_, (.pointer (some ⟨bk, o + j * 1, none⟩))) :: E) rest) (hx : evE E x = some (.slice (some ⟨bk, o, none⟩) n c) := by with_unfolding_all exact rfl) (hi : evE E y = some (.int .i64 (j : Int)) := by with_unfolding_all exact rfl) (hn : j < n := by omega) (hd_ : Nat.blt d_ N = true := by with_unfolding_all exact rfl) :
    QL Tryd.prog ops C R N E (⟨some d_, .indexAddr 50 x y, t, pos, after, none⟩ :: rest) := QL.step (fun _ _ => OpV.strAddr hx hi hn) hd_ h_
theorem RL.strAddr {bk o n c j : Nat} (h_ : R ((d_, (.pointer (some ⟨bk, o + j * 1, none⟩))) :: E)) (hx : evE E x = some (.slice (some ⟨bk, o, none⟩) n c) := by with_unfolding_all exact rfl) (hi : evE E y = some (.int .i64 (j : Int)) := by with_unfolding_all exact rfl) (hn : j < n := by omega) (hd_ : Nat.blt d_ N = true := by with_unfolding_all exact rfl) :
    RL Tryd.prog ops C R N E ⟨some d_, .indexAddr 50 x y, t, pos, after, none⟩ := RL.step (fun _ _ => OpV.strAddr hx hi hn) hd_ h_
theorem WL.lenStrs {A : Option Addr} {n c : Nat} {rt : TypeId} (h_ : WL Tryd.prog ops K N ((d_, (.int .i64 n)) :: E) rest w) (hx : evE E x = some (.slice A n c) := by with_unfolding_all exact rfl) (hd_ : Nat.blt d_ N = true := by with_unfolding_all exact rfl) :
    WL Tryd.prog ops K N E (⟨some d_, .call { callee := .builtin .len, args := #[x], argTypes := #[50] }, rt, pos, after, none⟩ :: rest) w := WL.step (OpV.lenStrs hx) hd_ h_
theorem QL.lenStrs {A : Option Addr} {n c : Nat} {rt : TypeId} (h_ : QL Tryd.prog ops C R N ((d_, (.int .i64 n)) :: E) rest) (hx : evE E x = some (.slice A n c) := by with_unfolding_all exact rfl) (hd_ : Nat.blt d_ N = true := by with_unfolding_all exact rfl) :
    QL Tryd.prog ops C R N E (⟨some d_, .call { callee := .builtin .len, args := #[x], argTypes := #[50] }, rt, pos, after, none⟩ :: rest) := QL.step (fun _ _ => OpV.lenStrs hx) hd_ h_
theorem RL.lenStrs {A : Option Addr} {n c : Nat} {rt : TypeId} (h_ : R ((d_, (.int .i64 n)) :: E)) (hx : evE E x = some (.slice A n c) := by with_unfolding_all exact rfl) (hd_ : Nat.blt d_ N = true := by with_unfolding_all exact rfl) :
    RL Tryd.prog ops C R N E ⟨some d_, .call { callee := .builtin .len, args := #[x], argTypes := #[50] }, rt, pos, after, none⟩ := RL.step (fun _ _ => OpV.lenStrs hx) hd_ h_
end
end
section
variable {ops : Array Oper} {K : Env → World → Prop} {R : Env → Prop} {N : Nat} {E : Env} {rest : List Oper} {w : World} {t : TypeId} {pos : String} {after : Array Edge} {d : Nat} {x : Operand} {b o i n : Nat} {f : Nat → Bs}
theorem WL.ldStr (h : WL Tryd.prog ops K N ((d, stV (f i)) :: E) rest w) (hx : evE E x = some (.pointer (some ⟨b, o + i * 1, none⟩)) := by with_unfolding_all exact rfl) (hr : RowOf stC 1 w (some ⟨b, o, none⟩) n f := by first | assumption | exact OwnS.toRow (by assumption)) (hi : i < n := by omega) (hd : Nat.blt d N = true := by with_unfolding_all exact rfl) : WL Tryd.prog ops K N E (⟨some d, .load 9 x, t, pos, after, none⟩ :: rest) w := WL.step (OpV.load1 tyStr hx (hr.get hi 0 _ rfl)) hd h
theorem QL.ldStr (h : QL Tryd.prog ops (fun w' => Below w.heap.size w w') R N ((d, stV (f i)) :: E) rest) (hx : evE E x = some (.pointer (some ⟨b, o + i * 1, none⟩)) := by with_unfolding_all exact rfl) (hr : RowOf stC 1 w (some ⟨b, o, none⟩) n f := by first | assumption | exact OwnS.toRow (by assumption)) (hi : i < n := by omega) (hd : Nat.blt d N = true := by with_unfolding_all exact rfl) : QL Tryd.prog ops (fun w' => Below w.heap.size w w') R N E (⟨some d, .load 9 x, t, pos, after, none⟩ :: rest) := QL.step (fun _ hw => (OpV.load1 tyStr hx ((hr.below hw).get hi 0 _ rfl))) hd h
theorem RL.ldStrB (h : R ((d, stV (f i)) :: E)) (hx : evE E x = some (.pointer (some ⟨b, o + i * 1, none⟩)) := by with_unfolding_all exact rfl) (hr : RowOf stC 1 w (some ⟨b, o, none⟩) n f := by first | assumption | exact OwnS.toRow (by assumption)) (hi : i < n := by omega) (hd : Nat.blt d N = true := by with_unfolding_all exact rfl) : RL Tryd.prog ops (fun w' => Below w.heap.size w w') R N E ⟨some d, .load 9 x, t, pos, after, none⟩ := RL.step (fun _ hw => (OpV.load1 tyStr hx ((hr.below hw).get hi 0 _ rfl))) hd h
theorem RL.ldStrH (h : R ((d, stV (f i)) :: E)) (hx : evE E x = some (.pointer (some ⟨b, o + i * 1, none⟩)) := by with_unfolding_all exact rfl) (hr : RowOf stC 1 w (some ⟨b, o, none⟩) n f := by first | assumption | exact OwnS.toRow (by assumption)) (hi : i < n := by omega) (hd : Nat.blt d N = true := by with_unfolding_all exact rfl) : RL Tryd.prog ops (fun w' => w'.heap = w.heap) R N E ⟨some d, .load 9 x, t, pos, after, none⟩ := RL.step (fun _ hw => (OpV.load1 tyStr hx ((hr.heap hw).get hi 0 _ rfl))) hd h
end
end Rk
