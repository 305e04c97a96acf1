/- The walk's own rules, shorter: lists of items. -/
import Derived.Test.YtflbanfdkhjkmaaDoorTypes
import Derived.Test.YtflbanfdkhjkmaaDoorEx
namespace Rk
open Go Go.RowKit Go.Proofs
theorem unBoolT : Tryd.prog.underlying 4 = some .bool := by kernel_rfl
section
variable {E : Env} {w : World} {t : TypeId} {x y : Operand} {bk o n c : Nat}
theorem OpV.itemAddrN {y : Operand} {j : Nat} (hx : evE E x = some (.slice (some ⟨bk, o, none⟩) n c)) (hi : evE E y = some (.int .i64 (j : Int))) (hn : j < n) :
    OpV Tryd.prog (.indexAddr 22 x y) t E w (.pointer (some ⟨bk, o + j * 2, none⟩)) w := OpV.indexAddr unItems tyItem.size hx hi (by omega) (by omega)
theorem OpV.itemAddrP {y : Operand} {j : Nat} (hx : evE E x = some (.slice (some ⟨bk, o, none⟩) n c)) (hi : evE E y = some (.int .i64 ((j : Int) + 1))) (hn : j + 1 < n) :
    OpV Tryd.prog (.indexAddr 22 x y) t E w (.pointer (some ⟨bk, o + (j + 1) * 2, none⟩)) w := OpV.indexAddr unItems tyItem.size hx hi (by omega) (by omega)
theorem OpV.itemAddrM {y : Operand} {j : Nat} (hx : evE E x = some (.slice (some ⟨bk, o, none⟩) n c)) (hi : evE E y = some (.int .i64 ((j : Int) - 1))) (hn : 1 ≤ j ∧ j - 1 < n) :
    OpV Tryd.prog (.indexAddr 22 x y) t E w (.pointer (some ⟨bk, o + (j - 1) * 2, none⟩)) w := by
  have := OpV.indexAddr (P := Tryd.prog) (t := t) (w := w) unItems tyItem.size hx hi (by omega) (by omega)
  rw [show ((j : Int) - 1).toNat = j - 1 from by omega] at this
  exact this
theorem OpV.subN {x y : Operand} {a b : Nat} {xt yt : TypeId} (hx : evE E x = some (.int .i64 (a : Int))) (hy : evE E y = some (.int .i64 (b : Int))) (h : b ≤ a ∧ a ≤ 9223372036854775807) :
    OpV Tryd.prog (.binOp .sub xt x y yt) t E w (.int .i64 ((a - b : Nat) : Int)) w := by
  rw [show ((a - b : Nat) : Int) = (a : Int) - (b : Int) from by omega]
  exact OpV.sub hx hy (by omega)
theorem OpV.eqBool {x y : Operand} {a b : Bool} (hx : evE E x = some (.bool a)) (hy : evE E y = some (.bool b)) :
    OpV Tryd.prog (.binOp .eql 4 x y 4) t E w (.bool (a == b)) w := OpV.eqlB unBoolT hx hy
theorem OpV.neqBool {x y : Operand} {a b : Bool} (hx : evE E x = some (.bool a)) (hy : evE E y = some (.bool b)) :
    OpV Tryd.prog (.binOp .neq 4 x y 4) t E w (.bool (!(a == b))) w := fun ρ hρ _ _ _ _ => by
  simp [execOp, hρ _ _ hx, hρ _ _ hy, go_sem, eqGuard, unBoolT, bne]
section
variable {ops : Array Oper} {K : Env → World → Prop} {N d_ : Nat} {rest : List Oper} {pos : String} {after : Array Edge} {C : World → Prop} {R : Env → Prop}
theorem WL.itemAddrN {y : Operand} {j : Nat} (h_ : WL Tryd.prog ops K N ((d_, (.pointer (some ⟨bk, o + j * 2, none⟩))) :: E) rest w) (hx : evE E x = some (.slice (some ⟨bk, o, none⟩) n c) := by with_unfolding_all exact rfl) (hi : evE E y = some (.int .i64 (j : Int)) := by with_unfolding_all exact rfl) (hn : j < n := by omega) (hd_ : Nat.blt d_ N = true := by with_unfolding_all exact rfl) :
    WL Tryd.prog ops K N E (⟨some d_, .indexAddr 22 x y, t, pos, after, none⟩ :: rest) w := WL.step (OpV.itemAddrN hx hi hn) hd_ h_
theorem QL.itemAddrN {y : Operand} {j : Nat} (h_ : QL Tryd.prog ops C R N ((d_, (.pointer (some ⟨bk, o + j * 2, none⟩))) :: E) rest) (hx : evE E x = some (.slice (some ⟨bk, o, none⟩) n c) := by with_unfolding_all exact rfl) (hi : evE E y = some (.int .i64 (j : Int)) := by with_unfolding_all exact rfl) (hn : j < n := by omega) (hd_ : Nat.blt d_ N = true := by with_unfolding_all exact rfl) :
    QL Tryd.prog ops C R N E (⟨some d_, .indexAddr 22 x y, t, pos, after, none⟩ :: rest) := QL.step (fun _ _ => OpV.itemAddrN hx hi hn) hd_ h_
theorem RL.itemAddrN {y : Operand} {j : Nat} (h_ : R ((d_, (.pointer (some ⟨bk, o + j * 2, none⟩))) :: E)) (hx : evE E x = some (.slice (some ⟨bk, o, none⟩) n c) := by with_unfolding_all exact rfl) (hi : evE E y = some (.int .i64 (j : Int)) := by with_unfolding_all exact rfl) (hn : j < n := by omega) (hd_ : Nat.blt d_ N = true := by with_unfolding_all exact rfl) :
    RL Tryd.prog ops C R N E ⟨some d_, .indexAddr 22 x y, t, pos, after, none⟩ := RL.step (fun _ _ => OpV.itemAddrN hx hi hn) hd_ h_
theorem WL.itemAddrP {y : Operand} {j : Nat} (h_ : WL Tryd.prog ops K N ((d_, (.pointer (some ⟨bk, o + (j + 1) * 2, none⟩))) :: E) rest w) (hx : evE E x = some (.slice (some ⟨bk, o, none⟩) n c) := by with_unfolding_all exact rfl) (hi : evE E y = some (.int .i64 ((j : Int) + 1)) := by with_unfolding_all exact rfl) (hn : j + 1 < n := by omega) (hd_ : Nat.blt d_ N = true := by with_unfolding_all exact rfl) :
    WL Tryd.prog ops K N E (⟨some d_, .indexAddr 22 x y, t, pos, after, none⟩ :: rest) w := WL.step (OpV.itemAddrP hx hi hn) hd_ h_
theorem QL.itemAddrP {y : Operand} {j : Nat} (h_ : QL Tryd.prog ops C R N ((d_, (.pointer (some ⟨bk, o + (j + 1) * 2, none⟩))) :: E) rest) (hx : evE E x = some (.slice (some ⟨bk, o, none⟩) n c) := by with_unfolding_all exact rfl) (hi : evE E y = some (.int .i64 ((j : Int) + 1)) := by with_unfolding_all exact rfl) (hn : j + 1 < n := by omega) (hd_ : Nat.blt d_ N = true := by with_unfolding_all exact rfl) :
    QL Tryd.prog ops C R N E (⟨some d_, .indexAddr 22 x y, t, pos, after, none⟩ :: rest) := QL.step (fun _ _ => OpV.itemAddrP hx hi hn) hd_ h_
theorem RL.itemAddrP {y : Operand} {j : Nat} (h_ : R ((d_, (.pointer (some ⟨bk, o + (j + 1) * 2, none⟩))) :: E)) (hx : evE E x = some (.slice (some ⟨bk, o, none⟩) n c) := by with_unfolding_all exact rfl) (hi : evE E y = some (.int .i64 ((j : Int) + 1)) := by with_unfolding_all exact rfl) (hn : j + 1 < n := by omega) (hd_ : Nat.blt d_ N = true := by with_unfolding_all exact rfl) :
    RL Tryd.prog ops C R N E ⟨some d_, .indexAddr 22 x y, t, pos, after, none⟩ := RL.step (fun _ _ => OpV.itemAddrP hx hi hn) hd_ h_
theorem WL.itemAddrM {y : Operand} {j : Nat} (h_ : WL Tryd.prog ops K N ((d_, (.pointer (some ⟨bk, o + (j - 1) * 2, none⟩))) :: E) rest w) (hx : evE E x = some (.slice (some ⟨bk, o, none⟩) n c) := by with_unfolding_all exact rfl) (hi : evE E y = some (.int .i64 ((j : Int) - 1)) := by with_unfolding_all exact rfl) (hn : 1 ≤ j ∧ j - 1 < n := by omega) (hd_ : Nat.blt d_ N = true := by with_unfolding_all exact rfl) :
    WL Tryd.prog ops K N E (⟨some d_, .indexAddr 22 x y, t, pos, after, none⟩ :: rest) w := WL.step (OpV.itemAddrM hx hi hn) hd_ h_
theorem QL.itemAddrM {y : Operand} {j : Nat} (h_ : QL Tryd.prog ops C R N ((d_, (.pointer (some ⟨bk, o + (j - 1) * 2, none⟩))) :: E) rest) (hx : evE E x = some (.slice (some ⟨bk, o, none⟩) n c) := by with_unfolding_all exact rfl) (hi : evE E y = some (.int .i64 ((j : Int) - 1)) := by with_unfolding_all exact rfl) (hn : 1 ≤ j ∧ j - 1 < n := by omega) (hd_ : Nat.blt d_ N = true := by with_unfolding_all exact rfl) :
    QL Tryd.prog ops C R N E (⟨some d_, .indexAddr 22 x y, t, pos, after, none⟩ :: rest) := QL.step (fun _ _ => OpV.itemAddrM hx hi hn) hd_ h_
theorem RL.itemAddrM {y : Operand} {j : Nat} (h_ : R ((d_, (.pointer (some ⟨bk, o + (j - 1) * 2, none⟩))) :: E)) (hx : evE E x = some (.slice (some ⟨bk, o, none⟩) n c) := by with_unfolding_all exact rfl) (hi : evE E y = some (.int .i64 ((j : Int) - 1)) := by with_unfolding_all exact rfl) (hn : 1 ≤ j ∧ j - 1 < n := by omega) (hd_ : Nat.blt d_ N = true := by with_unfolding_all exact rfl) :
    RL Tryd.prog ops C R N E ⟨some d_, .indexAddr 22 x y, t, pos, after, none⟩ := RL.step (fun _ _ => OpV.itemAddrM hx hi hn) hd_ h_
theorem WL.subN {x y : Operand} {a b : Nat} {xt yt : TypeId} (h_ : WL Tryd.prog ops K N ((d_, (.int .i64 ((a - b : Nat) : Int))) :: E) rest w) (hx : evE E x = some (.int .i64 (a : Int)) := by with_unfolding_all exact rfl) (hy : evE E y = some (.int .i64 (b : Int)) := by with_unfolding_all exact rfl) (h : b ≤ a ∧ a ≤ 9223372036854775807 := by omega) (hd_ : Nat.blt d_ N = true := by with_unfolding_all exact rfl) :
    WL Tryd.prog ops K N E (⟨some d_, .binOp .sub xt x y yt, t, pos, after, none⟩ :: rest) w := WL.step (OpV.subN hx hy h) hd_ h_
theorem QL.subN {x y : Operand} {a b : Nat} {xt yt : TypeId} (h_ : QL Tryd.prog ops C R N ((d_, (.int .i64 ((a - b : Nat) : Int))) :: E) rest) (hx : evE E x = some (.int .i64 (a : Int)) := by with_unfolding_all exact rfl) (hy : evE E y = some (.int .i64 (b : Int)) := by with_unfolding_all exact rfl) (h : b ≤ a ∧ a ≤ 9223372036854775807 := by omega) (hd_ : Nat.blt d_ N = true := by with_unfolding_all exact rfl) :
    QL Tryd.prog ops C R N E (⟨some d_, .binOp .sub xt x y yt, t, pos, after, none⟩ :: rest) := QL.step (fun _ _ => OpV.subN hx hy h) hd_ h_
theorem RL.subN {x y : Operand} {a b : Nat} {xt yt : TypeId} (h_ : R ((d_, (.int .i64 ((a - b : Nat) : Int))) :: E)) (hx : evE E x = some (.int .i64 (a : Int)) := by with_unfolding_all exact rfl) (hy : evE E y = some (.int .i64 (b : Int)) := by with_unfolding_all exact rfl) (h : b ≤ a ∧ a ≤ 9223372036854775807 := by omega) (hd_ : Nat.blt d_ N = true := by with_unfolding_all exact rfl) :
    RL Tryd.prog ops C R N E ⟨some d_, .binOp .sub xt x y yt, t, pos, after, none⟩ := RL.step (fun _ _ => OpV.subN hx hy h) hd_ h_
theorem WL.eqBool {x y : Operand} {a b : Bool} (h_ : WL Tryd.prog ops K N ((d_, (.bool (a == b))) :: E) rest w) (hx : evE E x = some (.bool a) := by with_unfolding_all exact rfl) (hy : evE E y = some (.bool b) := by with_unfolding_all exact rfl) (hd_ : Nat.blt d_ N = true := by with_unfolding_all exact rfl) :
    WL Tryd.prog ops K N E (⟨some d_, .binOp .eql 4 x y 4, t, pos, after, none⟩ :: rest) w := WL.step (OpV.eqBool hx hy) hd_ h_
theorem QL.eqBool {x y : Operand} {a b : Bool} (h_ : QL Tryd.prog ops C R N ((d_, (.bool (a == b))) :: E) rest) (hx : evE E x = some (.bool a) := by with_unfolding_all exact rfl) (hy : evE E y = some (.bool b) := by with_unfolding_all exact rfl) (hd_ : Nat.blt d_ N = true := by with_unfolding_all exact rfl) :
    QL Tryd.prog ops C R N E (⟨some d_, .binOp .eql 4 x y 4, t, pos, after, none⟩ :: rest) := QL.step (fun _ _ => OpV.eqBool hx hy) hd_ h_
theorem RL.eqBool {x y : Operand} {a b : Bool} (h_ : R ((d_, (.bool (a == b))) :: E)) (hx : evE E x = some (.bool a) := by with_unfolding_all exact rfl) (hy : evE E y = some (.bool b) := by with_unfolding_all exact rfl) (hd_ : Nat.blt d_ N = true := by with_unfolding_all exact rfl) :
    RL Tryd.prog ops C R N E ⟨some d_, .binOp .eql 4 x y 4, t, pos, after, none⟩ := RL.step (fun _ _ => OpV.eqBool hx hy) hd_ h_
theorem WL.neqBool {x y : Operand} {a b : Bool} (h_ : WL Tryd.prog ops K N ((d_, (.bool (!(a == b)))) :: E) rest w) (hx : evE E x = some (.bool a) := by with_unfolding_all exact rfl) (hy : evE E y = some (.bool b) := by with_unfolding_all exact rfl) (hd_ : Nat.blt d_ N = true := by with_unfolding_all exact rfl) :
    WL Tryd.prog ops K N E (⟨some d_, .binOp .neq 4 x y 4, t, pos, after, none⟩ :: rest) w := WL.step (OpV.neqBool hx hy) hd_ h_
theorem QL.neqBool {x y : Operand} {a b : Bool} (h_ : QL Tryd.prog ops C R N ((d_, (.bool (!(a == b)))) :: E) rest) (hx : evE E x = some (.bool a) := by with_unfolding_all exact rfl) (hy : evE E y = some (.bool b) := by with_unfolding_all exact rfl) (hd_ : Nat.blt d_ N = true := by with_unfolding_all exact rfl) :
    QL Tryd.prog ops C R N E (⟨some d_, .binOp .neq 4 x y 4, t, pos, after, none⟩ :: rest) := QL.step (fun _ _ => OpV.neqBool hx hy) hd_ h_
theorem RL.neqBool {x y : Operand} {a b : Bool} (h_ : R ((d_, (.bool (!(a == b)))) :: E)) (hx : evE E x = some (.bool a) := by with_unfolding_all exact rfl) (hy : evE E y = some (.bool b) := by with_unfolding_all exact rfl) (hd_ : Nat.blt d_ N = true := by with_unfolding_all exact rfl) :
    RL Tryd.prog ops C R N E ⟨some d_, .binOp .neq 4 x y 4, t, pos, after, none⟩ := RL.step (fun _ _ => OpV.neqBool hx hy) hd_ h_
end
end
section
variable {ops : Array Oper} {K : Env → World → Prop} {R : Env → Prop} {N : Nat} {E : Env} {rest : List Oper} {w w' : World} {t : TypeId} {pos : String} {after : Array Edge} {d : Nat} {x : Operand} {b o i n : Nat} {f : Nat → Int × Int}
theorem WL.ldKey (hx : evE E x = some (.pointer (some ⟨b, o + i * 2, none⟩))) (hd : Nat.blt d N = true) (hr : RowOf itC 2 w (some ⟨b, o, none⟩) n f) (hi : i < n) (h : WL Tryd.prog ops K N ((d, .int .i64 (f i).1) :: E) rest w) :
    WL Tryd.prog ops K N E (⟨some d, .load 3 x, t, pos, after, none⟩ :: rest) w := WL.ld1 hx tyInt hd (hr.get hi 0 _ rfl) h
theorem WL.ldId (hx : evE E x = some (.pointer (some ⟨b, o + i * 2 + 1, none⟩))) (hd : Nat.blt d N = true) (hr : RowOf itC 2 w (some ⟨b, o, none⟩) n f) (hi : i < n) (h : WL Tryd.prog ops K N ((d, .int .i64 (f i).2) :: E) rest w) :
    WL Tryd.prog ops K N E (⟨some d, .load 3 x, t, pos, after, none⟩ :: rest) w := WL.ld1 hx tyInt hd (hr.get hi 1 _ rfl) h
theorem QL.ldKey (hx : evE E x = some (.pointer (some ⟨b, o + i * 2, none⟩))) (hd : Nat.blt d N = true) (hr : RowOf itC 2 w (some ⟨b, o, none⟩) n f) (hi : i < n) (h : QL Tryd.prog ops (fun w' => Below w.heap.size w w') R N ((d, .int .i64 (f i).1) :: E) rest) :
    QL Tryd.prog ops (fun w' => Below w.heap.size w w') R N E (⟨some d, .load 3 x, t, pos, after, none⟩ :: rest) := QL.ld1 hx tyInt hd (fun _ hw => (hr.below hw).get hi 0 _ rfl) h
theorem QL.ldId (hx : evE E x = some (.pointer (some ⟨b, o + i * 2 + 1, none⟩))) (hd : Nat.blt d N = true) (hr : RowOf itC 2 w (some ⟨b, o, none⟩) n f) (hi : i < n) (h : QL Tryd.prog ops (fun w' => Below w.heap.size w w') R N ((d, .int .i64 (f i).2) :: E) rest) :
    QL Tryd.prog ops (fun w' => Below w.heap.size w w') R N E (⟨some d, .load 3 x, t, pos, after, none⟩ :: rest) := QL.ld1 hx tyInt hd (fun _ hw => (hr.below hw).get hi 1 _ rfl) h
theorem RL.ldKeyB (hx : evE E x = some (.pointer (some ⟨b, o + i * 2, none⟩))) (hd : Nat.blt d N = true) (hr : RowOf itC 2 w (some ⟨b, o, none⟩) n f) (hi : i < n) (h : R ((d, .int .i64 (f i).1) :: E)) :
    RL Tryd.prog ops (fun w' => Below w.heap.size w w') R N E ⟨some d, .load 3 x, t, pos, after, none⟩ := RL.ld1 hx tyInt hd (fun _ hw => (hr.below hw).get hi 0 _ rfl) h
theorem RL.ldKeyH (hx : evE E x = some (.pointer (some ⟨b, o + i * 2, none⟩))) (hd : Nat.blt d N = true) (hr : RowOf itC 2 w (some ⟨b, o, none⟩) n f) (hi : i < n) (h : R ((d, .int .i64 (f i).1) :: E)) :
    RL Tryd.prog ops (fun w' => w'.heap = w.heap) R N E ⟨some d, .load 3 x, t, pos, after, none⟩ := RL.ld1 hx tyInt hd (fun _ hw => (hr.heap hw).get hi 0 _ rfl) h
end
end Rk
