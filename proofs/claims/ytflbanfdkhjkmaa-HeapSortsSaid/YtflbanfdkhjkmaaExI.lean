/- The walk's own rules, shorter: lists of items. -/
import Derived.Test.YtflbanfdkhjkmaaTypes
import Derived.Test.YtflbanfdkhjkmaaEx
namespace Rk
open Go Go.RowKit Go.Proofs
section
variable {E : Env} {w : World} {t : TypeId} {x y : Operand} {bk o n c : Nat}
theorem OpV.itemAddrN {y : Operand} {j : Nat} (hx : evE E x = some (.slice (some ⟨bk, o, none⟩) n c)) (hi : evE E y = some (.int .i64 (j : Int))) (hn : j < n) :
    OpV Try.prog (.indexAddr 26 x y) t E w (.pointer (some ⟨bk, o + j * 2, none⟩)) w := OpV.indexAddr unItems tyItem.size hx hi (by omega) (by omega)
theorem OpV.itemAddrP {y : Operand} {j : Nat} (hx : evE E x = some (.slice (some ⟨bk, o, none⟩) n c)) (hi : evE E y = some (.int .i64 ((j : Int) + 1))) (hn : j + 1 < n) :
    OpV Try.prog (.indexAddr 26 x y) t E w (.pointer (some ⟨bk, o + (j + 1) * 2, none⟩)) w := OpV.indexAddr unItems tyItem.size hx hi (by omega) (by omega)
theorem OpV.itemAddrM {y : Operand} {j : Nat} (hx : evE E x = some (.slice (some ⟨bk, o, none⟩) n c)) (hi : evE E y = some (.int .i64 ((j : Int) - 1))) (hn : 1 ≤ j ∧ j - 1 < n) :
    OpV Try.prog (.indexAddr 26 x y) t E w (.pointer (some ⟨bk, o + (j - 1) * 2, none⟩)) w := by
  have := OpV.indexAddr (P := Try.prog) (t := t) (w := w) unItems tyItem.size hx hi (by omega) (by omega)
  rw [show ((j : Int) - 1).toNat = j - 1 from by omega] at this
  exact this
theorem OpV.subN {x y : Operand} {a b : Nat} {xt yt : TypeId} (hx : evE E x = some (.int .i64 (a : Int))) (hy : evE E y = some (.int .i64 (b : Int))) (h : b ≤ a ∧ a ≤ 9223372036854775807) :
    OpV Try.prog (.binOp .sub xt x y yt) t E w (.int .i64 ((a - b : Nat) : Int)) w := by
  rw [show ((a - b : Nat) : Int) = (a : Int) - (b : Int) from by omega]
  exact OpV.sub hx hy (by omega)
section
variable {ops : Array Oper} {K : Env → World → Prop} {N d_ : Nat} {rest : List Oper} {pos : String} {after : Array Edge} {C : World → Prop} {R : Env → Prop}
theorem WL.itemAddrN {y : Operand} {j : Nat} (h_ : WL Try.prog ops K N ((d_, (.pointer (some ⟨bk, o + j * 2, none⟩))) :: E) rest w) (hx : evE E x = some (.slice (some ⟨bk, o, none⟩) n c) := by with_unfolding_all exact rfl) (hi : evE E y = some (.int .i64 (j : Int)) := by with_unfolding_all exact rfl) (hn : j < n := by omega) (hd_ : Nat.blt d_ N = true := by with_unfolding_all exact rfl) :
    WL Try.prog ops K N E (⟨some d_, .indexAddr 26 x y, t, pos, after, none⟩ :: rest) w := WL.step (OpV.itemAddrN hx hi hn) hd_ h_
theorem QL.itemAddrN {y : Operand} {j : Nat} (h_ : QL Try.prog ops C R N ((d_, (.pointer (some ⟨bk, o + j * 2, none⟩))) :: E) rest) (hx : evE E x = some (.slice (some ⟨bk, o, none⟩) n c) := by with_unfolding_all exact rfl) (hi : evE E y = some (.int .i64 (j : Int)) := by with_unfolding_all exact rfl) (hn : j < n := by omega) (hd_ : Nat.blt d_ N = true := by with_unfolding_all exact rfl) :
    QL Try.prog ops C R N E (⟨some d_, .indexAddr 26 x y, t, pos, after, none⟩ :: rest) := QL.step (fun _ _ => OpV.itemAddrN hx hi hn) hd_ h_
theorem RL.itemAddrN {y : Operand} {j : Nat} (h_ : R ((d_, (.pointer (some ⟨bk, o + j * 2, none⟩))) :: E)) (hx : evE E x = some (.slice (some ⟨bk, o, none⟩) n c) := by with_unfolding_all exact rfl) (hi : evE E y = some (.int .i64 (j : Int)) := by with_unfolding_all exact rfl) (hn : j < n := by omega) (hd_ : Nat.blt d_ N = true := by with_unfolding_all exact rfl) :
    RL Try.prog ops C R N E ⟨some d_, .indexAddr 26 x y, t, pos, after, none⟩ := RL.step (fun _ _ => OpV.itemAddrN hx hi hn) hd_ h_
theorem WL.itemAddrP {y : Operand} {j : Nat} (h_ : WL Try.prog ops K N ((d_, (.pointer (some ⟨bk, o + (j + 1) * 2, none⟩))) :: E) rest w) (hx : evE E x = some (.slice (some ⟨bk, o, none⟩) n c) := by with_unfolding_all exact rfl) (hi : evE E y = some (.int .i64 ((j : Int) + 1)) := by with_unfolding_all exact rfl) (hn : j + 1 < n := by omega) (hd_ : Nat.blt d_ N = true := by with_unfolding_all exact rfl) :
    WL Try.prog ops K N E (⟨some d_, .indexAddr 26 x y, t, pos, after, none⟩ :: rest) w := WL.step (OpV.itemAddrP hx hi hn) hd_ h_
theorem QL.itemAddrP {y : Operand} {j : Nat} (h_ : QL Try.prog ops C R N ((d_, (.pointer (some ⟨bk, o + (j + 1) * 2, none⟩))) :: E) rest) (hx : evE E x = some (.slice (some ⟨bk, o, none⟩) n c) := by with_unfolding_all exact rfl) (hi : evE E y = some (.int .i64 ((j : Int) + 1)) := by with_unfolding_all exact rfl) (hn : j + 1 < n := by omega) (hd_ : Nat.blt d_ N = true := by with_unfolding_all exact rfl) :
    QL Try.prog ops C R N E (⟨some d_, .indexAddr 26 x y, t, pos, after, none⟩ :: rest) := QL.step (fun _ _ => OpV.itemAddrP hx hi hn) hd_ h_
theorem RL.itemAddrP {y : Operand} {j : Nat} (h_ : R ((d_, (.pointer (some ⟨bk, o + (j + 1) * 2, none⟩))) :: E)) (hx : evE E x = some (.slice (some ⟨bk, o, none⟩) n c) := by with_unfolding_all exact rfl) (hi : evE E y = some (.int .i64 ((j : Int) + 1)) := by with_unfolding_all exact rfl) (hn : j + 1 < n := by omega) (hd_ : Nat.blt d_ N = true := by with_unfolding_all exact rfl) :
    RL Try.prog ops C R N E ⟨some d_, .indexAddr 26 x y, t, pos, after, none⟩ := RL.step (fun _ _ => OpV.itemAddrP hx hi hn) hd_ h_
theorem WL.itemAddrM {y : Operand} {j : Nat} (h_ : WL Try.prog ops K N ((d_, (.pointer (some ⟨bk, o + (j - 1) * 2, none⟩))) :: E) rest w) (hx : evE E x = some (.slice (some ⟨bk, o, none⟩) n c) := by with_unfolding_all exact rfl) (hi : evE E y = some (.int .i64 ((j : Int) - 1)) := by with_unfolding_all exact rfl) (hn : 1 ≤ j ∧ j - 1 < n := by omega) (hd_ : Nat.blt d_ N = true := by with_unfolding_all exact rfl) :
    WL Try.prog ops K N E (⟨some d_, .indexAddr 26 x y, t, pos, after, none⟩ :: rest) w := WL.step (OpV.itemAddrM hx hi hn) hd_ h_
theorem QL.itemAddrM {y : Operand} {j : Nat} (h_ : QL Try.prog ops C R N ((d_, (.pointer (some ⟨bk, o + (j - 1) * 2, none⟩))) :: E) rest) (hx : evE E x = some (.slice (some ⟨bk, o, none⟩) n c) := by with_unfolding_all exact rfl) (hi : evE E y = some (.int .i64 ((j : Int) - 1)) := by with_unfolding_all exact rfl) (hn : 1 ≤ j ∧ j - 1 < n := by omega) (hd_ : Nat.blt d_ N = true := by with_unfolding_all exact rfl) :
    QL Try.prog ops C R N E (⟨some d_, .indexAddr 26 x y, t, pos, after, none⟩ :: rest) := QL.step (fun _ _ => OpV.itemAddrM hx hi hn) hd_ h_
theorem RL.itemAddrM {y : Operand} {j : Nat} (h_ : R ((d_, (.pointer (some ⟨bk, o + (j - 1) * 2, none⟩))) :: E)) (hx : evE E x = some (.slice (some ⟨bk, o, none⟩) n c) := by with_unfolding_all exact rfl) (hi : evE E y = some (.int .i64 ((j : Int) - 1)) := by with_unfolding_all exact rfl) (hn : 1 ≤ j ∧ j - 1 < n := by omega) (hd_ : Nat.blt d_ N = true := by with_unfolding_all exact rfl) :
    RL Try.prog ops C R N E ⟨some d_, .indexAddr 26 x y, t, pos, after, none⟩ := RL.step (fun _ _ => OpV.itemAddrM hx hi hn) hd_ h_
theorem WL.subN {x y : Operand} {a b : Nat} {xt yt : TypeId} (h_ : WL Try.prog ops K N ((d_, (.int .i64 ((a - b : Nat) : Int))) :: E) rest w) (hx : evE E x = some (.int .i64 (a : Int)) := by with_unfolding_all exact rfl) (hy : evE E y = some (.int .i64 (b : Int)) := by with_unfolding_all exact rfl) (h : b ≤ a ∧ a ≤ 9223372036854775807 := by omega) (hd_ : Nat.blt d_ N = true := by with_unfolding_all exact rfl) :
    WL Try.prog ops K N E (⟨some d_, .binOp .sub xt x y yt, t, pos, after, none⟩ :: rest) w := WL.step (OpV.subN hx hy h) hd_ h_
theorem QL.subN {x y : Operand} {a b : Nat} {xt yt : TypeId} (h_ : QL Try.prog ops C R N ((d_, (.int .i64 ((a - b : Nat) : Int))) :: E) rest) (hx : evE E x = some (.int .i64 (a : Int)) := by with_unfolding_all exact rfl) (hy : evE E y = some (.int .i64 (b : Int)) := by with_unfolding_all exact rfl) (h : b ≤ a ∧ a ≤ 9223372036854775807 := by omega) (hd_ : Nat.blt d_ N = true := by with_unfolding_all exact rfl) :
    QL Try.prog ops C R N E (⟨some d_, .binOp .sub xt x y yt, t, pos, after, none⟩ :: rest) := QL.step (fun _ _ => OpV.subN hx hy h) hd_ h_
theorem RL.subN {x y : Operand} {a b : Nat} {xt yt : TypeId} (h_ : R ((d_, (.int .i64 ((a - b : Nat) : Int))) :: E)) (hx : evE E x = some (.int .i64 (a : Int)) := by with_unfolding_all exact rfl) (hy : evE E y = some (.int .i64 (b : Int)) := by with_unfolding_all exact rfl) (h : b ≤ a ∧ a ≤ 9223372036854775807 := by omega) (hd_ : Nat.blt d_ N = true := by with_unfolding_all exact rfl) :
    RL Try.prog ops C R N E ⟨some d_, .binOp .sub xt x y yt, t, pos, after, none⟩ := RL.step (fun _ _ => OpV.subN hx hy h) hd_ h_
end
end
section
variable {ops : Array Oper} {K : Env → World → Prop} {R : Env → Prop} {N : Nat} {E : Env} {rest : List Oper} {w w' : World} {t : TypeId} {pos : String} {after : Array Edge} {d : Nat} {x : Operand} {b o i n : Nat} {f : Nat → Int × Int}
theorem WL.ldKey (hx : evE E x = some (.pointer (some ⟨b, o + i * 2, none⟩))) (hd : Nat.blt d N = true) (hr : RowOf itC 2 w (some ⟨b, o, none⟩) n f) (hi : i < n) (h : WL Try.prog ops K N ((d, .int .i64 (f i).1) :: E) rest w) :
    WL Try.prog ops K N E (⟨some d, .load 3 x, t, pos, after, none⟩ :: rest) w := WL.ld1 hx tyInt hd (hr.get hi 0 _ rfl) h
theorem WL.ldId (hx : evE E x = some (.pointer (some ⟨b, o + i * 2 + 1, none⟩))) (hd : Nat.blt d N = true) (hr : RowOf itC 2 w (some ⟨b, o, none⟩) n f) (hi : i < n) (h : WL Try.prog ops K N ((d, .int .i64 (f i).2) :: E) rest w) :
    WL Try.prog ops K N E (⟨some d, .load 3 x, t, pos, after, none⟩ :: rest) w := WL.ld1 hx tyInt hd (hr.get hi 1 _ rfl) h
theorem QL.ldKey (hx : evE E x = some (.pointer (some ⟨b, o + i * 2, none⟩))) (hd : Nat.blt d N = true) (hr : RowOf itC 2 w (some ⟨b, o, none⟩) n f) (hi : i < n) (h : QL Try.prog ops (fun w' => Below w.heap.size w w') R N ((d, .int .i64 (f i).1) :: E) rest) :
    QL Try.prog ops (fun w' => Below w.heap.size w w') R N E (⟨some d, .load 3 x, t, pos, after, none⟩ :: rest) := QL.ld1 hx tyInt hd (fun _ hw => (hr.below hw).get hi 0 _ rfl) h
theorem QL.ldId (hx : evE E x = some (.pointer (some ⟨b, o + i * 2 + 1, none⟩))) (hd : Nat.blt d N = true) (hr : RowOf itC 2 w (some ⟨b, o, none⟩) n f) (hi : i < n) (h : QL Try.prog ops (fun w' => Below w.heap.size w w') R N ((d, .int .i64 (f i).2) :: E) rest) :
    QL Try.prog ops (fun w' => Below w.heap.size w w') R N E (⟨some d, .load 3 x, t, pos, after, none⟩ :: rest) := QL.ld1 hx tyInt hd (fun _ hw => (hr.below hw).get hi 1 _ rfl) h
theorem RL.ldKeyB (hx : evE E x = some (.pointer (some ⟨b, o + i * 2, none⟩))) (hd : Nat.blt d N = true) (hr : RowOf itC 2 w (some ⟨b, o, none⟩) n f) (hi : i < n) (h : R ((d, .int .i64 (f i).1) :: E)) :
    RL Try.prog ops (fun w' => Below w.heap.size w w') R N E ⟨some d, .load 3 x, t, pos, after, none⟩ := RL.ld1 hx tyInt hd (fun _ hw => (hr.below hw).get hi 0 _ rfl) h
theorem RL.ldKeyH (hx : evE E x = some (.pointer (some ⟨b, o + i * 2, none⟩))) (hd : Nat.blt d N = true) (hr : RowOf itC 2 w (some ⟨b, o, none⟩) n f) (hi : i < n) (h : R ((d, .int .i64 (f i).1) :: E)) :
    RL Try.prog ops (fun w' => w'.heap = w.heap) R N E ⟨some d, .load 3 x, t, pos, after, none⟩ := RL.ld1 hx tyInt hd (fun _ hw => (hr.heap hw).get hi 0 _ rfl) h
end
end Rk
