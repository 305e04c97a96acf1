/- The walk's own rules, shorter: lists of numbers. -/
import Derived.Test.YthdiheblgmddhaaDoorExN
namespace Rk
open Go Go.RowKit Go.Proofs
def inC (x : Int) : List Value := [.int .i64 x]
theorem inC_len (x : Int) : (inC x).length = 1 := rfl
theorem inC_one (x : Int) : ∀ u ∈ inC x, u.oneCell' = true := by simp [inC, Value.oneCell']
theorem unInts : Tryd.prog.underlying 22 = some (.slice 3) := by kernel_rfl
section
variable {E : Env} {w : World} {t : TypeId} {x y : Operand} {bk o n c : Nat} {j : Int}
theorem OpV.intAddrN {y : Operand} {j : Nat} (hx : evE E x = some (.slice (some ⟨bk, o, none⟩) n c)) (hi : evE E y = some (.int .i64 (j : Int))) (hn : j < n) :
    OpV Tryd.prog (.indexAddr 22 x y) t E w (.pointer (some ⟨bk, o + j * 1, none⟩)) w := OpV.indexAddr unInts tyInt.size hx hi (by omega) (by omega)
theorem OpV.intAddrM {y : Operand} {j : Nat} (hx : evE E x = some (.slice (some ⟨bk, o, none⟩) n c)) (hi : evE E y = some (.int .i64 ((j : Int) - 1))) (hn : 1 ≤ j ∧ j - 1 < n) :
    OpV Tryd.prog (.indexAddr 22 x y) t E w (.pointer (some ⟨bk, o + (j - 1) * 1, none⟩)) w := by
  have := OpV.indexAddr (P := Tryd.prog) (t := t) (w := w) unInts tyInt.size hx hi (by omega) (by omega)
  rw [show ((j : Int) - 1).toNat = j - 1 from by omega] at this
  exact this
theorem OpV.intAddr {y : Operand} (hx : evE E x = some (.slice (some ⟨bk, o, none⟩) n c)) (hi : evE E y = some (.int .i64 j)) (h0 : 0 ≤ j) (hn : j < n) :
    OpV Tryd.prog (.indexAddr 22 x y) t E w (.pointer (some ⟨bk, o + j.toNat * 1, none⟩)) w := OpV.indexAddr unInts tyInt.size hx hi h0 hn
theorem OpV.lenInts {A : Option Addr} (hx : evE E x = some (.slice A n c)) {rt : TypeId} : OpV Tryd.prog (.call { callee := .builtin .len, args := #[x], argTypes := #[22] }) rt E w (.int .i64 n) w := OpV.len_slice unInts hx
theorem OpV.intsTo {A : Option Addr} {hi : Operand} (hx : evE E x = some (.slice A n c)) (hh : evE E hi = some (.int .i64 j)) (h0 : 0 ≤ j) (hc : j ≤ c) :
    OpV Tryd.prog (.slice 22 x none (some hi) none) t E w (.slice A j.toNat c) w := OpV.sliceTo unInts tyInt hx hh h0 hc
theorem OpV.intsFrom {A : Option Addr} {lo : Operand} (hx : evE E x = some (.slice A n c)) (hh : evE E lo = some (.int .i64 j)) (h0 : 0 ≤ j) (hc : j ≤ n) :
    OpV Tryd.prog (.slice 22 x (some lo) none none) t E w (.slice (if c = j.toNat then A else A.map (·.add (j.toNat * 1))) (n - j.toNat) (c - j.toNat)) w := OpV.sliceFrom unInts tyInt hx hh h0 hc
section
variable {ops : Array Oper} {K : Env → World → Prop} {N d_ : Nat} {rest : List Oper} {pos : String} {after : Array Edge} {C : World → Prop} {R : Env → Prop}
theorem WL.intAddrN {y : Operand} {j : Nat} (h_ : WL Tryd.prog ops K N ((d_, (.pointer (some ⟨bk, o + j * 1, none⟩))) :: E) rest w) (hx : evE E x = some (.slice (some ⟨bk, o, none⟩) n c) := by with_unfolding_all exact rfl) (hi : evE E y = some (.int .i64 (j : Int)) := by with_unfolding_all exact rfl) (hn : j < n := by omega) (hd_ : Nat.blt d_ N = true := by with_unfolding_all exact rfl) :
    WL Tryd.prog ops K N E (⟨some d_, .indexAddr 22 x y, t, pos, after, none⟩ :: rest) w := WL.step (OpV.intAddrN hx hi hn) hd_ h_
theorem QL.intAddrN {y : Operand} {j : Nat} (h_ : QL Tryd.prog ops C R N ((d_, (.pointer (some ⟨bk, o + j * 1, none⟩))) :: E) rest) (hx : evE E x = some (.slice (some ⟨bk, o, none⟩) n c) := by with_unfolding_all exact rfl) (hi : evE E y = some (.int .i64 (j : Int)) := by with_unfolding_all exact rfl) (hn : j < n := by omega) (hd_ : Nat.blt d_ N = true := by with_unfolding_all exact rfl) :
    QL Tryd.prog ops C R N E (⟨some d_, .indexAddr 22 x y, t, pos, after, none⟩ :: rest) := QL.step (fun _ _ => OpV.intAddrN hx hi hn) hd_ h_
theorem RL.intAddrN {y : Operand} {j : Nat} (h_ : R ((d_, (.pointer (some ⟨bk, o + j * 1, none⟩))) :: E)) (hx : evE E x = some (.slice (some ⟨bk, o, none⟩) n c) := by with_unfolding_all exact rfl) (hi : evE E y = some (.int .i64 (j : Int)) := by with_unfolding_all exact rfl) (hn : j < n := by omega) (hd_ : Nat.blt d_ N = true := by with_unfolding_all exact rfl) :
    RL Tryd.prog ops C R N E ⟨some d_, .indexAddr 22 x y, t, pos, after, none⟩ := RL.step (fun _ _ => OpV.intAddrN hx hi hn) hd_ h_
theorem WL.intAddrM {y : Operand} {j : Nat} (h_ : WL Tryd.prog ops K N ((d_, (.pointer (some ⟨bk, o + (j - 1) * 1, none⟩))) :: E) rest w) (hx : evE E x = some (.slice (some ⟨bk, o, none⟩) n c) := by with_unfolding_all exact rfl) (hi : evE E y = some (.int .i64 ((j : Int) - 1)) := by with_unfolding_all exact rfl) (hn : 1 ≤ j ∧ j - 1 < n := by omega) (hd_ : Nat.blt d_ N = true := by with_unfolding_all exact rfl) :
    WL Tryd.prog ops K N E (⟨some d_, .indexAddr 22 x y, t, pos, after, none⟩ :: rest) w := WL.step (OpV.intAddrM hx hi hn) hd_ h_
theorem QL.intAddrM {y : Operand} {j : Nat} (h_ : QL Tryd.prog ops C R N ((d_, (.pointer (some ⟨bk, o + (j - 1) * 1, none⟩))) :: E) rest) (hx : evE E x = some (.slice (some ⟨bk, o, none⟩) n c) := by with_unfolding_all exact rfl) (hi : evE E y = some (.int .i64 ((j : Int) - 1)) := by with_unfolding_all exact rfl) (hn : 1 ≤ j ∧ j - 1 < n := by omega) (hd_ : Nat.blt d_ N = true := by with_unfolding_all exact rfl) :
    QL Tryd.prog ops C R N E (⟨some d_, .indexAddr 22 x y, t, pos, after, none⟩ :: rest) := QL.step (fun _ _ => OpV.intAddrM hx hi hn) hd_ h_
theorem RL.intAddrM {y : Operand} {j : Nat} (h_ : R ((d_, (.pointer (some ⟨bk, o + (j - 1) * 1, none⟩))) :: E)) (hx : evE E x = some (.slice (some ⟨bk, o, none⟩) n c) := by with_unfolding_all exact rfl) (hi : evE E y = some (.int .i64 ((j : Int) - 1)) := by with_unfolding_all exact rfl) (hn : 1 ≤ j ∧ j - 1 < n := by omega) (hd_ : Nat.blt d_ N = true := by with_unfolding_all exact rfl) :
    RL Tryd.prog ops C R N E ⟨some d_, .indexAddr 22 x y, t, pos, after, none⟩ := RL.step (fun _ _ => OpV.intAddrM hx hi hn) hd_ h_
theorem WL.intAddr {y : Operand} (h_ : WL Tryd.prog ops K N ((d_, (.pointer (some ⟨bk, o + j.toNat * 1, none⟩))) :: E) rest w) (hx : evE E x = some (.slice (some ⟨bk, o, none⟩) n c) := by with_unfolding_all exact rfl) (hi : evE E y = some (.int .i64 j) := by with_unfolding_all exact rfl) (h0 : 0 ≤ j := by omega) (hn : j < n := by omega) (hd_ : Nat.blt d_ N = true := by with_unfolding_all exact rfl) :
    WL Tryd.prog ops K N E (⟨some d_, .indexAddr 22 x y, t, pos, after, none⟩ :: rest) w := WL.step (OpV.intAddr hx hi h0 hn) hd_ h_
theorem QL.intAddr {y : Operand} (h_ : QL Tryd.prog ops C R N ((d_, (.pointer (some ⟨bk, o + j.toNat * 1, none⟩))) :: E) rest) (hx : evE E x = some (.slice (some ⟨bk, o, none⟩) n c) := by with_unfolding_all exact rfl) (hi : evE E y = some (.int .i64 j) := by with_unfolding_all exact rfl) (h0 : 0 ≤ j := by omega) (hn : j < n := by omega) (hd_ : Nat.blt d_ N = true := by with_unfolding_all exact rfl) :
    QL Tryd.prog ops C R N E (⟨some d_, .indexAddr 22 x y, t, pos, after, none⟩ :: rest) := QL.step (fun _ _ => OpV.intAddr hx hi h0 hn) hd_ h_
theorem RL.intAddr {y : Operand} (h_ : R ((d_, (.pointer (some ⟨bk, o + j.toNat * 1, none⟩))) :: E)) (hx : evE E x = some (.slice (some ⟨bk, o, none⟩) n c) := by with_unfolding_all exact rfl) (hi : evE E y = some (.int .i64 j) := by with_unfolding_all exact rfl) (h0 : 0 ≤ j := by omega) (hn : j < n := by omega) (hd_ : Nat.blt d_ N = true := by with_unfolding_all exact rfl) :
    RL Tryd.prog ops C R N E ⟨some d_, .indexAddr 22 x y, t, pos, after, none⟩ := RL.step (fun _ _ => OpV.intAddr hx hi h0 hn) hd_ h_
theorem WL.lenInts {A : Option Addr} {rt : TypeId} (h_ : WL Tryd.prog ops K N ((d_, (.int .i64 n)) :: E) rest w) (hx : evE E x = some (.slice A n c) := by with_unfolding_all exact rfl) (hd_ : Nat.blt d_ N = true := by with_unfolding_all exact rfl) :
    WL Tryd.prog ops K N E (⟨some d_, .call { callee := .builtin .len, args := #[x], argTypes := #[22] }, rt, pos, after, none⟩ :: rest) w := WL.step (OpV.lenInts hx) hd_ h_
theorem QL.lenInts {A : Option Addr} {rt : TypeId} (h_ : QL Tryd.prog ops C R N ((d_, (.int .i64 n)) :: E) rest) (hx : evE E x = some (.slice A n c) := by with_unfolding_all exact rfl) (hd_ : Nat.blt d_ N = true := by with_unfolding_all exact rfl) :
    QL Tryd.prog ops C R N E (⟨some d_, .call { callee := .builtin .len, args := #[x], argTypes := #[22] }, rt, pos, after, none⟩ :: rest) := QL.step (fun _ _ => OpV.lenInts hx) hd_ h_
theorem RL.lenInts {A : Option Addr} {rt : TypeId} (h_ : R ((d_, (.int .i64 n)) :: E)) (hx : evE E x = some (.slice A n c) := by with_unfolding_all exact rfl) (hd_ : Nat.blt d_ N = true := by with_unfolding_all exact rfl) :
    RL Tryd.prog ops C R N E ⟨some d_, .call { callee := .builtin .len, args := #[x], argTypes := #[22] }, rt, pos, after, none⟩ := RL.step (fun _ _ => OpV.lenInts hx) hd_ h_
theorem WL.intsTo {A : Option Addr} {hi : Operand} (h_ : WL Tryd.prog ops K N ((d_, (.slice A j.toNat c)) :: E) rest w) (hx : evE E x = some (.slice A n c) := by with_unfolding_all exact rfl) (hh : evE E hi = some (.int .i64 j) := by with_unfolding_all exact rfl) (h0 : 0 ≤ j := by omega) (hc : j ≤ c := by omega) (hd_ : Nat.blt d_ N = true := by with_unfolding_all exact rfl) :
    WL Tryd.prog ops K N E (⟨some d_, .slice 22 x none (some hi) none, t, pos, after, none⟩ :: rest) w := WL.step (OpV.intsTo hx hh h0 hc) hd_ h_
theorem QL.intsTo {A : Option Addr} {hi : Operand} (h_ : QL Tryd.prog ops C R N ((d_, (.slice A j.toNat c)) :: E) rest) (hx : evE E x = some (.slice A n c) := by with_unfolding_all exact rfl) (hh : evE E hi = some (.int .i64 j) := by with_unfolding_all exact rfl) (h0 : 0 ≤ j := by omega) (hc : j ≤ c := by omega) (hd_ : Nat.blt d_ N = true := by with_unfolding_all exact rfl) :
    QL Tryd.prog ops C R N E (⟨some d_, .slice 22 x none (some hi) none, t, pos, after, none⟩ :: rest) := QL.step (fun _ _ => OpV.intsTo hx hh h0 hc) hd_ h_
theorem RL.intsTo {A : Option Addr} {hi : Operand} (h_ : R ((d_, (.slice A j.toNat c)) :: E)) (hx : evE E x = some (.slice A n c) := by with_unfolding_all exact rfl) (hh : evE E hi = some (.int .i64 j) := by with_unfolding_all exact rfl) (h0 : 0 ≤ j := by omega) (hc : j ≤ c := by omega) (hd_ : Nat.blt d_ N = true := by with_unfolding_all exact rfl) :
    RL Tryd.prog ops C R N E ⟨some d_, .slice 22 x none (some hi) none, t, pos, after, none⟩ := RL.step (fun _ _ => OpV.intsTo hx hh h0 hc) hd_ h_
theorem WL.intsFrom {A : Option Addr} {lo : Operand} (h_ : WL Tryd.prog ops K N ((d_, (.slice (if c = j.toNat then A else A.map (·.add (j.toNat * 1))) (n - j.toNat) (c - j.toNat))) :: E) rest w) (hx : evE E x = some (.slice A n c) := by with_unfolding_all exact rfl) (hh : evE E lo = some (.int .i64 j) := by with_unfolding_all exact rfl) (h0 : 0 ≤ j := by omega) (hc : j ≤ n := by omega) (hd_ : Nat.blt d_ N = true := by with_unfolding_all exact rfl) :
    WL Tryd.prog ops K N E (⟨some d_, .slice 22 x (some lo) none none, t, pos, after, none⟩ :: rest) w := WL.step (OpV.intsFrom hx hh h0 hc) hd_ h_
theorem QL.intsFrom {A : Option Addr} {lo : Operand} (h_ : QL Tryd.prog ops C R N ((d_, (.slice (if c = j.toNat then A else A.map (·.add (j.toNat * 1))) (n - j.toNat) (c - j.toNat))) :: E) rest) (hx : evE E x = some (.slice A n c) := by with_unfolding_all exact rfl) (hh : evE E lo = some (.int .i64 j) := by with_unfolding_all exact rfl) (h0 : 0 ≤ j := by omega) (hc : j ≤ n := by omega) (hd_ : Nat.blt d_ N = true := by with_unfolding_all exact rfl) :
    QL Tryd.prog ops C R N E (⟨some d_, .slice 22 x (some lo) none none, t, pos, after, none⟩ :: rest) := QL.step (fun _ _ => OpV.intsFrom hx hh h0 hc) hd_ h_
theorem RL.intsFrom {A : Option Addr} {lo : Operand} (h_ : R ((d_, (.slice (if c = j.toNat then A else A.map (·.add (j.toNat * 1))) (n - j.toNat) (c - j.toNat))) :: E)) (hx : evE E x = some (.slice A n c) := by with_unfolding_all exact rfl) (hh : evE E lo = some (.int .i64 j) := by with_unfolding_all exact rfl) (h0 : 0 ≤ j := by omega) (hc : j ≤ n := by omega) (hd_ : Nat.blt d_ N = true := by with_unfolding_all exact rfl) :
    RL Tryd.prog ops C R N E ⟨some d_, .slice 22 x (some lo) none none, t, pos, after, none⟩ := RL.step (fun _ _ => OpV.intsFrom hx hh h0 hc) hd_ h_
end
end
section
variable {ops : Array Oper} {K : Env → World → Prop} {R : Env → Prop} {N : Nat} {E : Env} {rest : List Oper} {w : World} {t : TypeId} {pos : String} {after : Array Edge} {d : Nat} {x : Operand} {b o i n : Nat} {f : Nat → Int}
theorem WL.ldInt (h : WL Tryd.prog ops K N ((d, .int .i64 (f i)) :: E) rest w) (hx : evE E x = some (.pointer (some ⟨b, o + i * 1, none⟩)) := by with_unfolding_all exact rfl) (hr : RowOf inC 1 w (some ⟨b, o, none⟩) n f := by first | assumption | exact OwnS.toRow (by assumption)) (hi : i < n := by omega) (hd : Nat.blt d N = true := by with_unfolding_all exact rfl) : WL Tryd.prog ops K N E (⟨some d, .load 3 x, t, pos, after, none⟩ :: rest) w := WL.step (OpV.load1 tyInt hx (hr.get hi 0 _ rfl)) hd h
theorem QL.ldInt (h : QL Tryd.prog ops (fun w' => Below w.heap.size w w') R N ((d, .int .i64 (f i)) :: E) rest) (hx : evE E x = some (.pointer (some ⟨b, o + i * 1, none⟩)) := by with_unfolding_all exact rfl) (hr : RowOf inC 1 w (some ⟨b, o, none⟩) n f := by first | assumption | exact OwnS.toRow (by assumption)) (hi : i < n := by omega) (hd : Nat.blt d N = true := by with_unfolding_all exact rfl) : QL Tryd.prog ops (fun w' => Below w.heap.size w w') R N E (⟨some d, .load 3 x, t, pos, after, none⟩ :: rest) := QL.step (fun _ hw => OpV.load1 tyInt hx ((hr.below hw).get hi 0 _ rfl)) hd h
theorem RL.ldIntB (h : R ((d, .int .i64 (f i)) :: E)) (hx : evE E x = some (.pointer (some ⟨b, o + i * 1, none⟩)) := by with_unfolding_all exact rfl) (hr : RowOf inC 1 w (some ⟨b, o, none⟩) n f := by first | assumption | exact OwnS.toRow (by assumption)) (hi : i < n := by omega) (hd : Nat.blt d N = true := by with_unfolding_all exact rfl) : RL Tryd.prog ops (fun w' => Below w.heap.size w w') R N E ⟨some d, .load 3 x, t, pos, after, none⟩ := RL.step (fun _ hw => OpV.load1 tyInt hx ((hr.below hw).get hi 0 _ rfl)) hd h
theorem RL.ldIntH (h : R ((d, .int .i64 (f i)) :: E)) (hx : evE E x = some (.pointer (some ⟨b, o + i * 1, none⟩)) := by with_unfolding_all exact rfl) (hr : RowOf inC 1 w (some ⟨b, o, none⟩) n f := by first | assumption | exact OwnS.toRow (by assumption)) (hi : i < n := by omega) (hd : Nat.blt d N = true := by with_unfolding_all exact rfl) : RL Tryd.prog ops (fun w' => w'.heap = w.heap) R N E ⟨some d, .load 3 x, t, pos, after, none⟩ := RL.step (fun _ hw => OpV.load1 tyInt hx ((hr.heap hw).get hi 0 _ rfl)) hd h
end
abbrev OwnN (w : World) (B : Nat) (v : Value) (l : List Int) : Prop := OwnL inC 1 3 w B v l
end Rk
