/- This translation's types, as the walk wants them: items. -/
import Derived.Test.YtkkbmbkfjfdleaaDoorTyI
namespace Rk
open Go Go.RowKit Go.Proofs
theorem tyItem : Ty Tryd.prog 30 true 2 16 (.agg #[.int .i64 0, .int .i64 0]) := Ty.mk' (by kernel_rfl) (fun _ => by kernel_rfl) rfl
theorem unItems : Tryd.prog.underlying 22 = some (.slice 30) := by kernel_rfl
theorem unItem : Tryd.prog.underlying 30 = some (.struct (Tryd.prog.fieldsOf 30)) := by kernel_rfl
theorem fdKey : ((Tryd.prog.fieldsOf 30)[0]?).map (fun f => (f.offset, f.type)) = some (0, 3) := by kernel_rfl
theorem fdId : ((Tryd.prog.fieldsOf 30)[1]?).map (fun f => (f.offset, f.type)) = some (1, 3) := by kernel_rfl
/-- an item's two cells -/
def itC (x : Int × Int) : List Value := [.int .i64 x.1, .int .i64 x.2]
theorem itC_len (x : Int × Int) : (itC x).length = 2 := rfl
theorem itC_one (x : Int × Int) : ∀ u ∈ itC x, u.oneCell' = true := by simp [itC, Value.oneCell']
section
variable {E : Env} {w : World} {t : TypeId} {x i : Operand} {bk o n c : Nat} {j : Int}
theorem OpV.itemAddr (hx : evE E x = some (.slice (some ⟨bk, o, none⟩) n c)) (hi : evE E i = some (.int .i64 j)) (h0 : 0 ≤ j) (hn : j < n) :
    OpV Tryd.prog (.indexAddr 22 x i) t E w (.pointer (some ⟨bk, o + j.toNat * 2, none⟩)) w := OpV.indexAddr unItems tyItem.size hx hi h0 hn
theorem OpV.keyAddr (hx : evE E x = some (.pointer (some ⟨bk, o, none⟩))) : OpV Tryd.prog (.fieldAddr 30 x 0) t E w (.pointer (some ⟨bk, o, none⟩)) w := OpV.fieldAddr (off := 0) unItem fdKey tyInt (by omega) hx
theorem OpV.idAddr (hx : evE E x = some (.pointer (some ⟨bk, o, none⟩))) : OpV Tryd.prog (.fieldAddr 30 x 1) t E w (.pointer (some ⟨bk, o + 1, none⟩)) w := OpV.fieldAddr unItem fdId tyInt (by omega) hx
theorem OpV.lenItems {A : Option Addr} (hx : evE E x = some (.slice A n c)) {rt : TypeId} : OpV Tryd.prog (.call { callee := .builtin .len, args := #[x], argTypes := #[22] }) rt E w (.int .i64 n) w := OpV.len_slice unItems hx
theorem OpV.item0 : OpV Tryd.prog (.build 30 #[]) t E w (.agg (itC (0, 0)).toArray) w := OpV.build (parts := []) (ps := []) rfl (by kernel_rfl)
theorem OpV.item {y : Operand} {a b : Int} (hx : evE E x = some (.int .i64 a)) (hy : evE E y = some (.int .i64 b)) : OpV Tryd.prog (.build 30 #[(0, x), (1, y)]) t E w (.agg (itC (a, b)).toArray) w :=
  OpV.build (parts := [(0, x), (1, y)]) (ps := [(0, .int .i64 a), (1, .int .i64 b)]) (by simp [evp, hx, hy]) (by kernel_rfl)
theorem OpV.itemsTo {A : Option Addr} {hi : Operand} (hx : evE E x = some (.slice A n c)) (hh : evE E hi = some (.int .i64 j)) (h0 : 0 ≤ j) (hc : j ≤ c) :
    OpV Tryd.prog (.slice 22 x none (some hi) none) t E w (.slice A j.toNat c) w := OpV.sliceTo unItems tyItem hx hh h0 hc
theorem OpV.itemsFrom {A : Option Addr} {lo : Operand} (hx : evE E x = some (.slice A n c)) (hh : evE E lo = some (.int .i64 j)) (h0 : 0 ≤ j) (hc : j ≤ n) :
    OpV Tryd.prog (.slice 22 x (some lo) none none) t E w (.slice (if c = j.toNat then A else A.map (·.add (j.toNat * 2))) (n - j.toNat) (c - j.toNat)) w := OpV.sliceFrom unItems tyItem hx hh h0 hc
theorem OpV.itemsNil {A : Option Addr} (hx : evE E x = some (.slice A n c)) : OpV Tryd.prog (.binOp .eql 22 x (.const (.slice none 0 0)) 22) t E w (.bool A.isNone) w := OpV.eqlSN unItems hx
section
variable {ops : Array Oper} {K : Env → World → Prop} {N d_ : Nat} {rest : List Oper} {pos : String} {after : Array Edge} {C : World → Prop} {R : Env → Prop}
theorem WL.itemAddr  (h_ : WL Tryd.prog ops K N ((d_, (.pointer (some ⟨bk, o + j.toNat * 2, none⟩))) :: E) rest w) (hx : evE E x = some (.slice (some ⟨bk, o, none⟩) n c) := by with_unfolding_all exact rfl) (hi : evE E i = some (.int .i64 j) := by with_unfolding_all exact rfl) (h0 : 0 ≤ j := by omega) (hn : j < n := by omega) (hd_ : Nat.blt d_ N = true := by with_unfolding_all exact rfl) :
    WL Tryd.prog ops K N E (⟨some d_, .indexAddr 22 x i, t, pos, after, none⟩ :: rest) w := WL.step (OpV.itemAddr hx hi h0 hn) hd_ h_
theorem QL.itemAddr  (h_ : QL Tryd.prog ops C R N ((d_, (.pointer (some ⟨bk, o + j.toNat * 2, none⟩))) :: E) rest) (hx : evE E x = some (.slice (some ⟨bk, o, none⟩) n c) := by with_unfolding_all exact rfl) (hi : evE E i = some (.int .i64 j) := by with_unfolding_all exact rfl) (h0 : 0 ≤ j := by omega) (hn : j < n := by omega) (hd_ : Nat.blt d_ N = true := by with_unfolding_all exact rfl) :
    QL Tryd.prog ops C R N E (⟨some d_, .indexAddr 22 x i, t, pos, after, none⟩ :: rest) := QL.step (fun _ _ => OpV.itemAddr hx hi h0 hn) hd_ h_
theorem RL.itemAddr  (h_ : R ((d_, (.pointer (some ⟨bk, o + j.toNat * 2, none⟩))) :: E)) (hx : evE E x = some (.slice (some ⟨bk, o, none⟩) n c) := by with_unfolding_all exact rfl) (hi : evE E i = some (.int .i64 j) := by with_unfolding_all exact rfl) (h0 : 0 ≤ j := by omega) (hn : j < n := by omega) (hd_ : Nat.blt d_ N = true := by with_unfolding_all exact rfl) :
    RL Tryd.prog ops C R N E ⟨some d_, .indexAddr 22 x i, t, pos, after, none⟩ := RL.step (fun _ _ => OpV.itemAddr hx hi h0 hn) hd_ h_
theorem WL.keyAddr  (h_ : WL Tryd.prog ops K N ((d_, (.pointer (some ⟨bk, o, none⟩))) :: E) rest w) (hx : evE E x = some (.pointer (some ⟨bk, o, none⟩)) := by with_unfolding_all exact rfl) (hd_ : Nat.blt d_ N = true := by with_unfolding_all exact rfl) :
    WL Tryd.prog ops K N E (⟨some d_, .fieldAddr 30 x 0, t, pos, after, none⟩ :: rest) w := WL.step (OpV.keyAddr hx) hd_ h_
theorem QL.keyAddr  (h_ : QL Tryd.prog ops C R N ((d_, (.pointer (some ⟨bk, o, none⟩))) :: E) rest) (hx : evE E x = some (.pointer (some ⟨bk, o, none⟩)) := by with_unfolding_all exact rfl) (hd_ : Nat.blt d_ N = true := by with_unfolding_all exact rfl) :
    QL Tryd.prog ops C R N E (⟨some d_, .fieldAddr 30 x 0, t, pos, after, none⟩ :: rest) := QL.step (fun _ _ => OpV.keyAddr hx) hd_ h_
theorem RL.keyAddr  (h_ : R ((d_, (.pointer (some ⟨bk, o, none⟩))) :: E)) (hx : evE E x = some (.pointer (some ⟨bk, o, none⟩)) := by with_unfolding_all exact rfl) (hd_ : Nat.blt d_ N = true := by with_unfolding_all exact rfl) :
    RL Tryd.prog ops C R N E ⟨some d_, .fieldAddr 30 x 0, t, pos, after, none⟩ := RL.step (fun _ _ => OpV.keyAddr hx) hd_ h_
theorem WL.idAddr  (h_ : WL Tryd.prog ops K N ((d_, (.pointer (some ⟨bk, o + 1, none⟩))) :: E) rest w) (hx : evE E x = some (.pointer (some ⟨bk, o, none⟩)) := by with_unfolding_all exact rfl) (hd_ : Nat.blt d_ N = true := by with_unfolding_all exact rfl) :
    WL Tryd.prog ops K N E (⟨some d_, .fieldAddr 30 x 1, t, pos, after, none⟩ :: rest) w := WL.step (OpV.idAddr hx) hd_ h_
theorem QL.idAddr  (h_ : QL Tryd.prog ops C R N ((d_, (.pointer (some ⟨bk, o + 1, none⟩))) :: E) rest) (hx : evE E x = some (.pointer (some ⟨bk, o, none⟩)) := by with_unfolding_all exact rfl) (hd_ : Nat.blt d_ N = true := by with_unfolding_all exact rfl) :
    QL Tryd.prog ops C R N E (⟨some d_, .fieldAddr 30 x 1, t, pos, after, none⟩ :: rest) := QL.step (fun _ _ => OpV.idAddr hx) hd_ h_
theorem RL.idAddr  (h_ : R ((d_, (.pointer (some ⟨bk, o + 1, none⟩))) :: E)) (hx : evE E x = some (.pointer (some ⟨bk, o, none⟩)) := by with_unfolding_all exact rfl) (hd_ : Nat.blt d_ N = true := by with_unfolding_all exact rfl) :
    RL Tryd.prog ops C R N E ⟨some d_, .fieldAddr 30 x 1, t, pos, after, none⟩ := RL.step (fun _ _ => OpV.idAddr hx) hd_ h_
theorem WL.lenItems {A : Option Addr} {rt : TypeId} (h_ : WL Tryd.prog ops K N ((d_, (.int .i64 n)) :: E) rest w) (hx : evE E x = some (.slice A n c) := by with_unfolding_all exact rfl) (hd_ : Nat.blt d_ N = true := by with_unfolding_all exact rfl) :
    WL Tryd.prog ops K N E (⟨some d_, .call { callee := .builtin .len, args := #[x], argTypes := #[22] }, rt, pos, after, none⟩ :: rest) w := WL.step (OpV.lenItems hx) hd_ h_
theorem QL.lenItems {A : Option Addr} {rt : TypeId} (h_ : QL Tryd.prog ops C R N ((d_, (.int .i64 n)) :: E) rest) (hx : evE E x = some (.slice A n c) := by with_unfolding_all exact rfl) (hd_ : Nat.blt d_ N = true := by with_unfolding_all exact rfl) :
    QL Tryd.prog ops C R N E (⟨some d_, .call { callee := .builtin .len, args := #[x], argTypes := #[22] }, rt, pos, after, none⟩ :: rest) := QL.step (fun _ _ => OpV.lenItems hx) hd_ h_
theorem RL.lenItems {A : Option Addr} {rt : TypeId} (h_ : R ((d_, (.int .i64 n)) :: E)) (hx : evE E x = some (.slice A n c) := by with_unfolding_all exact rfl) (hd_ : Nat.blt d_ N = true := by with_unfolding_all exact rfl) :
    RL Tryd.prog ops C R N E ⟨some d_, .call { callee := .builtin .len, args := #[x], argTypes := #[22] }, rt, pos, after, none⟩ := RL.step (fun _ _ => OpV.lenItems hx) hd_ h_
theorem WL.item0  (h_ : WL Tryd.prog ops K N ((d_, (.agg (itC (0, 0)).toArray)) :: E) rest w)  (hd_ : Nat.blt d_ N = true := by with_unfolding_all exact rfl) :
    WL Tryd.prog ops K N E (⟨some d_, .build 30 #[], t, pos, after, none⟩ :: rest) w := WL.step (OpV.item0 ) hd_ h_
theorem QL.item0  (h_ : QL Tryd.prog ops C R N ((d_, (.agg (itC (0, 0)).toArray)) :: E) rest)  (hd_ : Nat.blt d_ N = true := by with_unfolding_all exact rfl) :
    QL Tryd.prog ops C R N E (⟨some d_, .build 30 #[], t, pos, after, none⟩ :: rest) := QL.step (fun _ _ => OpV.item0 ) hd_ h_
theorem RL.item0  (h_ : R ((d_, (.agg (itC (0, 0)).toArray)) :: E))  (hd_ : Nat.blt d_ N = true := by with_unfolding_all exact rfl) :
    RL Tryd.prog ops C R N E ⟨some d_, .build 30 #[], t, pos, after, none⟩ := RL.step (fun _ _ => OpV.item0 ) hd_ h_
theorem WL.item {y : Operand} {a b : Int} (h_ : WL Tryd.prog ops K N ((d_, (.agg (itC (a, b)).toArray)) :: E) rest w) (hx : evE E x = some (.int .i64 a) := by with_unfolding_all exact rfl) (hy : evE E y = some (.int .i64 b) := by with_unfolding_all exact rfl) (hd_ : Nat.blt d_ N = true := by with_unfolding_all exact rfl) :
    WL Tryd.prog ops K N E (⟨some d_, .build 30 #[(0, x), (1, y)], t, pos, after, none⟩ :: rest) w := WL.step (OpV.item hx hy) hd_ h_
theorem QL.item {y : Operand} {a b : Int} (h_ : QL Tryd.prog ops C R N ((d_, (.agg (itC (a, b)).toArray)) :: E) rest) (hx : evE E x = some (.int .i64 a) := by with_unfolding_all exact rfl) (hy : evE E y = some (.int .i64 b) := by with_unfolding_all exact rfl) (hd_ : Nat.blt d_ N = true := by with_unfolding_all exact rfl) :
    QL Tryd.prog ops C R N E (⟨some d_, .build 30 #[(0, x), (1, y)], t, pos, after, none⟩ :: rest) := QL.step (fun _ _ => OpV.item hx hy) hd_ h_
theorem RL.item {y : Operand} {a b : Int} (h_ : R ((d_, (.agg (itC (a, b)).toArray)) :: E)) (hx : evE E x = some (.int .i64 a) := by with_unfolding_all exact rfl) (hy : evE E y = some (.int .i64 b) := by with_unfolding_all exact rfl) (hd_ : Nat.blt d_ N = true := by with_unfolding_all exact rfl) :
    RL Tryd.prog ops C R N E ⟨some d_, .build 30 #[(0, x), (1, y)], t, pos, after, none⟩ := RL.step (fun _ _ => OpV.item hx hy) hd_ h_
theorem WL.itemsTo {A : Option Addr} {hi : Operand} (h_ : WL Tryd.prog ops K N ((d_, (.slice A j.toNat c)) :: E) rest w) (hx : evE E x = some (.slice A n c) := by with_unfolding_all exact rfl) (hh : evE E hi = some (.int .i64 j) := by with_unfolding_all exact rfl) (h0 : 0 ≤ j := by omega) (hc : j ≤ c := by omega) (hd_ : Nat.blt d_ N = true := by with_unfolding_all exact rfl) :
    WL Tryd.prog ops K N E (⟨some d_, .slice 22 x none (some hi) none, t, pos, after, none⟩ :: rest) w := WL.step (OpV.itemsTo hx hh h0 hc) hd_ h_
theorem QL.itemsTo {A : Option Addr} {hi : Operand} (h_ : QL Tryd.prog ops C R N ((d_, (.slice A j.toNat c)) :: E) rest) (hx : evE E x = some (.slice A n c) := by with_unfolding_all exact rfl) (hh : evE E hi = some (.int .i64 j) := by with_unfolding_all exact rfl) (h0 : 0 ≤ j := by omega) (hc : j ≤ c := by omega) (hd_ : Nat.blt d_ N = true := by with_unfolding_all exact rfl) :
    QL Tryd.prog ops C R N E (⟨some d_, .slice 22 x none (some hi) none, t, pos, after, none⟩ :: rest) := QL.step (fun _ _ => OpV.itemsTo hx hh h0 hc) hd_ h_
theorem RL.itemsTo {A : Option Addr} {hi : Operand} (h_ : R ((d_, (.slice A j.toNat c)) :: E)) (hx : evE E x = some (.slice A n c) := by with_unfolding_all exact rfl) (hh : evE E hi = some (.int .i64 j) := by with_unfolding_all exact rfl) (h0 : 0 ≤ j := by omega) (hc : j ≤ c := by omega) (hd_ : Nat.blt d_ N = true := by with_unfolding_all exact rfl) :
    RL Tryd.prog ops C R N E ⟨some d_, .slice 22 x none (some hi) none, t, pos, after, none⟩ := RL.step (fun _ _ => OpV.itemsTo hx hh h0 hc) hd_ h_
theorem WL.itemsFrom {A : Option Addr} {lo : Operand} (h_ : WL Tryd.prog ops K N ((d_, (.slice (if c = j.toNat then A else A.map (·.add (j.toNat * 2))) (n - j.toNat) (c - j.toNat))) :: E) rest w) (hx : evE E x = some (.slice A n c) := by with_unfolding_all exact rfl) (hh : evE E lo = some (.int .i64 j) := by with_unfolding_all exact rfl) (h0 : 0 ≤ j := by omega) (hc : j ≤ n := by omega) (hd_ : Nat.blt d_ N = true := by with_unfolding_all exact rfl) :
    WL Tryd.prog ops K N E (⟨some d_, .slice 22 x (some lo) none none, t, pos, after, none⟩ :: rest) w := WL.step (OpV.itemsFrom hx hh h0 hc) hd_ h_
theorem QL.itemsFrom {A : Option Addr} {lo : Operand} (h_ : QL Tryd.prog ops C R N ((d_, (.slice (if c = j.toNat then A else A.map (·.add (j.toNat * 2))) (n - j.toNat) (c - j.toNat))) :: E) rest) (hx : evE E x = some (.slice A n c) := by with_unfolding_all exact rfl) (hh : evE E lo = some (.int .i64 j) := by with_unfolding_all exact rfl) (h0 : 0 ≤ j := by omega) (hc : j ≤ n := by omega) (hd_ : Nat.blt d_ N = true := by with_unfolding_all exact rfl) :
    QL Tryd.prog ops C R N E (⟨some d_, .slice 22 x (some lo) none none, t, pos, after, none⟩ :: rest) := QL.step (fun _ _ => OpV.itemsFrom hx hh h0 hc) hd_ h_
theorem RL.itemsFrom {A : Option Addr} {lo : Operand} (h_ : R ((d_, (.slice (if c = j.toNat then A else A.map (·.add (j.toNat * 2))) (n - j.toNat) (c - j.toNat))) :: E)) (hx : evE E x = some (.slice A n c) := by with_unfolding_all exact rfl) (hh : evE E lo = some (.int .i64 j) := by with_unfolding_all exact rfl) (h0 : 0 ≤ j := by omega) (hc : j ≤ n := by omega) (hd_ : Nat.blt d_ N = true := by with_unfolding_all exact rfl) :
    RL Tryd.prog ops C R N E ⟨some d_, .slice 22 x (some lo) none none, t, pos, after, none⟩ := RL.step (fun _ _ => OpV.itemsFrom hx hh h0 hc) hd_ h_
theorem WL.itemsNil {A : Option Addr} (h_ : WL Tryd.prog ops K N ((d_, (.bool A.isNone)) :: E) rest w) (hx : evE E x = some (.slice A n c) := by with_unfolding_all exact rfl) (hd_ : Nat.blt d_ N = true := by with_unfolding_all exact rfl) :
    WL Tryd.prog ops K N E (⟨some d_, .binOp .eql 22 x (.const (.slice none 0 0)) 22, t, pos, after, none⟩ :: rest) w := WL.step (OpV.itemsNil hx) hd_ h_
theorem QL.itemsNil {A : Option Addr} (h_ : QL Tryd.prog ops C R N ((d_, (.bool A.isNone)) :: E) rest) (hx : evE E x = some (.slice A n c) := by with_unfolding_all exact rfl) (hd_ : Nat.blt d_ N = true := by with_unfolding_all exact rfl) :
    QL Tryd.prog ops C R N E (⟨some d_, .binOp .eql 22 x (.const (.slice none 0 0)) 22, t, pos, after, none⟩ :: rest) := QL.step (fun _ _ => OpV.itemsNil hx) hd_ h_
theorem RL.itemsNil {A : Option Addr} (h_ : R ((d_, (.bool A.isNone)) :: E)) (hx : evE E x = some (.slice A n c) := by with_unfolding_all exact rfl) (hd_ : Nat.blt d_ N = true := by with_unfolding_all exact rfl) :
    RL Tryd.prog ops C R N E ⟨some d_, .binOp .eql 22 x (.const (.slice none 0 0)) 22, t, pos, after, none⟩ := RL.step (fun _ _ => OpV.itemsNil hx) hd_ h_
end
end
end Rk
