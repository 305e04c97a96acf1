/- Items compared. -/
import Derived.Test.YtkkbmbkfjfdleaaDoorOrd1
import Derived.Test.YtkkbmbkfjfdleaaDoorOwn
import Derived.Test.YtkkbmbkfjfdleaaDoorExI
import Derived.Laws.StructEq
namespace Rk
open Go Go.RowKit Go.Proofs
attribute [local irreducible] OpU OpC WL QL WC WX OL RL

theorem run_eqItem (w : World) (a b : It) : (binOp .eql 30 (.agg (itC a).toArray) (.agg (itC b).toArray)).run Tryd.prog w = .ok (.bool (decide (a = b))) w := by
  have hf : (Tryd.prog.fieldsOf 30).toList.map (fun f => (f.name, f.type, f.offset)) = [("Key", 3, 0), ("Id", 3, 1)] := by kernel_rfl
  have hst : Tryd.prog.stoodInHeld 30 = false := by kernel_rfl
  rw [run_eql_struct, run_equalIn_agg _ _ _ _ _ unItem hst]
  generalize (Tryd.prog.fieldsOf 30).toList = l at hf ⊢
  rcases l with _ | ⟨f0, _ | ⟨f1, _ | ⟨f2, l⟩⟩⟩
  · cases hf
  · simp at hf
  · simp only [List.map_cons, List.map_nil, List.cons.injEq, Prod.mk.injEq, and_true] at hf
    obtain ⟨⟨n0, t0, o0⟩, n1, t1, o1⟩ := hf
    have hz : ∀ w, (Go.sizeOf 3).run Tryd.prog w = .ok 1 w := tyInt.size
    have hi : Tryd.prog.underlying 3 = some (.int .i64) := by kernel_rfl
    obtain ⟨a0, a1⟩ := a
    obtain ⟨b0, b1⟩ := b
    by_cases h0 : a0 = b0 <;> by_cases h1 : a1 = b1 <;>
      simp [Op.eqFields, n0, n1, t0, t1, o0, o1, part, hz, itC, run_equalIn_int, hi, h0, h1, go_sem, tyInt.aggr]
  · simp at hf
theorem OpV.eqlItem {E : Env} {w : World} {t : TypeId} {x y : Operand} {a b : It} (hx : evE E x = some (.agg (itC a).toArray)) (hy : evE E y = some (.agg (itC b).toArray)) :
    OpV Tryd.prog (.binOp .eql 30 x y 30) t E w (.bool (decide (a = b))) w := fun ρ hρ _ _ _ _ => by
  have hg : Tryd.prog.eqGuardType Tryd.prog.depth 30 = false := by kernel_rfl
  simp only [execOp, hρ _ _ hx, hρ _ _ hy]
  simp [run_eqGuard_agg _ _ _ _ _ _ _ hg, run_eqItem]

section
variable {E : Env} {w : World} {t : TypeId} {x y : Operand}
theorem OpV.neqItem {a b : It} (hx : evE E x = some (.agg (itC a).toArray)) (hy : evE E y = some (.agg (itC b).toArray)) :
    OpV Tryd.prog (.binOp .neq 30 x y 30) t E w (.bool (decide (a ≠ b))) w := fun ρ hρ _ _ _ _ => by
  have hg : Tryd.prog.eqGuardType Tryd.prog.depth 30 = false := by kernel_rfl
  have h1 := run_eqItem w a b
  simp only [binOp] at h1
  simp only [execOp, hρ _ _ hx, hρ _ _ hy]
  simp [run_eqGuard_agg _ _ _ _ _ _ _ hg]
  simp only [binOp]
  simp [go_sem] at h1 ⊢
  generalize Sem.run Tryd.prog (Op.equal _ _ _) w = r at h1 ⊢
  cases r with
  | ok b' w' => simp at h1; simp [h1]
  | halt x w' => simp at h1
theorem OpV.eqIt {a b : It} (hx : evE E x = some (.agg (itC a).toArray)) (hy : evE E y = some (.agg (itC b).toArray)) :
    OpV Tryd.prog (.binOp .eql 30 x y 30) t E w (.bool (decide (a = b))) w := OpV.eqlItem hx hy
section
variable {ops : Array Oper} {K : Env → World → Prop} {N d_ : Nat} {rest : List Oper} {pos : String} {after : Array Edge} {C : World → Prop} {R : Env → Prop}
theorem WL.eqlItem {E : Env} {w : World} {t : TypeId} {x y : Operand} {a b : It} (hx : evE E x = some (.agg (itC a).toArray)) (hy : evE E y = some (.agg (itC b).toArray)) (hd_ : Nat.blt d_ N = true) (h_ : WL Tryd.prog ops K N ((d_, (.bool (decide (a = b)))) :: E) rest w) :
    WL Tryd.prog ops K N E (⟨some d_, .binOp .eql 30 x y 30, t, pos, after, none⟩ :: rest) w := WL.step (OpV.eqlItem hx hy) hd_ h_
theorem WL.neqItem {a b : It} (h_ : WL Tryd.prog ops K N ((d_, (.bool (decide (a ≠ b)))) :: E) rest w) (hx : evE E x = some (.agg (itC a).toArray) := by with_unfolding_all exact rfl) (hy : evE E y = some (.agg (itC b).toArray) := by with_unfolding_all exact rfl) (hd_ : Nat.blt d_ N = true := by with_unfolding_all exact rfl) :
    WL Tryd.prog ops K N E (⟨some d_, .binOp .neq 30 x y 30, t, pos, after, none⟩ :: rest) w := WL.step (OpV.neqItem hx hy) hd_ h_
theorem QL.neqItem {a b : It} (h_ : QL Tryd.prog ops C R N ((d_, (.bool (decide (a ≠ b)))) :: E) rest) (hx : evE E x = some (.agg (itC a).toArray) := by with_unfolding_all exact rfl) (hy : evE E y = some (.agg (itC b).toArray) := by with_unfolding_all exact rfl) (hd_ : Nat.blt d_ N = true := by with_unfolding_all exact rfl) :
    QL Tryd.prog ops C R N E (⟨some d_, .binOp .neq 30 x y 30, t, pos, after, none⟩ :: rest) := QL.step (fun _ _ => OpV.neqItem hx hy) hd_ h_
theorem RL.neqItem {a b : It} (h_ : R ((d_, (.bool (decide (a ≠ b)))) :: E)) (hx : evE E x = some (.agg (itC a).toArray) := by with_unfolding_all exact rfl) (hy : evE E y = some (.agg (itC b).toArray) := by with_unfolding_all exact rfl) (hd_ : Nat.blt d_ N = true := by with_unfolding_all exact rfl) :
    RL Tryd.prog ops C R N E ⟨some d_, .binOp .neq 30 x y 30, t, pos, after, none⟩ := RL.step (fun _ _ => OpV.neqItem hx hy) hd_ h_
theorem WL.eqIt {a b : It} (h_ : WL Tryd.prog ops K N ((d_, (.bool (decide (a = b)))) :: E) rest w) (hx : evE E x = some (.agg (itC a).toArray) := by with_unfolding_all exact rfl) (hy : evE E y = some (.agg (itC b).toArray) := by with_unfolding_all exact rfl) (hd_ : Nat.blt d_ N = true := by with_unfolding_all exact rfl) :
    WL Tryd.prog ops K N E (⟨some d_, .binOp .eql 30 x y 30, t, pos, after, none⟩ :: rest) w := WL.step (OpV.eqIt hx hy) hd_ h_
theorem QL.eqIt {a b : It} (h_ : QL Tryd.prog ops C R N ((d_, (.bool (decide (a = b)))) :: E) rest) (hx : evE E x = some (.agg (itC a).toArray) := by with_unfolding_all exact rfl) (hy : evE E y = some (.agg (itC b).toArray) := by with_unfolding_all exact rfl) (hd_ : Nat.blt d_ N = true := by with_unfolding_all exact rfl) :
    QL Tryd.prog ops C R N E (⟨some d_, .binOp .eql 30 x y 30, t, pos, after, none⟩ :: rest) := QL.step (fun _ _ => OpV.eqIt hx hy) hd_ h_
theorem RL.eqIt {a b : It} (h_ : R ((d_, (.bool (decide (a = b)))) :: E)) (hx : evE E x = some (.agg (itC a).toArray) := by with_unfolding_all exact rfl) (hy : evE E y = some (.agg (itC b).toArray) := by with_unfolding_all exact rfl) (hd_ : Nat.blt d_ N = true := by with_unfolding_all exact rfl) :
    RL Tryd.prog ops C R N E ⟨some d_, .binOp .eql 30 x y 30, t, pos, after, none⟩ := RL.step (fun _ _ => OpV.eqIt hx hy) hd_ h_
end
end
end Rk
