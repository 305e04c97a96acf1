/- The walk's own rules: texts put together, and cut. -/
import Derived.Test.YthdiheblgmddhaaDoorStrB
namespace Rk
open Go Go.RowKit Go.Proofs
section
variable {E : Env} {w : World} {t : TypeId} {x y : Operand} {s r : Bs}
theorem OpV.addS (hx : evE E x = some (stV s)) (hy : evE E y = some (stV r)) (h : s.length + r.length ≤ 9223372036854775807) : OpV Tryd.prog (.binOp .add 9 x y 9) t E w (stV (s ++ r)) w := fun ρ hρ _ _ _ _ => by
  have h1 := run_string_add_sum (P := Tryd.prog) w ⟨s.toArray⟩ ⟨r.toArray⟩ (by simpa [ByteArray.size] using h)
  have h2 : (⟨s.toArray⟩ : ByteArray) ++ ⟨r.toArray⟩ = ⟨(s ++ r).toArray⟩ := by
    apply ByteArray.ext; simp
  rw [h2] at h1
  simp [execOp, hρ _ _ hx, hρ _ _ hy, eqGuard, go_sem, h1]
theorem OpV.strFrom {j : Nat} {lo : Operand} (hx : evE E x = some (stV s)) (hy : evE E lo = some (.int .i64 (j : Int))) (h : j ≤ s.length) : OpV Tryd.prog (.slice 9 x (some lo) none none) t E w (stV (s.drop j)) w := fun ρ hρ _ _ _ _ => by
  have h1 : (j : Int) ≤ (s.length : Int) := by omega
  have hz : (⟨s.toArray⟩ : ByteArray).size = s.length := by simp [ByteArray.size]
  have hx2 : (⟨s.toArray⟩ : ByteArray).extract j s.length = ⟨(s.drop j).toArray⟩ := by
    rw [ByteArray.extract_mk]
    congr 2
    exact List.take_of_length_le (by rw [List.length_drop]; exact Nat.le_refl _)
  simp [execOp, hρ _ _ hx, hρ _ _ hy, Instr.sliceAt, Instr.slice, Instr.sliceBounds, Instr.sliceBound, asIntOf, run_underlying unStr, h1, hz, h, hx2]
section
variable {ops : Array Oper} {K : Env → World → Prop} {N d_ : Nat} {rest : List Oper} {pos : String} {after : Array Edge} {C : World → Prop} {R : Env → Prop}
theorem WL.addS  (h_ : WL Tryd.prog ops K N ((d_, (stV (s ++ r))) :: E) rest w) (hx : evE E x = some (stV s) := by with_unfolding_all exact rfl) (hy : evE E y = some (stV r) := by with_unfolding_all exact rfl) (h : s.length + r.length ≤ 9223372036854775807 := by omega) (hd_ : Nat.blt d_ N = true := by with_unfolding_all exact rfl) :
    WL Tryd.prog ops K N E (⟨some d_, .binOp .add 9 x y 9, t, pos, after, none⟩ :: rest) w := WL.step (OpV.addS hx hy h) hd_ h_
theorem QL.addS  (h_ : QL Tryd.prog ops C R N ((d_, (stV (s ++ r))) :: E) rest) (hx : evE E x = some (stV s) := by with_unfolding_all exact rfl) (hy : evE E y = some (stV r) := by with_unfolding_all exact rfl) (h : s.length + r.length ≤ 9223372036854775807 := by omega) (hd_ : Nat.blt d_ N = true := by with_unfolding_all exact rfl) :
    QL Tryd.prog ops C R N E (⟨some d_, .binOp .add 9 x y 9, t, pos, after, none⟩ :: rest) := QL.step (fun _ _ => OpV.addS hx hy h) hd_ h_
theorem RL.addS  (h_ : R ((d_, (stV (s ++ r))) :: E)) (hx : evE E x = some (stV s) := by with_unfolding_all exact rfl) (hy : evE E y = some (stV r) := by with_unfolding_all exact rfl) (h : s.length + r.length ≤ 9223372036854775807 := by omega) (hd_ : Nat.blt d_ N = true := by with_unfolding_all exact rfl) :
    RL Tryd.prog ops C R N E ⟨some d_, .binOp .add 9 x y 9, t, pos, after, none⟩ := RL.step (fun _ _ => OpV.addS hx hy h) hd_ h_
theorem WL.strFrom {j : Nat} {lo : Operand} (h_ : WL Tryd.prog ops K N ((d_, (stV (s.drop j))) :: E) rest w) (hx : evE E x = some (stV s) := by with_unfolding_all exact rfl) (hy : evE E lo = some (.int .i64 (j : Int)) := by with_unfolding_all exact rfl) (h : j ≤ s.length := by omega) (hd_ : Nat.blt d_ N = true := by with_unfolding_all exact rfl) :
    WL Tryd.prog ops K N E (⟨some d_, .slice 9 x (some lo) none none, t, pos, after, none⟩ :: rest) w := WL.step (OpV.strFrom hx hy h) hd_ h_
theorem QL.strFrom {j : Nat} {lo : Operand} (h_ : QL Tryd.prog ops C R N ((d_, (stV (s.drop j))) :: E) rest) (hx : evE E x = some (stV s) := by with_unfolding_all exact rfl) (hy : evE E lo = some (.int .i64 (j : Int)) := by with_unfolding_all exact rfl) (h : j ≤ s.length := by omega) (hd_ : Nat.blt d_ N = true := by with_unfolding_all exact rfl) :
    QL Tryd.prog ops C R N E (⟨some d_, .slice 9 x (some lo) none none, t, pos, after, none⟩ :: rest) := QL.step (fun _ _ => OpV.strFrom hx hy h) hd_ h_
theorem RL.strFrom {j : Nat} {lo : Operand} (h_ : R ((d_, (stV (s.drop j))) :: E)) (hx : evE E x = some (stV s) := by with_unfolding_all exact rfl) (hy : evE E lo = some (.int .i64 (j : Int)) := by with_unfolding_all exact rfl) (h : j ≤ s.length := by omega) (hd_ : Nat.blt d_ N = true := by with_unfolding_all exact rfl) :
    RL Tryd.prog ops C R N E ⟨some d_, .slice 9 x (some lo) none none, t, pos, after, none⟩ := RL.step (fun _ _ => OpV.strFrom hx hy h) hd_ h_
end
end
end Rk
