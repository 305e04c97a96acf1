/- The walk's own rules: make of a slice. -/
import Derived.Test.YthdiheblgmddhaaDoorOwn
import Derived.Laws.OwnMore
namespace Rk
open Go Go.RowKit
section
variable {P : Program} {ops : Array Oper} {K : Env → World → Prop} {N d : Nat} {E : Env} {w : World} {rest : List Oper} {st e : TypeId} {agg : Bool} {k bytes : Nat} {z : Value} {t : TypeId} {pos : String} {after : Array Edge} {lo ca : Operand}
/-- make([]T, 0, c) -/
theorem WL.make0 {α : Type} (enc : α → List Value) {kl kc : IntKind} {c : Nat} (ht : P.underlying st = some (.slice e)) (ty : Ty P e agg k bytes z) (hd : Nat.blt d N = true) (hl : evE E lo = some (.int kl 0)) (hc : evE E ca = some (.int kc (c : Int)))
    (hb : bytes * c ≤ 281474976710656) (hm : c ≤ maxLen)
    (h : ∀ w', OwnL enc k e w' w.heap.size (.slice (some ⟨w.heap.size, 0, none⟩) 0 c) [] → w.grownBy w' none → WL P ops K N ((d, .slice (some ⟨w.heap.size, 0, none⟩) 0 c) :: E) rest w') :
    WL P ops K N E (⟨some d, .makeSlice st lo ca, t, pos, after, none⟩ :: rest) w := by
  obtain ⟨i, hi, hz, hsz, hbb⟩ := ty.info
  obtain ⟨w', r1, r2, r3⟩ := run_make_own (P := P) w w.heap.size st e i z k ht hi hz hsz kl kc c (by rw [hbb]; exact hb) hm (Nat.le_refl _)
  refine WL.step (w' := w') (v := .slice (some ⟨w.heap.size, 0, none⟩) 0 c) (fun ρ hρ _ _ _ _ => ?_) hd (h w' ?_ r3)
  · simp [execOp, hρ _ _ hl, hρ _ _ hc, r1]
  · exact Own.of_row r2
end
end Rk
