/- The walk's own rules: make of a slice of n zero values, of one cell each. -/
import Derived.Test.YthdiheblgmddhaaDoorMake
import Derived.Deep.OwnRows
namespace Rk
open Go Go.RowKit
section
variable {P : Program} {ops : Array Oper} {K : Env → World → Prop} {N d : Nat} {E : Env} {w : World} {rest : List Oper} {st e : TypeId} {bytes : Nat} {z : Value} {t : TypeId} {pos : String} {after : Array Edge} {lo ca : Operand}
/-- make([]T, n) -/
theorem WL.makeN {α : Type} (enc : α → List Value) (a0 : α) {kl kc : IntKind} {n : Nat} (ht : P.underlying st = some (.slice e)) (ty : Ty P e false 1 bytes z) (hz1 : z.cells = #[z]) (he : enc a0 = [z]) (hd : Nat.blt d N = true) (hl : evE E lo = some (.int kl (n : Int))) (hc : evE E ca = some (.int kc (n : Int)))
    (hb : bytes * n ≤ 281474976710656) (hm : n ≤ maxLen)
    (h : ∀ w', OwnS enc 1 e w' w.heap.size w.heap.size n n (fun _ => a0) → w.grownBy w' none → w'.heap.size = w.heap.size + 1 → WL P ops K N ((d, .slice (some ⟨w.heap.size, 0, none⟩) n n) :: E) rest w') :
    WL P ops K N E (⟨some d, .makeSlice st lo ca, t, pos, after, none⟩ :: rest) w := by
  obtain ⟨i, hi, hz, hsz, hbb⟩ := ty.info
  have hr := run_make_row (P := P) st e i z ht hi hz hsz hz1 kl kc n (by rw [hbb]; exact hb) (by unfold maxLen at hm; omega) w
  refine WL.step (w' := w.alloc (.cells (madeCells #[z] n) e)) (v := .slice (some ⟨w.heap.size, 0, none⟩) n n) (fun ρ hρ _ _ _ _ => ?_) hd (h _ ⟨Nat.le_refl _, Nat.le_refl _, hm, _, heap_alloc_new' w _ _, ?_, fun i hi j u hu => ?_⟩ (World.grownBy_alloc w _ none) (by simp))
  · simp [execOp, hρ _ _ hl, hρ _ _ hc, hr]
  · rw [Array.length_toList, size_madeCells, Nat.mul_one]
  · rw [he] at hu
    have hj : j = 0 := by
      rcases Nat.lt_or_ge j 1 with h | h
      · omega
      · rw [List.getElem?_eq_none (by simpa using h)] at hu; cases hu
    subst hj
    rw [toList_madeCells_one, Nat.mul_one, Nat.add_zero, List.getElem?_replicate, if_pos hi]
    simpa using hu
end
end Rk
