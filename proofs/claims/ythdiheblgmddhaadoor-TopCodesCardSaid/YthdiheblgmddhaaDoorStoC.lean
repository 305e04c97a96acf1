/- The walk's own rule: one cell of an element stored. -/
import Derived.Test.YthdiheblgmddhaaDoorOwn
namespace Rk
open Go Go.RowKit
section
variable {P : Program} {ops : Array Oper} {K : Env → World → Prop} {N : Nat} {E : Env} {rest : List Oper} {w w' : World} {t : TypeId} {pos : String} {after : Array Edge}
  {x y : Operand} {v z : Value} {e e1 : TypeId} {k bytes : Nat} {α : Type} {enc : α → List Value} {f : Nat → α} {B g n cap : Nat}
/-- one cell of an element stored -/
theorem WL.storeC (hk : ∀ x, (enc x).length = k) (ty : Ty P e1 false 1 bytes z) {p i j : Nat} (hx : evE E x = some (.pointer (some ⟨g, p, none⟩))) (hp : p = i * k + j)
    (hy : evE E y = some v) (hv : v.cells = #[v]) (hv1 : v.oneCell' = true) (ho : OwnS enc k e w B g n cap f) (hi : i < n) (hj : j < k) {a : α} (ha : ∀ q, (enc a)[q]? = if q = j then some v else (enc (f i))[q]?)
    (h : ∀ w', w.grownBy w' (some g) → OwnS enc k e w' B g n cap (fun q => if q = i then a else f q) → w'.heap.size = w.heap.size → WL P ops K N E rest w') :
    WL P ops K N E (⟨none, .store e1 x y, t, pos, after, none⟩ :: rest) w := by
  subst hp
  obtain ⟨cur, hb, hl, hc⟩ := ho.blk
  have hfit : i * k + k ≤ cap * k := by
    have := Nat.mul_le_mul_right k (show i + 1 ≤ cap from by have := ho.le; omega)
    rw [Nat.add_mul, Nat.one_mul] at this; exact this
  refine WL.store ty hx hy (by rw [hv]; rfl) (by rw [hv]; intro u hu; simp at hu; subst hu; exact hv1) hb (by omega) fun w' hg hb' hz => h w' hg ?_ hz
  rw [hv] at hb'
  refine ⟨ho.base, ho.le, ho.max, _, hb', by rw [putAt_length, hl], fun i' hi' j' u hu => ?_⟩
  rw [putAt_get _ _ _ _ (by show i * k + j + 1 ≤ _; omega)]
  have hj' : j' < k := by
    rcases Nat.lt_or_ge j' k with hj | hj
    · exact hj
    · rw [List.getElem?_eq_none (by rw [hk]; exact hj)] at hu; cases hu
  by_cases e : i' = i
  · subst e
    rw [if_pos rfl, ha] at hu
    by_cases e2 : j' = j
    · subst e2
      rw [if_pos rfl] at hu
      rw [if_pos (by show _ ∧ _ < i' * k + j' + 1; omega), Nat.sub_self]
      exact hu
    · rw [if_neg e2] at hu
      rw [if_neg (by show ¬ (_ ∧ _ < i' * k + j + 1); omega), hc i' hi' j' u hu]
  · rw [if_neg e] at hu
    rw [if_neg, hc i' hi' j' u hu]
    show ¬ (_ ∧ _ < i * k + j + 1)
    rcases Nat.lt_or_gt_of_ne e with hlt | hgt
    · have := Nat.mul_le_mul_right k (show i' + 1 ≤ i from hlt)
      rw [Nat.add_mul, Nat.one_mul] at this
      omega
    · have := Nat.mul_le_mul_right k (show i + 1 ≤ i' from hgt)
      rw [Nat.add_mul, Nat.one_mul] at this
      omega
end
end Rk
