/- The walk's own rules, shorter: slices of numbers that lie in cells. -/
import Derived.Test.YtifkfbcckkakgaaDoorCell
import Derived.Test.YtifkfbcckkakgaaDoorInts
namespace Rk
open Go Go.RowKit Go.Proofs
abbrev Sl := Option Addr × Nat × Nat
abbrev slV (u : Sl) : Value := .slice u.1 u.2.1 u.2.2
def encS (u : Sl) : List Value := [slV u]
theorem encS_len (u : Sl) : (encS u).length = 1 := rfl
theorem encS_one (u : Sl) : ∀ x ∈ encS u, x.oneCell' = true := by simp [encS, Value.oneCell']
theorem tyInts : Ty Tryd.prog 22 false 1 24 (.slice none 0 0) := Ty.mk' (by kernel_rfl) (fun _ => by kernel_rfl) rfl
section
variable {ops : Array Oper} {K : Env → World → Prop} {R : Env → Prop} {N : Nat} {E : Env} {rest : List Oper} {w : World} {t : TypeId} {pos : String} {after : Array Edge} {d : Nat} {x : Operand} {g j : Nat} {te : TypeId} {cs : List Value} {u : Value}
theorem WL.ldCS (h : WL Tryd.prog ops K N ((d, u) :: E) rest w) (hx : evE E x = some (.pointer (some ⟨g, j, none⟩)) := by with_unfolding_all exact rfl) (hb : Bk w g te cs := by assumption) (hu : cs[j]? = some u := by with_unfolding_all exact rfl) (hd : Nat.blt d N = true := by with_unfolding_all exact rfl) : WL Tryd.prog ops K N E (⟨some d, .load 22 x, t, pos, after, none⟩ :: rest) w := WL.step (OpV.load1 tyInts hx (hb.cell hu)) hd h
theorem QL.ldCS (h : QL Tryd.prog ops (fun w' => Below w.heap.size w w') R N ((d, u) :: E) rest) (hx : evE E x = some (.pointer (some ⟨g, j, none⟩)) := by with_unfolding_all exact rfl) (hb : Bk w g te cs := by assumption) (hu : cs[j]? = some u := by with_unfolding_all exact rfl) (hd : Nat.blt d N = true := by with_unfolding_all exact rfl) : QL Tryd.prog ops (fun w' => Below w.heap.size w w') R N E (⟨some d, .load 22 x, t, pos, after, none⟩ :: rest) := QL.step (fun _ hw => OpV.load1 tyInts hx ((hb.below hw).cell hu)) hd h
theorem RL.ldCSB (h : R ((d, u) :: E)) (hx : evE E x = some (.pointer (some ⟨g, j, none⟩)) := by with_unfolding_all exact rfl) (hb : Bk w g te cs := by assumption) (hu : cs[j]? = some u := by with_unfolding_all exact rfl) (hd : Nat.blt d N = true := by with_unfolding_all exact rfl) : RL Tryd.prog ops (fun w' => Below w.heap.size w w') R N E ⟨some d, .load 22 x, t, pos, after, none⟩ := RL.step (fun _ hw => OpV.load1 tyInts hx ((hb.below hw).cell hu)) hd h
theorem RL.ldCSH (h : R ((d, u) :: E)) (hx : evE E x = some (.pointer (some ⟨g, j, none⟩)) := by with_unfolding_all exact rfl) (hb : Bk w g te cs := by assumption) (hu : cs[j]? = some u := by with_unfolding_all exact rfl) (hd : Nat.blt d N = true := by with_unfolding_all exact rfl) : RL Tryd.prog ops (fun w' => w'.heap = w.heap) R N E ⟨some d, .load 22 x, t, pos, after, none⟩ := RL.step (fun _ hw => OpV.load1 tyInts hx ((hb.heap hw).cell hu)) hd h
end
section
variable {ops : Array Oper} {K : Env → World → Prop} {R : Env → Prop} {N : Nat} {E : Env} {rest : List Oper} {w : World} {t : TypeId} {pos : String} {after : Array Edge} {d : Nat} {x : Operand} {b o i n : Nat} {f : Nat → Sl}
theorem WL.ldES (h : WL Tryd.prog ops K N ((d, slV (f i)) :: E) rest w) (hx : evE E x = some (.pointer (some ⟨b, o + i * 1, none⟩)) := by with_unfolding_all exact rfl) (hr : RowOf encS 1 w (some ⟨b, o, none⟩) n f := by first | assumption | exact OwnS.toRow (by assumption)) (hi : i < n := by omega) (hd : Nat.blt d N = true := by with_unfolding_all exact rfl) : WL Tryd.prog ops K N E (⟨some d, .load 22 x, t, pos, after, none⟩ :: rest) w := WL.step (OpV.load1 tyInts hx (hr.get hi 0 _ rfl)) hd h
theorem QL.ldES (h : QL Tryd.prog ops (fun w' => Below w.heap.size w w') R N ((d, slV (f i)) :: E) rest) (hx : evE E x = some (.pointer (some ⟨b, o + i * 1, none⟩)) := by with_unfolding_all exact rfl) (hr : RowOf encS 1 w (some ⟨b, o, none⟩) n f := by first | assumption | exact OwnS.toRow (by assumption)) (hi : i < n := by omega) (hd : Nat.blt d N = true := by with_unfolding_all exact rfl) : QL Tryd.prog ops (fun w' => Below w.heap.size w w') R N E (⟨some d, .load 22 x, t, pos, after, none⟩ :: rest) := QL.step (fun _ hw => (OpV.load1 tyInts hx ((hr.below hw).get hi 0 _ rfl))) hd h
theorem RL.ldESB (h : R ((d, slV (f i)) :: E)) (hx : evE E x = some (.pointer (some ⟨b, o + i * 1, none⟩)) := by with_unfolding_all exact rfl) (hr : RowOf encS 1 w (some ⟨b, o, none⟩) n f := by first | assumption | exact OwnS.toRow (by assumption)) (hi : i < n := by omega) (hd : Nat.blt d N = true := by with_unfolding_all exact rfl) : RL Tryd.prog ops (fun w' => Below w.heap.size w w') R N E ⟨some d, .load 22 x, t, pos, after, none⟩ := RL.step (fun _ hw => (OpV.load1 tyInts hx ((hr.below hw).get hi 0 _ rfl))) hd h
theorem RL.ldESH (h : R ((d, slV (f i)) :: E)) (hx : evE E x = some (.pointer (some ⟨b, o + i * 1, none⟩)) := by with_unfolding_all exact rfl) (hr : RowOf encS 1 w (some ⟨b, o, none⟩) n f := by first | assumption | exact OwnS.toRow (by assumption)) (hi : i < n := by omega) (hd : Nat.blt d N = true := by with_unfolding_all exact rfl) : RL Tryd.prog ops (fun w' => w'.heap = w.heap) R N E ⟨some d, .load 22 x, t, pos, after, none⟩ := RL.step (fun _ hw => (OpV.load1 tyInts hx ((hr.heap hw).get hi 0 _ rfl))) hd h
end
end Rk
