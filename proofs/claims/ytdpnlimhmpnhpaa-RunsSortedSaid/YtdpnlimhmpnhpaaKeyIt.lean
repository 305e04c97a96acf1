/- The walk's own rules: an item of which only the key is said. -/
import Derived.Test.YtdpnlimhmpnhpaaInts
import Derived.Test.YtdpnlimhmpnhpaaItV
namespace Rk
open Go Go.RowKit Go.Proofs
section
variable {E : Env} {w : World} {t : TypeId} {x : Operand} {a : Int}
theorem OpV.keyIt (hx : evE E x = some (.int .i64 a)) : OpV Try.prog (.build 41 #[(0, x)]) t E w (itV (a, 0)) w :=
  OpV.build (parts := [(0, x)]) (ps := [(0, .int .i64 a)]) (by simp [evp, hx]) (by kernel_rfl)
section
variable {ops : Array Oper} {K : Env → World → Prop} {N d_ : Nat} {rest : List Oper} {pos : String} {after : Array Edge} {C : World → Prop} {R : Env → Prop}
theorem WL.keyIt  (h_ : WL Try.prog ops K N ((d_, (itV (a, 0))) :: E) rest w) (hx : evE E x = some (.int .i64 a) := by with_unfolding_all exact rfl) (hd_ : Nat.blt d_ N = true := by with_unfolding_all exact rfl) :
    WL Try.prog ops K N E (⟨some d_, .build 41 #[(0, x)], t, pos, after, none⟩ :: rest) w := WL.step (OpV.keyIt hx) hd_ h_
theorem QL.keyIt  (h_ : QL Try.prog ops C R N ((d_, (itV (a, 0))) :: E) rest) (hx : evE E x = some (.int .i64 a) := by with_unfolding_all exact rfl) (hd_ : Nat.blt d_ N = true := by with_unfolding_all exact rfl) :
    QL Try.prog ops C R N E (⟨some d_, .build 41 #[(0, x)], t, pos, after, none⟩ :: rest) := QL.step (fun _ _ => OpV.keyIt hx) hd_ h_
theorem RL.keyIt  (h_ : R ((d_, (itV (a, 0))) :: E)) (hx : evE E x = some (.int .i64 a) := by with_unfolding_all exact rfl) (hd_ : Nat.blt d_ N = true := by with_unfolding_all exact rfl) :
    RL Try.prog ops C R N E ⟨some d_, .build 41 #[(0, x)], t, pos, after, none⟩ := RL.step (fun _ _ => OpV.keyIt hx) hd_ h_
end
end
end Rk
