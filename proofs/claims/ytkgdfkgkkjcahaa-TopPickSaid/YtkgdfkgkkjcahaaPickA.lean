/- The walk's own rules: an array of three slices; four results. -/
import Derived.Test.YtkgdfkgkkjcahaaPick1
import Derived.Test.YtkgdfkgkkjcahaaClone
namespace Rk
open Go Go.RowKit Go.Proofs
section
variable {E : Env} {w : World} {t : TypeId} {x y : Operand} {bk o : Nat}
theorem OpV.arr_0 (hx : evE E x = some (.pointer (some ⟨bk, o, none⟩))) : OpV Try.prog (.indexAddr 46 x (.const (.int .i64 0))) t E w (.pointer (some ⟨bk, o + 0, none⟩)) w := OpV.arrAddr (j := 0) hx rfl (by omega)
theorem OpV.arr_1 (hx : evE E x = some (.pointer (some ⟨bk, o, none⟩))) : OpV Try.prog (.indexAddr 46 x (.const (.int .i64 1))) t E w (.pointer (some ⟨bk, o + 1, none⟩)) w := OpV.arrAddr (j := 1) hx rfl (by omega)
theorem OpV.arr_2 (hx : evE E x = some (.pointer (some ⟨bk, o, none⟩))) : OpV Try.prog (.indexAddr 46 x (.const (.int .i64 2))) t E w (.pointer (some ⟨bk, o + 2, none⟩)) w := OpV.arrAddr (j := 2) hx rfl (by omega)
section
variable {ops : Array Oper} {K : Env → World → Prop} {N d_ : Nat} {rest : List Oper} {pos : String} {after : Array Edge} {C : World → Prop} {R : Env → Prop}
theorem WL.arr_0  (h_ : WL Try.prog ops K N ((d_, (.pointer (some ⟨bk, o + 0, none⟩))) :: E) rest w) (hx : evE E x = some (.pointer (some ⟨bk, o, none⟩)) := by with_unfolding_all exact rfl) (hd_ : Nat.blt d_ N = true := by with_unfolding_all exact rfl) :
    WL Try.prog ops K N E (⟨some d_, .indexAddr 46 x (.const (.int .i64 0)), t, pos, after, none⟩ :: rest) w := WL.step (OpV.arr_0 hx) hd_ h_
theorem QL.arr_0  (h_ : QL Try.prog ops C R N ((d_, (.pointer (some ⟨bk, o + 0, none⟩))) :: E) rest) (hx : evE E x = some (.pointer (some ⟨bk, o, none⟩)) := by with_unfolding_all exact rfl) (hd_ : Nat.blt d_ N = true := by with_unfolding_all exact rfl) :
    QL Try.prog ops C R N E (⟨some d_, .indexAddr 46 x (.const (.int .i64 0)), t, pos, after, none⟩ :: rest) := QL.step (fun _ _ => OpV.arr_0 hx) hd_ h_
theorem RL.arr_0  (h_ : R ((d_, (.pointer (some ⟨bk, o + 0, none⟩))) :: E)) (hx : evE E x = some (.pointer (some ⟨bk, o, none⟩)) := by with_unfolding_all exact rfl) (hd_ : Nat.blt d_ N = true := by with_unfolding_all exact rfl) :
    RL Try.prog ops C R N E ⟨some d_, .indexAddr 46 x (.const (.int .i64 0)), t, pos, after, none⟩ := RL.step (fun _ _ => OpV.arr_0 hx) hd_ h_
theorem WL.arr_1  (h_ : WL Try.prog ops K N ((d_, (.pointer (some ⟨bk, o + 1, none⟩))) :: E) rest w) (hx : evE E x = some (.pointer (some ⟨bk, o, none⟩)) := by with_unfolding_all exact rfl) (hd_ : Nat.blt d_ N = true := by with_unfolding_all exact rfl) :
    WL Try.prog ops K N E (⟨some d_, .indexAddr 46 x (.const (.int .i64 1)), t, pos, after, none⟩ :: rest) w := WL.step (OpV.arr_1 hx) hd_ h_
theorem QL.arr_1  (h_ : QL Try.prog ops C R N ((d_, (.pointer (some ⟨bk, o + 1, none⟩))) :: E) rest) (hx : evE E x = some (.pointer (some ⟨bk, o, none⟩)) := by with_unfolding_all exact rfl) (hd_ : Nat.blt d_ N = true := by with_unfolding_all exact rfl) :
    QL Try.prog ops C R N E (⟨some d_, .indexAddr 46 x (.const (.int .i64 1)), t, pos, after, none⟩ :: rest) := QL.step (fun _ _ => OpV.arr_1 hx) hd_ h_
theorem RL.arr_1  (h_ : R ((d_, (.pointer (some ⟨bk, o + 1, none⟩))) :: E)) (hx : evE E x = some (.pointer (some ⟨bk, o, none⟩)) := by with_unfolding_all exact rfl) (hd_ : Nat.blt d_ N = true := by with_unfolding_all exact rfl) :
    RL Try.prog ops C R N E ⟨some d_, .indexAddr 46 x (.const (.int .i64 1)), t, pos, after, none⟩ := RL.step (fun _ _ => OpV.arr_1 hx) hd_ h_
theorem WL.arr_2  (h_ : WL Try.prog ops K N ((d_, (.pointer (some ⟨bk, o + 2, none⟩))) :: E) rest w) (hx : evE E x = some (.pointer (some ⟨bk, o, none⟩)) := by with_unfolding_all exact rfl) (hd_ : Nat.blt d_ N = true := by with_unfolding_all exact rfl) :
    WL Try.prog ops K N E (⟨some d_, .indexAddr 46 x (.const (.int .i64 2)), t, pos, after, none⟩ :: rest) w := WL.step (OpV.arr_2 hx) hd_ h_
theorem QL.arr_2  (h_ : QL Try.prog ops C R N ((d_, (.pointer (some ⟨bk, o + 2, none⟩))) :: E) rest) (hx : evE E x = some (.pointer (some ⟨bk, o, none⟩)) := by with_unfolding_all exact rfl) (hd_ : Nat.blt d_ N = true := by with_unfolding_all exact rfl) :
    QL Try.prog ops C R N E (⟨some d_, .indexAddr 46 x (.const (.int .i64 2)), t, pos, after, none⟩ :: rest) := QL.step (fun _ _ => OpV.arr_2 hx) hd_ h_
theorem RL.arr_2  (h_ : R ((d_, (.pointer (some ⟨bk, o + 2, none⟩))) :: E)) (hx : evE E x = some (.pointer (some ⟨bk, o, none⟩)) := by with_unfolding_all exact rfl) (hd_ : Nat.blt d_ N = true := by with_unfolding_all exact rfl) :
    RL Try.prog ops C R N E ⟨some d_, .indexAddr 46 x (.const (.int .i64 2)), t, pos, after, none⟩ := RL.step (fun _ _ => OpV.arr_2 hx) hd_ h_
end
end
theorem WX.ret4 {P : Program} {N : Nat} {E : Env} {w : World} {fn : Func} {S : Value → World → Prop} {s1 s2 s3 s4 : Nat} {v1 v2 v3 v4 : Value} (hr : fn.results = #[.tmp s1, .tmp s2, .tmp s3, .tmp s4]) (h1 : look E s1 = some v1) (h2 : look E s2 = some v2) (h3 : look E s3 = some v3) (h4 : look E s4 = some v4) (h : S (.tuple #[v1, v2, v3, v4]) w) : WX (bodyPost P fn (Ret S)) .ret N E w := by
  intro a ha
  have e : (results fn a.tmps).run P w = .ok (.tuple #[v1, v2, v3, v4]) w := by simp [results, hr, ha.at_ _ _ h1, ha.at_ _ _ h2, ha.at_ _ _ h3, ha.at_ _ _ h4]
  exact bodyPost_ret e ha.defers h
attribute [local irreducible] OpV OpU OpC WL QL WC WX OL RL TL TM
end Rk
