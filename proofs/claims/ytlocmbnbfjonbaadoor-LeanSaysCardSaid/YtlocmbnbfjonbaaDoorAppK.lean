/- The walk's own rules: append to an own slice: the old elements stay where they lay. -/
import Derived.Test.YtlocmbnbfjonbaaDoorEx
import Derived.Deep.DeepAppendRoom
namespace Rk
open Go Go.RowKit
section
variable {α : Type} [Inhabited α] {enc : α → List Value} {k n : Nat} {e st t : TypeId} {agg : Bool} {bytes : Nat} {z : Value} {P : Program} {ops : Array Oper} {K : Env → World → Prop} {N : Nat} {E : Env} {rest : List Oper} {w : World} {s x : Operand} {d : Nat} {pos : String} {after : Array Edge}
  {A : Option Addr} {B g cap m c : Nat} {f f0 : Nat → α}
theorem WL.appendK (hk : ∀ x, (enc x).length = k) (h1 : ∀ x, ∀ u ∈ enc x, u.oneCell' = true) (hk0 : 0 < k) (ht : P.underlying st = some (.slice e)) (ty : Ty P e agg k bytes z) (hd : Nat.blt d N = true)
    (hs : evE E s = some (.slice (some ⟨g, 0, none⟩) n cap)) (hx : evE E x = some (.slice A m c)) (ho : OwnS enc k e w B g n cap f0) (hr : RowOf enc k w A m f) (hn : 0 < n) (hm : 0 < m) (hb : (n + m) * bytes ≤ 140737488355328) (hlen : n + m ≤ maxLen) (hB : B ≤ w.heap.size)
    (h : ∀ v' w' row, OwnL enc k e w' B v' (segL f0 n ++ segL f m) → w.grownBy w' row → (row = none ∨ row = some g) → (∀ g, row = some g → B ≤ g) → (v'.ownBlock = some g ∨ v'.ownBlock = some w.heap.size) → RowOf enc k w' (some ⟨g, 0, none⟩) n f0 → WL P ops K N ((d, v') :: E) rest w') :
    WL P ops K N E (⟨some d, .call { callee := .builtin .append, args := #[s, x], argTypes := #[st, st] }, t, pos, after, none⟩ :: rest) w := by
  have hrun : ∃ v' w', (Builtin.append_ #[st, st] t #[.slice (some ⟨g, 0, none⟩) n cap, .slice A m c]).run P w = .ok v' w' ∧ OwnL enc k e w' B v' (segL f0 n ++ segL f m) ∧ w.grownBy w' (some g) ∧ (v'.ownBlock = some g ∨ v'.ownBlock = some w.heap.size) ∧ RowOf enc k w' (some ⟨g, 0, none⟩) n f0 := by
    obtain ⟨i, hi, hz, hsz, hbb⟩ := ty.info
    obtain ⟨b, o, rfl, hbl, hcell⟩ := hr hm
    have hnews := RowOf.news hk hcell
    have hn1 : ∀ u ∈ (segL f m).flatMap enc, u.oneCell' = true := by
      intro u hu
      obtain ⟨x, _, hx⟩ := List.mem_flatMap.1 hu
      exact h1 x u hx
    have hfl : ((segL f m).flatMap enc).length = m * k := by rw [flat_length hk, segL_length]
    have hL := ho.toL hk
    have hrow : w.ownsRow B e k (.slice (some ⟨g, 0, none⟩) n cap) n ((segL f0 n).flatMap enc) := by
      have h0 := hL.1
      rw [segL_length] at h0
      refine ⟨h0, ?_⟩
      rcases hL.2 with ⟨A', h2, _⟩ | h2
      · injection h2 with _ h2 _; omega
      · rw [segL_length] at h2; exact .inr h2
    obtain ⟨v', w', r1, r2, r3, _, r5⟩ := run_append_own_at (P := P) w B st t e i z k bytes ht hi hz hsz hbb ty.zsz hk0 (.slice (some ⟨g, 0, none⟩) n cap) n _ hrow ⟨b, o, none⟩ m c _ hfl hnews hn1 hlen hb hB
    have hown : OwnL enc k e w' B v' (segL f0 n ++ segL f m) := by
      have := Own.of_row r2
      unfold OwnL
      rw [List.flatMap_append, List.length_append, segL_length, segL_length]; exact this
    refine ⟨v', w', r1, hown, r3, r5, ?_⟩
    by_cases hroom : n + m ≤ cap
    · obtain ⟨w2, q1, q2, q3⟩ := run_append_own_spare (P := P) w B st t e i k ht hi hsz g n cap _ hrow ⟨b, o, none⟩ m c _ hfl hnews hn1 hroom
      rw [r1] at q1
      injection q1 with e1 e2
      subst e1 e2
      obtain ⟨_, _, hrow2⟩ := hown.toRow hk
      refine fun _ => ⟨g, 0, rfl, ?_, fun i hi j u hu => ?_⟩
      · obtain ⟨_, _, q4, q5, _⟩ := hrow2 (by omega)
        cases q4; exact q5
      · refine hrow2.get (i := i) (by omega) j u ?_
        rw [lf_get (by rw [List.length_append, segL_length]; omega), List.getElem_append_left (by rw [segL_length]; exact hi), segL_get]
        exact hu
    · have q1 := run_append_grow (P := P) w st t e i z ht hi hz ⟨g, 0, none⟩ n cap ((segL f0 n).flatMap enc) (by rw [flat_length hk, segL_length, hsz]) (hrow.cells (g := g) rfl) ⟨b, o, none⟩ m c ((segL f m).flatMap enc) (by rw [hfl, hsz]) hnews (by omega)
        (by simp only [maxLen] at hlen; omega) (Nat.le_trans (growslice_fits (by omega) (by rw [hbb]; exact hb)) (Nat.le_refl _))
      rw [r1] at q1
      injection q1 with e1 e2
      have hgn : w.grownBy w' none := by rw [e2]; exact ⟨rfl, rfl, rfl, by simp, fun k hk _ => Go.heap_alloc_old w.drew _ hk⟩
      exact (ho.keep hgn (by simp)).toRow
  obtain ⟨v', w', r1, r2, r3, r5, r6⟩ := hrun
  refine WL.step (w' := w') (v := v') (fun ρ hρ _ _ _ _ => ?_) hd (h v' w' (some g) r2 r3 (.inr rfl) (fun b hb => by cases hb; exact ho.base) r5 r6)
  simp [execOp, resolve, hρ _ _ hs, hρ _ _ hx, invoke, builtin, r1]
end
end Rk
