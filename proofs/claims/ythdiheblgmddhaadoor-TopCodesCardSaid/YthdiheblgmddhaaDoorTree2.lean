/- The walk's own rules: a region that draws its order: every order is walked; what reads, reads while H holds; what ends H (xs) is waited for by nothing that reads. -/
import Derived.Test.YthdiheblgmddhaaDoorTree
namespace Rk
open Go Go.RowKit

inductive Tm | fin | pure (i : Nat) (t : Tm) | read (i : Nat) (t : Tm) | act (i : Nat) (t : Tm) | last (i : Nat) (t : Tm) | fork (i : Nat) (t : Tm) (j : Nat) (u : Tm)
def Tm.depth : Tm → Nat
  | .fin => 0
  | .pure _ t => t.depth + 1
  | .read _ t => t.depth + 1
  | .act _ t => t.depth + 1
  | .last _ t => t.depth + 1
  | .fork _ t _ _ => t.depth + 1
def okTm (md : Region.Mode) (ops : Array Oper) (xs : List Nat) : Tm → Array Bool → Bool
  | .fin, L => (Region.ready md ops L).isEmpty
  | .pure i t, L => Region.free md ops L i && (Region.ready md ops L).contains i && !xs.contains i && okTm md ops xs t (L.setIfInBounds i true)
  | .read i t, L => Region.free md ops L i && (Region.ready md ops L).contains i && !xs.contains i && (xs.all fun x => waitsB md ops x i && !L.getD x false) && okTm md ops xs t (L.setIfInBounds i true)
  | .act i t, L => (Region.ready md ops L == [i]) && okTm md ops xs t (L.setIfInBounds i true)
  | .last i t, L => (Region.ready md ops L == [i]) && xs.contains i && decide (i < L.size) && okTm md ops xs t (L.setIfInBounds i true)
  | .fork i t j u, L => (Region.ready md ops L == [i, j]) && (t.depth == u.depth) && okTm md ops xs t (L.setIfInBounds i true) && okTm md ops xs u (L.setIfInBounds j true)
def wpTm (P : Program) (ops : Array Oper) (H : World → Prop) (Q : Exit → Act → World → Prop) : Tm → Act → World → Prop
  | .fin, a, w => Q .normal a w
  | .pure i t, a, w => ∃ o v, ops[i]? = some o ∧ YieldsIf P ops (fun _ => True) o v a ∧ wpTm P ops H Q t (a.put o.dst v) w
  | .read i t, a, w => ∃ o v, ops[i]? = some o ∧ H w ∧ YieldsIf P ops H o v a ∧ wpTm P ops H Q t (a.put o.dst v) w
  | .act i t, a, w => wpOp P ops Q i (fun a w => H w ∧ wpTm P ops H Q t a w) a w
  | .last i t, a, w => wpOp P ops Q i (fun a w => wpTm P ops H Q t a w) a w
  | .fork i t j u, a, w => wpOp P ops Q i (fun a w => H w ∧ wpTm P ops H Q t a w) a w ∧ wpOp P ops Q j (fun a w => H w ∧ wpTm P ops H Q u a w) a w
section
variable {P : Program} {ops : Array Oper} {Q : Exit → Act → World → Prop} {md : Region.Mode} {H : World → Prop} {xs : List Nat}
theorem wpAnyS_of_tm (hs : Region.noSelect ops = true) (hQ : ∀ c a b w, Q (.panic c) a w → Q (.panic c) b w) : ∀ (t : Tm) (L : Array Bool) (a : Act) (w : World), okTm md ops xs t L = true → (acted xs L ∨ H w) →
    wpTm P ops H Q t a w → wpAnyS P md ops Q xs H t.depth L a w := by
  intro t
  induction t with
  | fin =>
    intro L a w hok _ h
    simp only [okTm, List.isEmpty_iff] at hok
    exact ⟨hok, h⟩
  | pure i t ih =>
    intro L a w hok hS h
    simp only [okTm, Bool.and_eq_true] at hok
    obtain ⟨o, v, ho, hy, hr⟩ := h
    have hix : i ∉ xs := by simpa using hok.1.2
    exact wpAnyS_pure ho (Region.noSelect_spec hs) (fun c a w h => hQ c _ _ w h) hix _ L a w (Region.free_spec ho hok.1.1.1) (by simpa using hok.1.1.2) hy hS
      (ih _ _ w hok.2 (hS.imp (fun ⟨x, hx, hl⟩ => ⟨x, hx, getD_set_true hl⟩) id) hr)
  | read i t ih =>
    intro L a w hok hS h
    simp only [okTm, Bool.and_eq_true] at hok
    obtain ⟨o, v, ho, hH, hy, hr⟩ := h
    have hix : i ∉ xs := by simpa using hok.1.1.2
    have hall := List.all_eq_true.1 hok.1.2
    have hna : ¬ acted xs L := by
      rintro ⟨x, hx, hl⟩
      have := hall x hx
      simp only [Bool.and_eq_true, Bool.not_eq_true'] at this
      rw [this.2] at hl; cases hl
    refine wpAnyS_read ho (Region.noSelect_spec hs) (fun c a w h => hQ c _ _ w h) hix (fun x hx ox hox => ?_) _ L a w (Region.free_spec ho hok.1.1.1.1) (by simpa using hok.1.1.1.2) hy hna hH
      (ih _ _ w hok.2 (.inr hH) hr)
    have := hall x hx
    simp only [Bool.and_eq_true] at this
    have hw := this.1
    simp only [waitsB, hox] at hw
    obtain ⟨e, he, hb⟩ := Array.any_eq_true'.1 hw
    simp only [Bool.and_eq_true, beq_iff_eq] at hb
    exact ⟨e, he, hb.1, hb.2⟩
  | act i t ih =>
    intro L a w hok hH h
    simp only [okTm, Bool.and_eq_true, beq_iff_eq] at hok
    refine ⟨fun h0 => absurd (hok.1.symm.trans h0) (by simp), fun j hj => ?_⟩
    rw [hok.1] at hj
    obtain rfl := List.mem_singleton.1 hj
    exact wpOp_mono (fun a' w' h3 => ⟨.inr h3.1, ih _ a' w' hok.2 (.inr h3.1) h3.2⟩) h
  | last i t ih =>
    intro L a w hok hH h
    simp only [okTm, Bool.and_eq_true, beq_iff_eq, decide_eq_true_eq] at hok
    refine ⟨fun h0 => absurd (hok.1.1.1.symm.trans h0) (by simp), fun j hj => ?_⟩
    rw [hok.1.1.1] at hj
    obtain rfl := List.mem_singleton.1 hj
    have hx : j ∈ xs := by simpa using hok.1.1.2
    have hact : acted xs (L.setIfInBounds j true) := ⟨j, hx, by simp [hok.1.2]⟩
    exact wpOp_mono (fun a' w' h3 => ⟨.inl hact, ih _ a' w' hok.2 (.inl hact) h3⟩) h
  | fork i t j u iht ihu =>
    intro L a w hok hH h
    simp only [okTm, Bool.and_eq_true, beq_iff_eq] at hok
    refine ⟨fun h0 => absurd (hok.1.1.1.symm.trans h0) (by simp), fun k hk => ?_⟩
    rw [hok.1.1.1] at hk
    simp only [List.mem_cons, List.not_mem_nil, or_false] at hk
    rcases hk with rfl | rfl
    · exact wpOp_mono (fun a' w' h3 => ⟨.inr h3.1, iht _ a' w' hok.1.2 (.inr h3.1) h3.2⟩) h.1
    · exact wpOp_mono (fun a' w' h3 => ⟨.inr h3.1, by have := ihu _ a' w' hok.2 (.inr h3.1) h3.2; rw [← hok.1.1.2] at this; exact this⟩) h.2
end
/-- along every order, over what is known of the slots -/
def TM (P : Program) (ops : Array Oper) (H : World → Prop) (K : Env → World → Prop) (N : Nat) (E : Env) (t : Tm) (w : World) : Prop := ∀ a, Ag a N E → wpTm P ops H (Fin K N) t a w
section
variable {P : Program} {l : List Oper} {K : Env → World → Prop} {H : World → Prop} {N : Nat} {E : Env} {w : World} {t u : Tm} {i j : Nat} {o o1 : Oper}
theorem TM.fin (h : K E w) : TM P l.toArray H K N E .fin w := fun _ ha => ⟨rfl, E, ha, h⟩
theorem TM.pure (ho' : nthO l i = some o) (h : RL P l.toArray (fun _ => True) (fun E' => TM P l.toArray H K N E' t w) N E o) : TM P l.toArray H K N E (.pure i t) w := by
  have ho := nthO_get ho'
  intro a ha
  obtain ⟨v, hy, E', ha', hr⟩ := h a ha
  exact ⟨o, v, ho, hy, hr _ ha'⟩
theorem TM.read (hH : H w) (ho' : nthO l i = some o) (h : RL P l.toArray H (fun E' => TM P l.toArray H K N E' t w) N E o) : TM P l.toArray H K N E (.read i t) w := by
  have ho := nthO_get ho'
  intro a ha
  obtain ⟨v, hy, E', ha', hr⟩ := h a ha
  exact ⟨o, v, ho, hH, hy, hr _ ha'⟩
theorem TM.act (ho : nthO l i = some o) (h : WL P l.toArray (fun E' w' => H w' ∧ TM P l.toArray H K N E' t w') N E [o] w) : TM P l.toArray H K N E (.act i t) w :=
  wpOp_of_WL ho (fun _ _ _ ha h => ⟨h.1, h.2 _ ha⟩) h
theorem TM.last (ho : nthO l i = some o) (h : WL P l.toArray (fun E' w' => TM P l.toArray H K N E' t w') N E [o] w) : TM P l.toArray H K N E (.last i t) w :=
  wpOp_of_WL ho (fun _ _ _ ha h => h _ ha) h
theorem TM.fork (ho : nthO l i = some o) (ho1 : nthO l j = some o1) (h : WL P l.toArray (fun E' w' => H w' ∧ TM P l.toArray H K N E' t w') N E [o] w)
    (h1 : WL P l.toArray (fun E' w' => H w' ∧ TM P l.toArray H K N E' u w') N E [o1] w) : TM P l.toArray H K N E (.fork i t j u) w :=
  fun a ha => ⟨wpOp_of_WL ho (fun _ _ _ ha h => ⟨h.1, h.2 _ ha⟩) h a ha, wpOp_of_WL ho1 (fun _ _ _ ha h => ⟨h.1, h.2 _ ha⟩) h1 a ha⟩
theorem TM.pureA (h : RL P l.toArray (fun _ => True) (fun E' => TM P l.toArray H K N E' t w) N E o) (ho' : nthO l i = some o := by with_unfolding_all exact rfl) : TM P l.toArray H K N E (.pure i t) w := TM.pure ho' h
theorem TM.readA (h : RL P l.toArray H (fun E' => TM P l.toArray H K N E' t w) N E o) (hH : H w := by first | assumption | rfl) (ho' : nthO l i = some o := by with_unfolding_all exact rfl) : TM P l.toArray H K N E (.read i t) w := TM.read hH ho' h
theorem TM.actA (h : WL P l.toArray (fun E' w' => H w' ∧ TM P l.toArray H K N E' t w') N E [o] w) (ho : nthO l i = some o := by with_unfolding_all exact rfl) : TM P l.toArray H K N E (.act i t) w := TM.act ho h
theorem TM.lastA (h : WL P l.toArray (fun E' w' => TM P l.toArray H K N E' t w') N E [o] w) (ho : nthO l i = some o := by with_unfolding_all exact rfl) : TM P l.toArray H K N E (.last i t) w := TM.last ho h
/-- THE BEGINNING -/
theorem WC.tm {id : Nat} {l : List Oper} {Q : Exit → Act → World → Prop} (H : World → Prop) (xs : List Nat) (t : Tm) (hm : P.follows .mixedOrders = true) (hs : Region.noSelect l.toArray = true) (hlen : t.depth = l.toArray.size)
    (hok : okTm .any l.toArray xs t (Array.replicate l.toArray.size false) = true) (hH : ∀ w', Below w.heap.size w w' → w'.heap = w.heap → H w')
    (h : ∀ K : Env → World → Prop, (∀ E w, WX Q .normal N E w → K E w) → ∀ w', Below w.heap.size w w' → w'.heap = w.heap → TM P l.toArray H K N E t w') : WC P Q N E (.region id l.toArray true) w := by
  intro a ha
  have hB : Below w.heap.size w { w with drawn := w.drawn + 1 } := ⟨rfl, rfl, rfl, Nat.le_refl _, fun _ _ => rfl⟩
  have h1 := h (fun E w => WX Q .normal N E w) (fun _ _ h => h) { w with drawn := w.drawn + 1 } hB rfl a ha
  have h2 := wpAnyS_of_tm (H := H) (Q := Fin (fun E w => WX Q .normal N E w) N) hs (fun c a b w h => absurd h.1 (by simp)) t _ a { w with drawn := w.drawn + 1 } hok (.inr (hH _ hB rfl)) h1
  rw [hlen] at h2
  refine wp_mono (wp_region_any (id := id) (Q := Fin (fun E w => WX Q .normal N E w) N) hm (wpAny_of_S _ _ _ _ h2)) ?_
  rintro e a' w' ⟨rfl, E', ha', hK⟩
  exact hK a' ha'
end
end Rk
