/- The walk's own rules: a region that draws its order, in which more than one operation may come next: every order is walked. What is known of the world (H) is kept by all that acts. -/
import Derived.Test.YthdiheblgmddhaaDoorOps
namespace Rk
open Go Go.RowKit

inductive Tr | fin | read (i : Nat) (t : Tr) | act (i : Nat) (t : Tr) | fork (i : Nat) (t : Tr) (j : Nat) (u : Tr) | fork3 (i : Nat) (t : Tr) (j : Nat) (u : Tr) (k : Nat) (v : Tr)
def Tr.depth : Tr → Nat
  | .fin => 0
  | .read _ t => t.depth + 1
  | .act _ t => t.depth + 1
  | .fork _ t _ _ => t.depth + 1
  | .fork3 _ t _ _ _ _ => t.depth + 1
def okTr (md : Region.Mode) (ops : Array Oper) : Tr → Array Bool → Bool
  | .fin, L => (Region.ready md ops L).isEmpty
  | .read i t, L => Region.free md ops L i && (Region.ready md ops L).contains i && okTr md ops t (L.setIfInBounds i true)
  | .act i t, L => (Region.ready md ops L == [i]) && okTr md ops t (L.setIfInBounds i true)
  | .fork i t j u, L => (Region.ready md ops L == [i, j]) && (t.depth == u.depth) && okTr md ops t (L.setIfInBounds i true) && okTr md ops u (L.setIfInBounds j true)
  | .fork3 i t j u k v, L => (Region.ready md ops L == [i, j, k]) && (t.depth == u.depth) && (t.depth == v.depth) && okTr md ops t (L.setIfInBounds i true) && okTr md ops u (L.setIfInBounds j true) && okTr md ops v (L.setIfInBounds k true)
def wpTr (P : Program) (ops : Array Oper) (H : World → Prop) (Q : Exit → Act → World → Prop) : Tr → Act → World → Prop
  | .fin, a, w => Q .normal a w
  | .read i t, a, w => ∃ o v, ops[i]? = some o ∧ YieldsIf P ops H o v a ∧ wpTr P ops H Q t (a.put o.dst v) w
  | .act i t, a, w => wpOp P ops Q i (fun a w => H w ∧ wpTr P ops H Q t a w) a w
  | .fork i t j u, a, w => wpOp P ops Q i (fun a w => H w ∧ wpTr P ops H Q t a w) a w ∧ wpOp P ops Q j (fun a w => H w ∧ wpTr P ops H Q u a w) a w
  | .fork3 i t j u k v, a, w => wpOp P ops Q i (fun a w => H w ∧ wpTr P ops H Q t a w) a w ∧ wpOp P ops Q j (fun a w => H w ∧ wpTr P ops H Q u a w) a w ∧ wpOp P ops Q k (fun a w => H w ∧ wpTr P ops H Q v a w) a w
section
variable {P : Program} {ops : Array Oper} {Q : Exit → Act → World → Prop} {md : Region.Mode} {H : World → Prop}
theorem wpAnyS_of_tr (hs : Region.noSelect ops = true) (hQ : ∀ c a b w, Q (.panic c) a w → Q (.panic c) b w) : ∀ (t : Tr) (L : Array Bool) (a : Act) (w : World), okTr md ops t L = true → H w →
    wpTr P ops H Q t a w → wpAnyS P md ops Q [] H t.depth L a w := by
  intro t
  induction t with
  | fin =>
    intro L a w hok _ h
    simp only [okTr, List.isEmpty_iff] at hok
    exact ⟨hok, h⟩
  | read i t ih =>
    intro L a w hok hH h
    simp only [okTr, Bool.and_eq_true] at hok
    obtain ⟨o, v, ho, hy, hr⟩ := h
    exact wpAnyS_read ho (Region.noSelect_spec hs) (fun c a w h => hQ c _ _ w h) (by simp) (fun x hx => by simp at hx) _ L a w (Region.free_spec ho hok.1.1) (by simpa using hok.1.2) hy
      (fun ⟨x, hx, _⟩ => by simp at hx) hH (ih _ _ w hok.2 hH hr)
  | act i t ih =>
    intro L a w hok hH h
    simp only [okTr, Bool.and_eq_true, beq_iff_eq] at hok
    refine ⟨fun h0 => absurd (hok.1.symm.trans h0) (by simp), fun j hj => ?_⟩
    rw [hok.1] at hj
    obtain rfl := List.mem_singleton.1 hj
    exact wpOp_mono (fun a' w' h3 => ⟨.inr h3.1, ih _ a' w' hok.2 h3.1 h3.2⟩) h
  | fork i t j u iht ihu =>
    intro L a w hok hH h
    simp only [okTr, Bool.and_eq_true, beq_iff_eq] at hok
    refine ⟨fun h0 => absurd (hok.1.1.1.symm.trans h0) (by simp), fun k hk => ?_⟩
    rw [hok.1.1.1] at hk
    simp only [List.mem_cons, List.not_mem_nil, or_false] at hk
    rcases hk with rfl | rfl
    · exact wpOp_mono (fun a' w' h3 => ⟨.inr h3.1, iht _ a' w' hok.1.2 h3.1 h3.2⟩) h.1
    · exact wpOp_mono (fun a' w' h3 => ⟨.inr h3.1, by have := ihu _ a' w' hok.2 h3.1 h3.2; rw [← hok.1.1.2] at this; exact this⟩) h.2
  | fork3 i t j u k v iht ihu ihv =>
    intro L a w hok hH h
    simp only [okTr, Bool.and_eq_true, beq_iff_eq] at hok
    refine ⟨fun h0 => absurd (hok.1.1.1.1.1.symm.trans h0) (by simp), fun k hk => ?_⟩
    rw [hok.1.1.1.1.1] at hk
    simp only [List.mem_cons, List.not_mem_nil, or_false] at hk
    rcases hk with rfl | rfl | rfl
    · exact wpOp_mono (fun a' w' h3 => ⟨.inr h3.1, iht _ a' w' hok.1.1.2 h3.1 h3.2⟩) h.1
    · exact wpOp_mono (fun a' w' h3 => ⟨.inr h3.1, by have := ihu _ a' w' hok.1.2 h3.1 h3.2; rw [← hok.1.1.1.1.2] at this; exact this⟩) h.2.1
    · exact wpOp_mono (fun a' w' h3 => ⟨.inr h3.1, by have := ihv _ a' w' hok.2 h3.1 h3.2; rw [← hok.1.1.1.2] at this; exact this⟩) h.2.2
end
/-- along every order, over what is known of the slots -/
def TL (P : Program) (ops : Array Oper) (H : World → Prop) (K : Env → World → Prop) (N : Nat) (E : Env) (t : Tr) (w : World) : Prop := ∀ a, Ag a N E → wpTr P ops H (Fin K N) t a w
section
variable {P : Program} {l : List Oper} {K : Env → World → Prop} {H : World → Prop} {N : Nat} {E : Env} {w : World} {t u s : Tr} {i j k : Nat} {o o1 o2 : Oper}
theorem TL.fin (h : K E w) : TL P l.toArray H K N E .fin w := fun _ ha => ⟨rfl, E, ha, h⟩
theorem TL.read (ho' : nthO l i = some o) (h : RL P l.toArray H (fun E' => TL P l.toArray H K N E' t w) N E o) : TL P l.toArray H K N E (.read i t) w := by
  have ho := nthO_get ho'
  intro a ha
  obtain ⟨v, hy, E', ha', hr⟩ := h a ha
  exact ⟨o, v, ho, hy, hr _ ha'⟩
theorem wpOp_of_WL {F : Act → World → Prop} {K' : Env → World → Prop} (ho' : nthO l i = some o) (hF : ∀ E' a' w', Ag a' N E' → K' E' w' → F a' w') (h : WL P l.toArray K' N E [o] w) : ∀ a, Ag a N E → wpOp P l.toArray (Fin K N) i F a w := by
  have ho := nthO_get ho'
  intro a ha
  have h1 := h a ha
  simp only [wpOp, ho]
  unfold wpList at h1
  have conv : ∀ a' w', wpList P l.toArray (Fin K' N) [] a' w' → F a' w' := by
    rintro a' w' ⟨_, E', ha', hr⟩
    exact hF _ _ _ ha' hr
  split
  · rename_i hw
    rw [if_pos hw] at h1
    rcases h1 with h1 | ⟨_, a1, w1, h1, _⟩
    · left
      have h2 := Oper.wp_mono conv h1
      unfold Oper.wp at h2 ⊢
      generalize (execOp a.eval o).run P w = res at *
      cases res with
      | ok n w' =>
        cases n <;> simp only [Oper.upon] at h2 ⊢ <;> first
          | exact h2
          | exact h2.mono fun e w'' he => by
              cases e with
              | returned v => exact he
              | panicked ch => exact absurd he.1 (by simp)
              | outgrown => obtain ⟨a1, w1, h, _⟩ := he; cases h
      | halt x w' =>
        cases x <;> simp only [Oper.upon] at h2 ⊢ <;> first
          | exact h2
          | exact absurd h2.1 (by simp)
    · cases h1
  · rename_i hw
    rw [if_neg hw] at h1
    exact conv _ _ h1
theorem TL.act (ho : nthO l i = some o) (h : WL P l.toArray (fun E' w' => H w' ∧ TL P l.toArray H K N E' t w') N E [o] w) : TL P l.toArray H K N E (.act i t) w :=
  wpOp_of_WL ho (fun _ _ _ ha h => ⟨h.1, h.2 _ ha⟩) h
theorem TL.fork (ho : nthO l i = some o) (ho1 : nthO l j = some o1) (h : WL P l.toArray (fun E' w' => H w' ∧ TL P l.toArray H K N E' t w') N E [o] w)
    (h1 : WL P l.toArray (fun E' w' => H w' ∧ TL P l.toArray H K N E' u w') N E [o1] w) : TL P l.toArray H K N E (.fork i t j u) w :=
  fun a ha => ⟨wpOp_of_WL ho (fun _ _ _ ha h => ⟨h.1, h.2 _ ha⟩) h a ha, wpOp_of_WL ho1 (fun _ _ _ ha h => ⟨h.1, h.2 _ ha⟩) h1 a ha⟩
theorem TL.fork3 (ho : nthO l i = some o) (ho1 : nthO l j = some o1) (ho2 : nthO l k = some o2) (h : WL P l.toArray (fun E' w' => H w' ∧ TL P l.toArray H K N E' t w') N E [o] w)
    (h1 : WL P l.toArray (fun E' w' => H w' ∧ TL P l.toArray H K N E' u w') N E [o1] w) (h2 : WL P l.toArray (fun E' w' => H w' ∧ TL P l.toArray H K N E' s w') N E [o2] w) : TL P l.toArray H K N E (.fork3 i t j u k s) w :=
  fun a ha => ⟨wpOp_of_WL ho (fun _ _ _ ha h => ⟨h.1, h.2 _ ha⟩) h a ha, wpOp_of_WL ho1 (fun _ _ _ ha h => ⟨h.1, h.2 _ ha⟩) h1 a ha, wpOp_of_WL ho2 (fun _ _ _ ha h => ⟨h.1, h.2 _ ha⟩) h2 a ha⟩
theorem TL.readA (h : RL P l.toArray H (fun E' => TL P l.toArray H K N E' t w) N E o) (ho' : nthO l i = some o := by with_unfolding_all exact rfl) : TL P l.toArray H K N E (.read i t) w := TL.read ho' h
/-- THE BEGINNING -/
theorem WC.tree {id : Nat} {l : List Oper} {Q : Exit → Act → World → Prop} (H : World → Prop) (t : Tr) (hm : P.follows .mixedOrders = true) (hs : Region.noSelect l.toArray = true) (hlen : t.depth = l.toArray.size)
    (hok : okTr .any l.toArray t (Array.replicate l.toArray.size false) = true) (hH : ∀ w', Below w.heap.size w w' → w'.heap = w.heap → H w')
    (h : ∀ K : Env → World → Prop, (∀ E w, WX Q .normal N E w → K E w) → ∀ w', Below w.heap.size w w' → w'.heap = w.heap → TL P l.toArray H K N E t w') : WC P Q N E (.region id l.toArray true) w := by
  intro a ha
  have hB : Below w.heap.size w { w with drawn := w.drawn + 1 } := ⟨rfl, rfl, rfl, Nat.le_refl _, fun _ _ => rfl⟩
  have h1 := h (fun E w => WX Q .normal N E w) (fun _ _ h => h) { w with drawn := w.drawn + 1 } hB rfl a ha
  have h2 := wpAnyS_of_tr (H := H) (Q := Fin (fun E w => WX Q .normal N E w) N) hs (fun c a b w h => absurd h.1 (by simp)) t _ a { w with drawn := w.drawn + 1 } hok (hH _ hB rfl) h1
  rw [hlen] at h2
  refine wp_mono (wp_region_any (id := id) (Q := Fin (fun E w => WX Q .normal N E w) N) hm (wpAny_of_S _ _ _ _ h2)) ?_
  rintro e a' w' ⟨rfl, E', ha', hK⟩
  exact hK a' ha'
end
end Rk
