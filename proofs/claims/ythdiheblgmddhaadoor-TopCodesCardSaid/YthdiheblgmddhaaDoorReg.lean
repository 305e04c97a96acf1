/- The walk's own rules: a region that draws its order, writes, and reads what it writes: one order that serves every other. -/
import Derived.Test.YthdiheblgmddhaaDoorEng
import Derived.OrdersHeld
namespace Rk
open Go Go.RowKit

section
variable {P : Program} {ops : Array Oper} {Q : Exit → Act → World → Prop} {md : Region.Mode} {H : World → Prop} {xs : List Nat}

/-- one that acts has come up -/
def acted (xs : List Nat) (L : Array Bool) : Prop := ∃ x ∈ xs, L.getD x false = true
def wpAnyS (P : Program) (md : Region.Mode) (ops : Array Oper) (Q : Exit → Act → World → Prop) (xs : List Nat) (H : World → Prop) : Nat → Array Bool → Act → World → Prop
  | 0, L, a, w => Region.ready md ops L = [] ∧ Q .normal a w
  | fuel + 1, L, a, w =>
    (Region.ready md ops L = [] → Q .normal a w) ∧
    ∀ i ∈ Region.ready md ops L, wpOp P ops Q i (fun a' w' => (acted xs (L.setIfInBounds i true) ∨ H w') ∧ wpAnyS P md ops Q xs H fuel (L.setIfInBounds i true) a' w') a w
theorem wpAny_of_S : ∀ (fuel : Nat) (L : Array Bool) (a : Act) (w : World), wpAnyS P md ops Q xs H fuel L a w → wpAny P md ops Q fuel L a w
  | 0, _, _, _, h => h
  | fuel + 1, _, _, _, h => ⟨h.1, fun i hi => wpOp_mono (fun a' w' h' => wpAny_of_S fuel _ a' w' h'.2) (h.2 i hi)⟩
theorem acted_set {L : Array Bool} {i : Nat} (hi : i ∉ xs) (h : acted xs (L.setIfInBounds i true)) : acted xs L := by
  obtain ⟨x, hx, hl⟩ := h
  refine ⟨x, hx, ?_⟩
  by_cases e : i = x
  · subst e; exact absurd hx hi
  · rw [getD_set_ne false e] at hl; exact hl
theorem notready_of_wait {L : Array Bool} {i j : Nat} {oj : Oper} (hr : i ∈ Region.ready md ops L) (hj : j ∈ Region.ready md ops L) (hoj : ops[j]? = some oj) : ∀ e ∈ oj.after, Region.binds md e = true → e.on ≠ i := by
  intro e he hb heq
  obtain ⟨_, oj', hoj', hall⟩ := mem_ready.1 hj
  have : oj' = oj := Option.some.inj (hoj'.symm.trans hoj)
  subst this
  have h1 := hall e he hb
  have h0 := (mem_ready.1 hr).1
  rw [heq] at h1
  rcases Nat.lt_or_ge i L.size with h' | h'
  · simp [h'] at h0 h1; rw [h0] at h1; cases h1
  · simp [Array.getElem?_eq_none h'] at h1

/-- taken first: what yields in whatever world -/
theorem wpAnyS_pure {i : Nat} {oi : Oper} {v : Value} (hi : ops[i]? = some oi) (hsel : ∀ (j : Nat) (o : Oper) cs b, ops[j]? = some o → o.op ≠ .select cs b)
    (hQ : ∀ c a w, Q (.panic c) (a.put oi.dst v) w → Q (.panic c) a w) (hix : i ∉ xs) :
    ∀ (fuel : Nat) (L : Array Bool) (a : Act) (w : World),
      (∀ j oj, ops[j]? = some oj → j ≠ i → L.getD j true = false → (∀ e ∈ oj.after, Region.binds md e = true → e.on ≠ i) → oi.apart ops oj = true) →
      i ∈ Region.ready md ops L → YieldsIf P ops (fun _ => True) oi v a → (acted xs L ∨ H w) →
      wpAnyS P md ops Q xs H fuel (L.setIfInBounds i true) (a.put oi.dst v) w → wpAnyS P md ops Q xs H (fuel + 1) L a w := by
  have step : ∀ L w, (acted xs L ∨ H w) → (acted xs (L.setIfInBounds i true) ∨ H w) := fun L w h => h.imp (fun ⟨x, hx, hl⟩ => ⟨x, hx, getD_set_true hl⟩) id
  intro fuel
  induction fuel with
  | zero =>
    intro L a w _ hr hy hS G
    refine ⟨fun h => (by rw [h] at hr; cases hr), fun j hj => ?_⟩
    by_cases hji : j = i
    · subst hji; exact hy.wpOp hi trivial ⟨step _ _ hS, G⟩
    · have := ready_mono hj hji
      rw [G.1] at this
      cases this
  | succ fuel ih =>
    intro L a w hfree hr hy hS G
    refine ⟨fun h => (by rw [h] at hr; cases hr), fun j hj => ?_⟩
    by_cases hji : j = i
    · subst hji; exact hy.wpOp hi trivial ⟨step _ _ hS, G⟩
    · have h1 := G.2 j (ready_mono hj hji)
      obtain ⟨hjun, oj, hoj, hall⟩ := mem_ready.1 hj
      have hnot := notready_of_wait hr hj hoj
      have h2 := wpOp_putIf hoj (hfree j oj hoj hji hjun hnot) (fun cs b => hsel i oi cs b hi) (fun cs b => hsel j oj cs b hoj) hQ hy h1
      have hfree' : ∀ k ok, ops[k]? = some ok → k ≠ i → (L.setIfInBounds j true).getD k true = false →
          (∀ e ∈ ok.after, Region.binds md e = true → e.on ≠ i) → oi.apart ops ok = true := fun k ok hk hki hun hno => by
        refine hfree k ok hk hki ?_ hno
        by_cases hjk : j = k
        · subst hjk; exact hjun
        · rw [getD_set_ne true hjk] at hun; exact hun
      refine wpOp_mono (fun a' w' h3 => ?_) h2
      have hS' : acted xs (L.setIfInBounds j true) ∨ H w' := by
        rcases h3.2.1 with h | h
        · rw [Array.setIfInBounds_comm _ _ (Ne.symm hji)] at h
          exact .inl (acted_set hix h)
        · exact .inr h
      refine ⟨hS', ih (L.setIfInBounds j true) a' w' hfree' (ready_mono hr (Ne.symm hji)) h3.1 hS' ?_⟩
      rw [Array.setIfInBounds_comm _ _ hji]
      exact h3.2.2

/-- taken first: what reads, and is waited for by all that acts -/
theorem wpAnyS_read {i : Nat} {oi : Oper} {v : Value} (hi : ops[i]? = some oi) (hsel : ∀ (j : Nat) (o : Oper) cs b, ops[j]? = some o → o.op ≠ .select cs b)
    (hQ : ∀ c a w, Q (.panic c) (a.put oi.dst v) w → Q (.panic c) a w) (hix : i ∉ xs) (hwait : ∀ x ∈ xs, ∀ ox, ops[x]? = some ox → ∃ e ∈ ox.after, Region.binds md e = true ∧ e.on = i) :
    ∀ (fuel : Nat) (L : Array Bool) (a : Act) (w : World),
      (∀ j oj, ops[j]? = some oj → j ≠ i → L.getD j true = false → (∀ e ∈ oj.after, Region.binds md e = true → e.on ≠ i) → oi.apart ops oj = true) →
      i ∈ Region.ready md ops L → YieldsIf P ops H oi v a → ¬ acted xs L → H w →
      wpAnyS P md ops Q xs H fuel (L.setIfInBounds i true) (a.put oi.dst v) w → wpAnyS P md ops Q xs H (fuel + 1) L a w := by
  intro fuel
  induction fuel with
  | zero =>
    intro L a w _ hr hy _ hS G
    refine ⟨fun h => (by rw [h] at hr; cases hr), fun j hj => ?_⟩
    by_cases hji : j = i
    · subst hji; exact hy.wpOp hi hS ⟨.inr hS, G⟩
    · have := ready_mono hj hji
      rw [G.1] at this
      cases this
  | succ fuel ih =>
    intro L a w hfree hr hy hna hS G
    refine ⟨fun h => (by rw [h] at hr; cases hr), fun j hj => ?_⟩
    by_cases hji : j = i
    · subst hji; exact hy.wpOp hi hS ⟨.inr hS, G⟩
    · have h1 := G.2 j (ready_mono hj hji)
      obtain ⟨hjun, oj, hoj, hall⟩ := mem_ready.1 hj
      have hnot := notready_of_wait hr hj hoj
      have hjx : j ∉ xs := fun hjx => by
        obtain ⟨e, he, hb, hon⟩ := hwait j hjx oj hoj
        exact hnot e he hb hon
      have h2 := wpOp_putIf hoj (hfree j oj hoj hji hjun hnot) (fun cs b => hsel i oi cs b hi) (fun cs b => hsel j oj cs b hoj) hQ hy h1
      have hfree' : ∀ k ok, ops[k]? = some ok → k ≠ i → (L.setIfInBounds j true).getD k true = false →
          (∀ e ∈ ok.after, Region.binds md e = true → e.on ≠ i) → oi.apart ops ok = true := fun k ok hk hki hun hno => by
        refine hfree k ok hk hki ?_ hno
        by_cases hjk : j = k
        · subst hjk; exact hjun
        · rw [getD_set_ne true hjk] at hun; exact hun
      refine wpOp_mono (fun a' w' h3 => ?_) h2
      have hna' : ¬ acted xs (L.setIfInBounds j true) := fun h => hna (acted_set hjx h)
      have hS' : H w' := by
        rcases h3.2.1 with h | h
        · rw [Array.setIfInBounds_comm _ _ (Ne.symm hji)] at h
          exact absurd (acted_set hix h) hna'
        · exact h
      refine ⟨.inr hS', ih (L.setIfInBounds j true) a' w' hfree' (ready_mono hr (Ne.symm hji)) h3.1 hna' hS' ?_⟩
      rw [Array.setIfInBounds_comm _ _ hji]
      exact h3.2.2
end

/-! ### one order: 0: yields in whatever world; 1: reads; 2: acts -/
def waitsB (md : Region.Mode) (ops : Array Oper) (x i : Nat) : Bool := match ops[x]? with
  | some ox => ox.after.any fun e => Region.binds md e && e.on == i
  | none => true
def okOrd (md : Region.Mode) (ops : Array Oper) (xs : List Nat) : List (Nat × Nat) → Array Bool → Bool
  | [], L => (Region.ready md ops L).isEmpty
  | (i, 0) :: r, L => Region.free md ops L i && (Region.ready md ops L).contains i && !xs.contains i && okOrd md ops xs r (L.setIfInBounds i true)
  | (i, 1) :: r, L => Region.free md ops L i && (Region.ready md ops L).contains i && !xs.contains i && (xs.all fun x => waitsB md ops x i && !L.getD x false) && okOrd md ops xs r (L.setIfInBounds i true)
  | (i, _) :: r, L => (Region.ready md ops L == [i]) && xs.contains i && decide (i < L.size) && okOrd md ops xs r (L.setIfInBounds i true)
def wpOrd (P : Program) (ops : Array Oper) (H : World → Prop) (Q : Exit → Act → World → Prop) : List (Nat × Nat) → Act → World → Prop
  | [], a, w => Q .normal a w
  | (i, 0) :: r, a, w => ∃ o v, ops[i]? = some o ∧ YieldsIf P ops (fun _ => True) o v a ∧ wpOrd P ops H Q r (a.put o.dst v) w
  | (i, 1) :: r, a, w => ∃ o v, ops[i]? = some o ∧ H w ∧ YieldsIf P ops H o v a ∧ wpOrd P ops H Q r (a.put o.dst v) w
  | (i, _) :: r, a, w => wpOp P ops Q i (wpOrd P ops H Q r) a w

section
variable {P : Program} {ops : Array Oper} {Q : Exit → Act → World → Prop} {md : Region.Mode} {H : World → Prop} {xs : List Nat}
theorem wpAnyS_of_ord (hs : Region.noSelect ops = true) (hQ : ∀ c a b w, Q (.panic c) a w → Q (.panic c) b w) : ∀ (ord : List (Nat × Nat)) (L : Array Bool) (a : Act) (w : World), okOrd md ops xs ord L = true → (acted xs L ∨ H w) →
    wpOrd P ops H Q ord a w → wpAnyS P md ops Q xs H ord.length L a w := by
  intro ord
  induction ord with
  | nil =>
    intro L a w hok _ h
    simp only [okOrd, List.isEmpty_iff] at hok
    exact ⟨hok, h⟩
  | cons p r ih =>
    intro L a w hok hS h
    obtain ⟨i, c⟩ := p
    match c, hok, h with
    | 0, hok, h =>
      simp only [okOrd, Bool.and_eq_true] at hok
      obtain ⟨o, v, ho, hy, hr⟩ := h
      have hix : i ∉ xs := by simpa using hok.1.2
      exact wpAnyS_pure ho (Region.noSelect_spec hs) (fun c a w h => hQ c _ _ w h) hix _ L a w (Region.free_spec ho hok.1.1.1) (by simpa using hok.1.1.2) hy hS
        (ih _ _ w hok.2 (hS.imp (fun ⟨x, hx, hl⟩ => ⟨x, hx, getD_set_true hl⟩) id) hr)
    | 1, hok, h =>
      simp only [okOrd, Bool.and_eq_true] at hok
      obtain ⟨o, v, ho, hH, hy, hr⟩ := h
      have hix : i ∉ xs := by simpa using hok.1.1.2
      have hall := List.all_eq_true.1 hok.1.2
      have hna : ¬ acted xs L := by
        rintro ⟨x, hx, hl⟩
        have := hall x hx
        simp only [Bool.and_eq_true, Bool.not_eq_true'] at this
        rw [this.2] at hl; cases hl
      refine wpAnyS_read ho (Region.noSelect_spec hs) (fun c a w h => hQ c _ _ w h) hix (fun x hx ox hox => ?_) _ L a w (Region.free_spec ho hok.1.1.1.1) (by simpa using hok.1.1.1.2) hy hna hH
        (ih _ _ w hok.2 (.inr hH) hr)
      have := hall x hx
      simp only [Bool.and_eq_true] at this
      have hw := this.1
      simp only [waitsB, hox] at hw
      obtain ⟨e, he, hb⟩ := Array.any_eq_true'.1 hw
      simp only [Bool.and_eq_true, beq_iff_eq] at hb
      exact ⟨e, he, hb.1, hb.2⟩
    | c + 2, hok, h =>
      simp only [okOrd, Bool.and_eq_true, beq_iff_eq, decide_eq_true_eq] at hok
      refine ⟨fun h0 => absurd (hok.1.1.1.symm.trans h0) (by simp), fun j hj => ?_⟩
      rw [hok.1.1.1] at hj
      obtain rfl := List.mem_singleton.1 hj
      have hx : j ∈ xs := by simpa using hok.1.1.2
      have hact : acted xs (L.setIfInBounds j true) := ⟨j, hx, by simp [hok.1.2]⟩
      refine wpOp_mono (fun a' w' h3 => ⟨.inl hact, ih _ a' w' hok.2 (.inl hact) h3⟩) h
end

/-- along one order, over what is known of the slots -/
def OL (P : Program) (ops : Array Oper) (H : World → Prop) (K : Env → World → Prop) (N : Nat) (E : Env) (ord : List (Nat × Nat)) (w : World) : Prop := ∀ a, Ag a N E → wpOrd P ops H (Fin K N) ord a w
section
variable {P : Program} {ops : Array Oper} {K : Env → World → Prop} {H : World → Prop} {N : Nat} {E : Env} {w : World} {r : List (Nat × Nat)} {i : Nat} {o : Oper}
theorem OL.nil (h : K E w) : OL P ops H K N E [] w := fun _ ha => ⟨rfl, E, ha, h⟩
/-- one operation that reads at most -/
def RL (P : Program) (ops : Array Oper) (C : World → Prop) (R : Env → Prop) (N : Nat) (E : Env) (o : Oper) : Prop := ∀ a, Ag a N E → ∃ v, YieldsIf P ops C o v a ∧ ∃ E', Ag (a.put o.dst v) N E' ∧ R E'
/-- the operation at a place -/
def nthO : List Oper → Nat → Option Oper
  | [], _ => none
  | o :: _, 0 => some o
  | _ :: r, n + 1 => nthO r n
theorem nthO_get : ∀ {l : List Oper} {i : Nat} {o : Oper}, nthO l i = some o → l.toArray[i]? = some o := by
  intro l
  induction l with
  | nil => intro i o h; cases h
  | cons x r ih =>
    intro i o h
    cases i with
    | zero => simpa [nthO] using h
    | succ i => have := ih (i := i) (o := o) h; simpa using this
section
variable {l : List Oper}
theorem OL.pure (ho' : nthO l i = some o) (h : RL P l.toArray (fun _ => True) (fun E' => OL P l.toArray H K N E' r w) N E o) : OL P l.toArray H K N E ((i, 0) :: r) w := by
  have ho := nthO_get ho'
  intro a ha
  obtain ⟨v, hy, E', ha', hr⟩ := h a ha
  exact ⟨o, v, ho, hy, hr _ ha'⟩
theorem OL.read (hH : H w) (ho' : nthO l i = some o) (h : RL P l.toArray H (fun E' => OL P l.toArray H K N E' r w) N E o) : OL P l.toArray H K N E ((i, 1) :: r) w := by
  have ho := nthO_get ho'
  intro a ha
  obtain ⟨v, hy, E', ha', hr⟩ := h a ha
  exact ⟨o, v, ho, hH, hy, hr _ ha'⟩
theorem OL.act (ho' : nthO l i = some o) (h : WL P l.toArray (fun E' w' => OL P l.toArray H K N E' r w') N E [o] w) : OL P l.toArray H K N E ((i, 2) :: r) w := by
  have ho := nthO_get ho'
  intro a ha
  have h1 := h a ha
  simp only [wpOrd, wpOp, ho]
  unfold wpList at h1
  have conv : ∀ a' w', wpList P l.toArray (Fin (fun E' w' => OL P l.toArray H K N E' r w') N) [] a' w' → wpOrd P l.toArray H (Fin K N) r a' w' := by
    rintro a' w' ⟨_, E', ha', hr⟩
    exact hr a' ha'
  split
  · rename_i hw
    rw [if_pos hw] at h1
    rcases h1 with h1 | ⟨_, a1, w1, h1, _⟩
    · left
      have h2 := Oper.wp_mono conv h1
      unfold Oper.wp at h2 ⊢
      generalize (execOp a.eval o).run P w = res at *
      cases res with
      | ok n w' =>
        cases n <;> simp only [Oper.upon] at h2 ⊢ <;> first
          | exact h2
          | exact h2.mono fun e w'' he => by
              cases e with
              | returned v => exact he
              | panicked ch => exact absurd he.1 (by simp)
              | outgrown => obtain ⟨a1, w1, h, _⟩ := he; cases h
      | halt x w' =>
        cases x <;> simp only [Oper.upon] at h2 ⊢ <;> first
          | exact h2
          | exact absurd h2.1 (by simp)
    · cases h1
  · rename_i hw
    rw [if_neg hw] at h1
    exact conv _ _ h1
end
variable {C : World → Prop} {R : Env → Prop} {op : Op} {t : TypeId} {pos : String} {after : Array Edge} {d : Nat}
theorem RL.step {v : Value} (ho : ∀ w, C w → OpV P op t E w v w) (hd : Nat.blt d N = true) (h : R ((d, v) :: E)) : RL P ops C R N E ⟨some d, op, t, pos, after, none⟩ :=
  fun _ ha => ⟨v, .inl ⟨rfl, fun w hw => ho w hw _ ha.fits _ _ _ _⟩, _, ha.put v hd, h⟩
theorem RL.yes {j dj : Nat} {want : Bool} {d' : Option Nat} (hj : (ops[j]?).bind (·.dst) = some dj) (hb : look E dj = some (.bool want))
    (h : RL P ops C R N E ⟨d', op, t, pos, after, none⟩) : RL P ops C R N E ⟨d', op, t, pos, after, some (j, want)⟩ := by
  intro a ha
  obtain ⟨v, hy, h2⟩ := h a ha
  refine ⟨v, .inl ⟨by rw [wanted_of ha hj hb]; simp, ?_⟩, h2⟩
  rcases hy with ⟨_, hy⟩ | ⟨hw, _⟩
  · exact hy
  · simp [Region.wanted] at hw
theorem RL.no {j dj : Nat} {want : Bool} (hj : (ops[j]?).bind (·.dst) = some dj) (hb : look E dj = some (.bool !want)) (hd : Nat.blt d N = true)
    (h : R ((d, undef) :: E)) : RL P ops C R N E ⟨some d, op, t, pos, after, some (j, want)⟩ :=
  fun _ ha => ⟨undef, .inr ⟨by rw [wanted_of ha hj hb]; cases want <;> rfl, rfl⟩, _, ha.put undef hd, h⟩
theorem RL.noU {j dj : Nat} {want : Bool} (hj : (ops[j]?).bind (·.dst) = some dj) (hb : look E dj = some undef) (hd : Nat.blt d N = true)
    (h : R ((d, undef) :: E)) : RL P ops C R N E ⟨some d, op, t, pos, after, some (j, want)⟩ :=
  fun _ ha => ⟨undef, .inr ⟨wanted_undef ha hj hb _, rfl⟩, _, ha.put undef hd, h⟩
/-- THE BEGINNING: of a region that draws: along the order 'ord'; what reads, reads while no old block has turned. -/
theorem WC.ord {id : Nat} {l : List Oper} {Q : Exit → Act → World → Prop} (xs : List Nat) (ord : List (Nat × Nat)) (hm : P.follows .mixedOrders = true) (hs : Region.noSelect l.toArray = true) (hlen : ord.length = l.toArray.size)
    (hok : okOrd .any l.toArray xs ord (Array.replicate l.toArray.size false) = true)
    (h : ∀ K : Env → World → Prop, (∀ E w, WX Q .normal N E w → K E w) → ∀ w', Below w.heap.size w w' → w'.heap = w.heap → OL P l.toArray (fun w' => w'.heap = w.heap) K N E ord w') : WC P Q N E (.region id l.toArray true) w := by
  intro a ha
  have h1 := h (fun E w => WX Q .normal N E w) (fun _ _ h => h) { w with drawn := w.drawn + 1 } ⟨rfl, rfl, rfl, Nat.le_refl _, fun _ _ => rfl⟩ rfl a ha
  have h2 := wpAnyS_of_ord (H := fun w' => w'.heap = w.heap) (Q := Fin (fun E w => WX Q .normal N E w) N) hs (fun c a b w h => absurd h.1 (by simp)) ord _ a { w with drawn := w.drawn + 1 } hok (.inr rfl) h1
  rw [hlen] at h2
  refine wp_mono (wp_region_any (id := id) (Q := Fin (fun E w => WX Q .normal N E w) N) hm (wpAny_of_S _ _ _ _ h2)) ?_
  rintro e a' w' ⟨rfl, E', ha', hK⟩
  exact hK a' ha'
end
end Rk
