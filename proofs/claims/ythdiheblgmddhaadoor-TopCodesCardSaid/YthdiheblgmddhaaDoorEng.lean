/- The walk's own rules: what is known of a frame's slots is a list of places and values; one rule a statement, one a kind of operation. -/
import Derived.WalkKit
import Derived.Deep.Quiet
import Derived.Deep.LoopGhost
namespace Rk
open Go Go.RowKit

/-- what is known of the slots: the first entry of a slot counts -/
abbrev Env := List (Nat × Value)
def look : Env → Nat → Option Value
  | [], _ => none
  | (k, v) :: r, n => bif Nat.beq k n then some v else look r n

/-- a frame of N slots, nothing deferred, of which E is known -/
structure Ag (a : Act) (N : Nat) (E : Env) : Prop where
  size : a.tmps.size = N
  defers : a.defers = []
  at_ : ∀ k v, look E k = some v → a.tmps[k]? = some v

section
variable {a : Act} {N : Nat} {E E' : Env}
theorem Ag.nil (h : Ag a N E) : Ag a N [] := ⟨h.size, h.defers, fun _ _ hk => by simp [look] at hk⟩
theorem Ag.keep (h' : Ag a N E') (h : Ag a N E) {k : Nat} {v : Value} (hk : look E k = some v) : Ag a N ((k, v) :: E') := by
  refine ⟨h.size, h.defers, fun n u hn => ?_⟩
  simp only [look] at hn
  cases e : Nat.beq k n with
  | true => rw [e] at hn; simp at hn; subst hn; have := Nat.eq_of_beq_eq_true e; subst this; exact h.at_ _ _ hk
  | false => rw [e] at hn; exact h'.at_ _ _ hn
theorem Ag.put (h : Ag a N E) {d : Nat} (v : Value) (hd : Nat.blt d N = true) : Ag (a.put (some d) v) N ((d, v) :: E) := by
  have hd' : d < a.tmps.size := by rw [h.size]; exact Nat.le_of_ble_eq_true hd
  refine ⟨by simp [Act.put, h.size], by simp [Act.put, h.defers], fun n u hn => ?_⟩
  simp only [look] at hn
  simp only [Act.put]
  cases e : Nat.beq d n with
  | true =>
    rw [e] at hn; simp at hn; subst hn
    have := Nat.eq_of_beq_eq_true e; subst this
    simp [hd']
  | false =>
    rw [e] at hn
    have hne : d ≠ n := Nat.ne_of_beq_eq_false e
    rw [Array.getElem?_setIfInBounds_ne hne]
    exact h.at_ _ _ hn
/-- an operand's value, as known -/
def evE (E : Env) : Operand → Option Value
  | .tmp t => look E t
  | .const v => some v
  | .global g => some (.pointer (some ⟨g, 0, none⟩))
  | .func f => some (.func (.func f) #[] #[])
theorem Ag.eval (h : Ag a N E) {x : Operand} {v : Value} (hx : evE E x = some v) : a.eval x = v := by
  cases x with
  | tmp t => simp only [evE] at hx; simp [Act.eval, h.at_ _ _ hx]
  | const u => simp only [evE] at hx; injection hx
  | global g => simp only [evE] at hx; injection hx
  | func f => simp only [evE] at hx; injection hx
end

/-- operands have the values that are known of them -/
def Fits (E : Env) (ρ : Operand → Value) : Prop := ∀ x v, evE E x = some v → ρ x = v
theorem Ag.fits {a : Act} {N : Nat} {E : Env} (h : Ag a N E) : Fits E a.eval := fun _ _ hx => h.eval hx

/-- the operation yields v -/
def OpV (P : Program) (op : Op) (t : TypeId) (E : Env) (w : World) (v : Value) (w' : World) : Prop :=
  ∀ ρ, Fits E ρ → ∀ d pos after g, (execOp ρ ⟨d, op, t, pos, after, g⟩).run P w = .ok (.value v) w'
/-- the operation acts, and yields nothing -/
def OpU (P : Program) (op : Op) (t : TypeId) (E : Env) (w : World) (w' : World) : Prop :=
  ∀ ρ, Fits E ρ → ∀ d pos after g, (execOp ρ ⟨d, op, t, pos, after, g⟩).run P w = .ok .skip w'
/-- the operation calls f -/
def OpC (P : Program) (op : Op) (t : TypeId) (E : Env) (w : World) (f : FuncId) (args : Array Value) : Prop :=
  ∀ ρ, Fits E ρ → ∀ d pos after g, (execOp ρ ⟨d, op, t, pos, after, g⟩).run P w = .ok (.enter f args) w

/-- a call hands back a value of which this holds -/
def Ret (S : Value → World → Prop) : Ending → World → Prop
  | .returned v, w => S v w
  | _, _ => False

/-- where a region comes to: its normal end, with what K says of the slots and the world -/
def Fin (K : Env → World → Prop) (N : Nat) : Exit → Act → World → Prop := fun e a w => e = .normal ∧ ∃ E, Ag a N E ∧ K E w
def WL (P : Program) (ops : Array Oper) (K : Env → World → Prop) (N : Nat) (E : Env) (rest : List Oper) (w : World) : Prop := ∀ a, Ag a N E → wpList P ops (Fin K N) rest a w
def WC (P : Program) (Q : Exit → Act → World → Prop) (N : Nat) (E : Env) (c : Code) (w : World) : Prop := ∀ a, Ag a N E → Code.wp P c Q a w
def WX (Q : Exit → Act → World → Prop) (e : Exit) (N : Nat) (E : Env) (w : World) : Prop := ∀ a, Ag a N E → Q e a w
/-- a region whose operations only read, or call what leaves old memory alone -/
def QL (P : Program) (ops : Array Oper) (C : World → Prop) (K : Env → Prop) (N : Nat) (E : Env) (rest : List Oper) : Prop := ∀ a, Ag a N E → wpQuiet P ops C (fun a => ∃ E, Ag a N E ∧ K E) rest a

section
variable {P : Program} {ops : Array Oper} {Q : Exit → Act → World → Prop} {K : Env → World → Prop} {N : Nat} {E : Env} {rest : List Oper} {w w' : World} {op : Op} {t : TypeId} {pos : String} {after : Array Edge} {d : Nat}

theorem WL.nil (h : K E w) : WL P ops K N E [] w := fun a ha => wpList_nil ⟨rfl, E, ha, h⟩
theorem WL.step {v : Value} (ho : OpV P op t E w v w') (hd : Nat.blt d N = true) (h : WL P ops K N ((d, v) :: E) rest w') : WL P ops K N E (⟨some d, op, t, pos, after, none⟩ :: rest) w := by
  intro a ha
  refine wpList_plain rfl fun K' hK' => ?_
  unfold Oper.wp
  rw [ho _ ha.fits]
  exact hK' _ _ (h _ (ha.put v hd))
theorem WL.step0 {v : Value} (ho : OpV P op t E w v w') (h : WL P ops K N E rest w') : WL P ops K N E (⟨none, op, t, pos, after, none⟩ :: rest) w := by
  intro a ha
  refine wpList_plain rfl fun K' hK' => ?_
  unfold Oper.wp
  rw [ho _ ha.fits]
  exact hK' _ _ (h _ ha)
theorem WL.act (ho : OpU P op t E w w') (h : WL P ops K N E rest w') : WL P ops K N E (⟨none, op, t, pos, after, none⟩ :: rest) w := by
  intro a ha
  refine wpList_plain rfl fun K' hK' => ?_
  unfold Oper.wp
  rw [ho _ ha.fits]
  exact hK' _ _ (h _ ha)
theorem WL.call {f : FuncId} {args : Array Value} {S : Value → World → Prop} (ho : OpC P op t E w f args) (hd : Nat.blt d N = true) (hc : Calls P f args w (Ret S))
    (h : ∀ v w', S v w' → WL P ops K N ((d, v) :: E) rest w') : WL P ops K N E (⟨some d, op, t, pos, after, none⟩ :: rest) w := by
  intro a ha
  refine wpList_plain rfl fun K' hK' => ?_
  unfold Oper.wp
  rw [ho _ ha.fits]
  refine hc.mono fun e w1 he => ?_
  cases e with
  | returned v => exact hK' _ _ (h v w1 he _ (ha.put v hd))
  | panicked ch => exact he.elim
  | outgrown => exact he.elim
theorem WL.call0 {f : FuncId} {args : Array Value} {S : Value → World → Prop} (ho : OpC P op t E w f args) (hc : Calls P f args w (Ret S))
    (h : ∀ v w', S v w' → WL P ops K N E rest w') : WL P ops K N E (⟨none, op, t, pos, after, none⟩ :: rest) w := by
  intro a ha
  refine wpList_plain rfl fun K' hK' => ?_
  unfold Oper.wp
  rw [ho _ ha.fits]
  refine hc.mono fun e w1 he => ?_
  cases e with
  | returned v => exact hK' _ _ (h v w1 he _ ha)
  | panicked ch => exact he.elim
  | outgrown => exact he.elim

/-! guards -/
theorem wanted_of {a : Act} (ha : Ag a N E) {j dj : Nat} {want b : Bool} (hj : (ops[j]?).bind (·.dst) = some dj) (hb : look E dj = some (.bool b)) (d' : Option Nat) :
    Region.wanted ⟨d', op, t, pos, after, some (j, want)⟩ (yielded ops a.tmps) = (b == want) := by
  simp only [Region.wanted, yielded, hj, Option.bind_some, ha.at_ _ _ hb]
  cases b <;> cases want <;> rfl
theorem wanted_undef {a : Act} (ha : Ag a N E) {j dj : Nat} {want : Bool} (hj : (ops[j]?).bind (·.dst) = some dj) (hb : look E dj = some undef) (d' : Option Nat) :
    Region.wanted ⟨d', op, t, pos, after, some (j, want)⟩ (yielded ops a.tmps) = false := by
  simp only [Region.wanted, yielded, hj, Option.bind_some, ha.at_ _ _ hb]
  cases want <;> rfl
theorem Ag.again {a : Act} (ha : Ag a N E) {k : Nat} {v : Value} (hk : look E k = some v) : Ag a N ((k, v) :: E) := ha.keep ha hk
theorem WL.yes {j dj : Nat} {want : Bool} {d' : Option Nat} (hj : (ops[j]?).bind (·.dst) = some dj) (hb : look E dj = some (.bool want))
    (h : WL P ops K N E (⟨d', op, t, pos, after, none⟩ :: rest) w) : WL P ops K N E (⟨d', op, t, pos, after, some (j, want)⟩ :: rest) w := by
  intro a ha
  have h1 := h a ha
  unfold wpList at h1 ⊢
  rw [wanted_of ha hj hb]
  simp only [Region.wanted, if_true] at h1
  simp only [beq_self_eq_true, if_true]
  exact h1
theorem WL.no {j dj : Nat} {want : Bool} (hj : (ops[j]?).bind (·.dst) = some dj) (hb : look E dj = some (.bool !want)) (hd : Nat.blt d N = true)
    (h : WL P ops K N ((d, undef) :: E) rest w) : WL P ops K N E (⟨some d, op, t, pos, after, some (j, want)⟩ :: rest) w := by
  intro a ha
  refine wpList_skip ?_ (h _ (ha.put undef hd))
  rw [wanted_of ha hj hb]
  cases want <;> rfl
theorem WL.noU {j dj : Nat} {want : Bool} (hj : (ops[j]?).bind (·.dst) = some dj) (hb : look E dj = some undef) (hd : Nat.blt d N = true)
    (h : WL P ops K N ((d, undef) :: E) rest w) : WL P ops K N E (⟨some d, op, t, pos, after, some (j, want)⟩ :: rest) w := by
  intro a ha
  exact wpList_skip (wanted_undef ha hj hb _) (h _ (ha.put undef hd))
/-- an undecided guard: both ways -/
theorem WL.guard {j dj : Nat} {want b : Bool} {d' : Option Nat} (_hj : (ops[j]?).bind (·.dst) = some dj) (hb : look E dj = some (.bool b))
    (h1 : b = true → WL P ops K N ((dj, .bool true) :: E) (⟨d', op, t, pos, after, some (j, want)⟩ :: rest) w)
    (h2 : b = false → WL P ops K N ((dj, .bool false) :: E) (⟨d', op, t, pos, after, some (j, want)⟩ :: rest) w) : WL P ops K N E (⟨d', op, t, pos, after, some (j, want)⟩ :: rest) w := by
  intro a ha
  cases b with
  | true => exact h1 rfl a (ha.again hb)
  | false => exact h2 rfl a (ha.again hb)

/-! regions that only read -/
variable {C : World → Prop} {R : Env → Prop}
theorem QL.step {v : Value} (ho : ∀ w, C w → OpV P op t E w v w) (hd : Nat.blt d N = true) (h : QL P ops C R N ((d, v) :: E) rest) : QL P ops C R N E (⟨some d, op, t, pos, after, none⟩ :: rest) := by
  intro a ha
  refine wpQuiet_step fun K' hK' => ?_
  rw [if_pos (by rfl)]
  refine ⟨v, fun w hw => ?_, hK' _ (h _ (ha.put v hd))⟩
  unfold Oper.quietAt
  rw [ho w hw _ ha.fits]
  exact ⟨rfl, rfl⟩
theorem QL.call {f : FuncId} {args : Array Value} {v : Value} (ho : ∀ w, C w → OpC P op t E w f args) (hd : Nat.blt d N = true) (hc : ∀ w, C w → Calls P f args w (Ret fun u w' => u = v ∧ C w'))
    (h : QL P ops C R N ((d, v) :: E) rest) : QL P ops C R N E (⟨some d, op, t, pos, after, none⟩ :: rest) := by
  intro a ha
  refine wpQuiet_step fun K' hK' => ?_
  rw [if_pos (by rfl)]
  refine ⟨v, fun w hw => ?_, hK' _ (h _ (ha.put v hd))⟩
  unfold Oper.quietAt
  rw [ho w hw _ ha.fits]
  refine ⟨rfl, (hc w hw).mono fun e w1 he => ?_⟩
  cases e with
  | returned u => obtain ⟨rfl, h2⟩ := he; exact ⟨rfl, h2⟩
  | panicked ch => exact he.elim
  | outgrown => exact he.elim
theorem QL.yes {j dj : Nat} {want : Bool} {d' : Option Nat} (hj : (ops[j]?).bind (·.dst) = some dj) (hb : look E dj = some (.bool want))
    (h : QL P ops C R N E (⟨d', op, t, pos, after, none⟩ :: rest)) : QL P ops C R N E (⟨d', op, t, pos, after, some (j, want)⟩ :: rest) := by
  intro a ha
  have h1 := h a ha
  unfold wpQuiet at h1 ⊢
  rw [wanted_of ha hj hb]
  simp only [Region.wanted, if_true] at h1
  simp only [beq_self_eq_true, if_true]
  exact h1
theorem quiet_skip {S : Act → Prop} {a : Act} {o : Oper} (hw : Region.wanted o (yielded ops a.tmps) = false) (h : wpQuiet P ops C S rest (a.put o.dst undef)) : wpQuiet P ops C S (o :: rest) a := by
  unfold wpQuiet
  rw [hw]
  exact h
theorem QL.no {j dj : Nat} {want : Bool} (hj : (ops[j]?).bind (·.dst) = some dj) (hb : look E dj = some (.bool !want)) (hd : Nat.blt d N = true)
    (h : QL P ops C R N ((d, undef) :: E) rest) : QL P ops C R N E (⟨some d, op, t, pos, after, some (j, want)⟩ :: rest) := by
  intro a ha
  refine quiet_skip ?_ (h _ (ha.put undef hd))
  rw [wanted_of ha hj hb]
  cases want <;> rfl
theorem QL.noU {j dj : Nat} {want : Bool} (hj : (ops[j]?).bind (·.dst) = some dj) (hb : look E dj = some undef) (hd : Nat.blt d N = true)
    (h : QL P ops C R N ((d, undef) :: E) rest) : QL P ops C R N E (⟨some d, op, t, pos, after, some (j, want)⟩ :: rest) := by
  intro a ha
  exact quiet_skip (wanted_undef ha hj hb _) (h _ (ha.put undef hd))
theorem QL.guard {j dj : Nat} {want b : Bool} {d' : Option Nat} (_hj : (ops[j]?).bind (·.dst) = some dj) (hb : look E dj = some (.bool b))
    (h1 : b = true → QL P ops C R N ((dj, .bool true) :: E) (⟨d', op, t, pos, after, some (j, want)⟩ :: rest))
    (h2 : b = false → QL P ops C R N ((dj, .bool false) :: E) (⟨d', op, t, pos, after, some (j, want)⟩ :: rest)) : QL P ops C R N E (⟨d', op, t, pos, after, some (j, want)⟩ :: rest) := by
  intro a ha
  cases b with
  | true => exact h1 rfl a (ha.again hb)
  | false => exact h2 rfl a (ha.again hb)
theorem QL.nil (h : R E) : QL P ops C R N E [] := fun a ha => wpQuiet_nil ⟨E, ha, h⟩

theorem wpQuiet_mono' {R S : Act → Prop} : ∀ (l : List Oper) (a : Act), wpQuiet P ops C R l a → (∀ a, R a → S a) → wpQuiet P ops C S l a := by
  intro l
  induction l with
  | nil => intro a h hs; exact hs _ h
  | cons o r ih =>
    intro a h hs
    unfold wpQuiet at h ⊢
    split
    · rename_i hw
      rw [if_pos hw] at h
      exact Oper.quiet_mono (fun a h => ih a h hs) h
    · rename_i hw
      rw [if_neg hw] at h
      exact ih _ h hs
/-! statements -/
variable {x y c : Code} {id : Nat} {l : List Oper}
theorem WC.region (h : ∀ K : Env → World → Prop, (∀ E w, WX Q .normal N E w → K E w) → WL P l.toArray K N E l w) : WC P Q N E (.region id l.toArray false) w := by
  intro a ha
  refine wp_mono (wp_region_lit (h (fun E w => WX Q .normal N E w) (fun _ _ h => h) a ha)) ?_
  rintro e a' w' ⟨rfl, E', ha', hK⟩
  exact hK a' ha'
theorem WC.quiet (hm : P.follows .mixedOrders = true) (hB : Region.lexB .any l.toArray = true)
    (h : ∀ K : Env → Prop, (∀ E, (∀ w', Below w.heap.size w w' → WX Q .normal N E w') → K E) → QL P l.toArray (fun w' => Below w.heap.size w w') K N E l) : WC P Q N E (.region id l.toArray true) w := by
  intro a ha
  refine wp_region_quiet (C := fun w' => Below w.heap.size w w') hm hB ⟨rfl, rfl, rfl, Nat.le_refl _, fun _ _ => rfl⟩ ?_
  have h1 : wpQuiet P l.toArray (fun w' => Below w.heap.size w w') (fun a => ∀ w', Below w.heap.size w w' → Q .normal a w') l a := wpQuiet_mono' l _ (h (fun E => ∀ w', Below w.heap.size w w' → WX Q .normal N E w') (fun _ h => h) a ha) (fun a' (h : ∃ E, Ag a' N E ∧ ∀ w', Below w.heap.size w w' → WX Q .normal N E w') => fun w' hw' => by
    obtain ⟨E', ha', hK⟩ := h
    exact hK w' hw' a' ha')
  simpa using h1
theorem WC.seq (h : WC P (Exit.then (fun a w => y.wp P Q a w) Q) N E x w) : WC P Q N E (.seq x y) w := fun a ha => wp_seq (h a ha)
/-- a sequence whose ways meet again ahead of y -/
theorem WC.seqR (J : Act → World → Prop) (h1 : WC P (Exit.then J Q) N E x w) (h2 : ∀ a w, J a w → Code.wp P y Q a w) : WC P Q N E (.seq x y) w :=
  fun a ha => wp_seq (wp_mono (h1 a ha) fun e a' w' hq => by cases e <;> first | exact h2 _ _ hq | exact hq)
theorem WX.meet {J : Act → World → Prop} (h : ∀ a, Ag a N E → J a w) : WX (Exit.then J Q) .normal N E w := h
theorem WC.skip (h : WX Q .normal N E w) : WC P Q N E .skip w := fun a ha => wp_skip (h a ha)
theorem WC.exit (h : WX Q (.exit id) N E w) : WC P Q N E (.exit id) w := fun a ha => wp_exit (h a ha)
theorem WC.ret (h : WX Q .ret N E w) : WC P Q N E .ret w := fun a ha => wp_ret (h a ha)
theorem WC.block (h : WC P (Exit.inBlock id Q) N E c w) : WC P Q N E (.block id c) w := fun a ha => wp_block (h a ha)
theorem WC.cond {s : Nat} {b : Bool} (hb : look E s = some (.bool b)) (h1 : b = true → WC P Q N ((s, .bool true) :: E) x w) (h2 : b = false → WC P Q N ((s, .bool false) :: E) y w) : WC P Q N E (.cond (.tmp s) x y) w := by
  intro a ha
  refine wp_cond_split (t := b) (ha.eval (x := .tmp s) hb) (fun e => ?_) (fun e => ?_)
  · subst e; exact h1 rfl a (ha.again hb)
  · subst e; exact h2 rfl a (ha.again hb)
theorem WC.cond_true {s : Nat} (hb : look E s = some (.bool true)) (h1 : WC P Q N E x w) : WC P Q N E (.cond (.tmp s) x y) w :=
  fun a ha => wp_cond_true (ha.eval (x := .tmp s) hb) (h1 a ha)
theorem WC.cond_false {s : Nat} (hb : look E s = some (.bool false)) (h1 : WC P Q N E y w) : WC P Q N E (.cond (.tmp s) x y) w :=
  fun a ha => wp_cond_false (ha.eval (x := .tmp s) hb) (h1 a ha)
theorem WX.then_n (h : WC P Q N E y w) {Q' : Exit → Act → World → Prop} : WX (Exit.then (fun a w => y.wp P Q a w) Q') .normal N E w := h
theorem WX.then_x {K : Act → World → Prop} {i : Nat} (h : WX Q (.exit i) N E w) : WX (Exit.then K Q) (.exit i) N E w := h
theorem WX.then_r {K : Act → World → Prop} (h : WX Q .ret N E w) : WX (Exit.then K Q) .ret N E w := h
theorem WX.block_n {i : Nat} (h : WX Q .normal N E w) : WX (Exit.inBlock i Q) .normal N E w := h
theorem WX.block_r {i : Nat} (h : WX Q .ret N E w) : WX (Exit.inBlock i Q) .ret N E w := h
theorem WX.block_x {i : Nat} (h : WX Q .normal N E w) : WX (Exit.inBlock i Q) (.exit i) N E w := fun a ha => by simp only [Exit.inBlock, if_true]; exact h a ha
theorem WX.block_o {i j : Nat} (hne : Nat.beq j i = false) (h : WX Q (.exit j) N E w) : WX (Exit.inBlock i Q) (.exit j) N E w := fun a ha => by
  simp only [Exit.inBlock, if_neg (Nat.ne_of_beq_eq_false hne)]; exact h a ha
/-- forget all but these -/
theorem WC.weaken {E' : Env} (h : WC P Q N E' c w) (hE : ∀ a, Ag a N E → Ag a N E') : WC P Q N E c w := fun a ha => h a (hE a ha)

/-- A LOOP: what holds when at most n rounds are to come. -/
def Again (I : Nat → Act → World → Prop) (n : Nat) (a : Act) (w : World) : Prop := ∃ m, m < n ∧ I m a w
theorem WC.loop (I : Nat → Act → World → Prop) (n : Nat) (h0 : ∀ a, Ag a N E → I n a w)
    (round : ∀ n a w, I n a w → c.wp P (Exit.then (Again I n) Q) a w) : WC P Q N E (.loop c) w := by
  intro a ha
  exact wp_loop_ghost I n (h0 a ha) round
theorem WX.again {I : Nat → Act → World → Prop} {n m : Nat} (hm : m < n) (h : ∀ a, Ag a N E → I m a w) : WX (Exit.then (Again I n) Q) .normal N E w := fun a ha => ⟨m, hm, h a ha⟩

theorem WC.at (h : WC P Q N E c w) {a : Act} (ha : Ag a N E) : Code.wp P c Q a w := h a ha
/-! the end -/
variable {fn : Func} {S : Value → World → Prop}
theorem WX.ret1 {s : Nat} {v : Value} (hr : fn.results = #[.tmp s]) (hs : look E s = some v) (h : S v w) : WX (bodyPost P fn (Ret S)) .ret N E w := by
  intro a ha
  refine bodyPost_ret (results_tmp hr a.tmps P w) ha.defers ?_
  simp [ha.at_ _ _ hs]; exact h
theorem WX.ret2 {s1 s2 : Nat} {v1 v2 : Value} (hr : fn.results = #[.tmp s1, .tmp s2]) (h1 : look E s1 = some v1) (h2 : look E s2 = some v2) (h : S (.tuple #[v1, v2]) w) : WX (bodyPost P fn (Ret S)) .ret N E w := by
  intro a ha
  refine bodyPost_ret (results_tmp2 hr a.tmps P w) ha.defers ?_
  simp [ha.at_ _ _ h1, ha.at_ _ _ h2]; exact h
theorem results_c3 {s1 s2 s3 : Nat} {T : TypeId} {v1 v2 v3 : Value} {p : Addr} {tmps : Array Value} (hr : fn.results = #[.cell s1 T, .tmp s2, .tmp s3]) (h1 : tmps[s1]? = some (.pointer (some p))) (h2 : tmps[s2]? = some v2) (h3 : tmps[s3]? = some v3)
    (hl : (loadVar T p).run P w = .ok v1 w) : (results fn tmps).run P w = .ok (.tuple #[v1, v2, v3]) w := by
  simp [results, hr, h1, h2, h3, asAddr, hl]
theorem WX.ret3c {s1 s2 s3 : Nat} {T : TypeId} {v1 v2 v3 : Value} {p : Addr} (hr : fn.results = #[.cell s1 T, .tmp s2, .tmp s3]) (h1 : look E s1 = some (.pointer (some p))) (h2 : look E s2 = some v2) (h3 : look E s3 = some v3)
    (hl : (loadVar T p).run P w = .ok v1 w) (h : S (.tuple #[v1, v2, v3]) w) : WX (bodyPost P fn (Ret S)) .ret N E w := by
  intro a ha
  exact bodyPost_ret (results_c3 hr (ha.at_ _ _ h1) (ha.at_ _ _ h2) (ha.at_ _ _ h3) hl) ha.defers h
theorem WX.ret0 (hr : fn.results = #[]) (h : S (.tuple #[]) w) : WX (bodyPost P fn (Ret S)) .ret N E w :=
  fun a ha => bodyPost_ret (results_none hr a.tmps P w) ha.defers h
theorem WX.end0 (hr : fn.results = #[]) (h : S (.tuple #[]) w) : WX (bodyPost P fn (Ret S)) .normal N E w :=
  fun a ha => bodyPost_end (results_none hr a.tmps P w) ha.defers h

/-! the beginning -/
def argsE : List Value → Nat → Env
  | [], _ => []
  | v :: r, i => (i, v) :: argsE r (i + 1)
theorem look_argsE : ∀ (l : List Value) (i k : Nat) (v : Value), look (argsE l i) k = some v → i ≤ k ∧ l[k - i]? = some v := by
  intro l
  induction l with
  | nil => intro i k v h; simp [argsE, look] at h
  | cons x r ih =>
    intro i k v h
    simp only [argsE, look] at h
    cases e : Nat.beq i k with
    | true =>
      rw [e] at h; simp at h; subst h
      have := Nat.eq_of_beq_eq_true e; subst this
      simp
    | false =>
      rw [e] at h
      have hne : i ≠ k := Nat.ne_of_beq_eq_false e
      obtain ⟨h1, h2⟩ := ih (i + 1) k v h
      refine ⟨by omega, ?_⟩
      rw [show k - i = (k - (i + 1)) + 1 from by omega]
      simpa using h2
theorem calls_of {f : FuncId} {l : List Value} (hf : P.funcs[f]? = some fn) (hb : fn.body = some c) (hn : fn.ntmps = N) (hl : Nat.ble l.length N = true)
    (h : WC P (bodyPost P fn (Ret S)) N (argsE l 0) c w) : Calls P f l.toArray w (Ret S) := by
  refine calls_of_wp hf hb (h _ ?_)
  have hl' : l.length ≤ N := Nat.le_of_ble_eq_true hl
  refine ⟨by simp [hn]; omega, rfl, fun k v hk => ?_⟩
  obtain ⟨_, h2⟩ := look_argsE l 0 k v hk
  have hlt : k < l.length := by
    rcases Nat.lt_or_ge k l.length with h | h
    · exact h
    · simp [List.getElem?_eq_none h] at h2
  simp only [Nat.sub_zero] at h2
  rw [Array.getElem?_append_left (by simpa using hlt)]
  simpa using h2
end
end Rk
