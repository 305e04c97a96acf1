/- The walk's own rules, shorter: loops and joins by what is known of the slots as a list; loads found among the hypotheses; regions that draw. -/
import Derived.Test.YthdiheblgmddhaaDoorOwn
import Derived.Test.YthdiheblgmddhaaDoorTree
namespace Rk
open Go Go.RowKit

section
variable {P : Program} {E : Env} {w : World} {t : TypeId} {x y : Operand} {xt yt : TypeId} {a b : Int} {k kb kc : IntKind}
theorem OpV.conv (hs : ∃ k', P.underlying xt = some (.int k')) (ht : P.underlying yt = some (.int kc)) (hx : evE E x = some (.int k a)) (hw : kc.wrap a = a) : OpV P (.convert xt yt x) t E w (.int kc a) w := fun ρ hρ _ _ _ _ => by
  obtain ⟨k', hs⟩ := hs
  simp [execOp, hρ _ _ hx, convert, run_underlying hs, run_underlying ht, Conv.intToInt, go_sem, hw]
theorem OpV.shr (hx : evE E x = some (.int k a)) (hy : evE E y = some (.int kb b)) (h0 : 0 ≤ b) (h1 : b ≤ k.bits) : OpV P (.binOp .shr xt x y yt) t E w (.int k (a / 2 ^ b.toNat)) w := fun ρ hρ _ _ _ _ => by
  simp [execOp, hρ _ _ hx, hρ _ _ hy, go_sem, eqGuard, shift_shr k kb a b h0 h1]
end
/-- all of E' is known in E -/
inductive Sub (E : Env) : Env → Prop
  | nil : Sub E []
  | cons {k : Nat} {v : Value} {r : Env} (h : look E k = some v) (hs : Sub E r) : Sub E ((k, v) :: r)
theorem Sub.consI {E : Env} {k : Nat} {kd : IntKind} {a b : Int} {r : Env} (h : look E k = some (.int kd a)) (e : a = b) (hs : Sub E r) : Sub E ((k, .int kd b) :: r) := .cons (e ▸ h) hs
theorem Sub.consB {E : Env} {k : Nat} {a b : Bool} {r : Env} (h : look E k = some (.bool a)) (e : a = b) (hs : Sub E r) : Sub E ((k, .bool b) :: r) := .cons (e ▸ h) hs
theorem Sub.consE {E : Env} {k : Nat} {u v : Value} {r : Env} (h : look E k = some u) (e : u = v) (hs : Sub E r) : Sub E ((k, v) :: r) := .cons (e ▸ h) hs
theorem Sub.auto {E E' : Env} (h : Sub E E' := by repeat' first | exact Sub.nil | refine Sub.cons (by with_unfolding_all exact rfl) ?_ | refine Sub.consI (by with_unfolding_all exact rfl) (by omega) ?_) : Sub E E' := h
theorem Sub.ag {E E' : Env} {a : Act} {N : Nat} (h : Sub E E') (ha : Ag a N E) : Ag a N E' := by
  induction h with
  | nil => exact ha.nil
  | cons h _ ih => exact ih.keep ha h

section
variable {P : Program} {Q : Exit → Act → World → Prop} {N : Nat} {E E' : Env} {w : World} {x y c : Code}
theorem WC.sub (hs : Sub E E') (h : WC P Q N E' c w) : WC P Q N E c w := fun a ha => h a (hs.ag ha)

/-- A LOOP over what goes through it (s), with a bound (m) -/
def LoopI {σ : Type} (N : Nat) (env : σ → Env) (Inv : σ → Nat → World → Prop) (m : Nat) (a : Act) (w : World) : Prop := ∃ s, Inv s m w ∧ Ag a N (env s)
theorem WC.loopE {σ : Type} (env : σ → Env) (Inv : σ → Nat → World → Prop) (n : Nat) (s : σ) (h0 : Inv s n w) (hs : Sub E (env s))
    (round : ∀ s n w, Inv s n w → WC P (Exit.then (Again (LoopI N env Inv) n) Q) N (env s) c w) : WC P Q N E (.loop c) w :=
  WC.loop (LoopI N env Inv) n (fun _ ha => ⟨s, h0, hs.ag ha⟩) (fun n a w ⟨s, hi, ha⟩ => round s n w hi a ha)
theorem WX.againE {σ : Type} {env : σ → Env} {Inv : σ → Nat → World → Prop} {n : Nat} (s : σ) (m : Nat) (hm : m < n) (hi : Inv s m w) (hs : Sub E (env s)) :
    WX (Exit.then (Again (LoopI N env Inv) n) Q) .normal N E w := WX.again hm fun _ ha => ⟨s, hi, hs.ag ha⟩
/-- where ways meet -/
def JoinI {σ : Type} (N : Nat) (env : σ → Env) (Inv : σ → World → Prop) (a : Act) (w : World) : Prop := ∃ s, Inv s w ∧ Ag a N (env s)
theorem WC.seqE {σ : Type} (env : σ → Env) (Inv : σ → World → Prop) (h1 : WC P (Exit.then (JoinI N env Inv) Q) N E x w) (h2 : ∀ s w, Inv s w → WC P Q N (env s) y w) : WC P Q N E (.seq x y) w :=
  WC.seqR (JoinI N env Inv) h1 fun a w ⟨s, hi, ha⟩ => h2 s w hi a ha
theorem WX.meetE {σ : Type} {env : σ → Env} {Inv : σ → World → Prop} (s : σ) (hi : Inv s w) (hs : Sub E (env s)) : WX (Exit.then (JoinI N env Inv) Q) .normal N E w :=
  WX.meet fun _ ha => ⟨s, hi, hs.ag ha⟩
def LoopI2 {σ1 σ2 : Type} (N : Nat) (env : σ1 → σ2 → Env) (Inv : σ1 → σ2 → Nat → World → Prop) (m : Nat) (a : Act) (w : World) : Prop := ∃ a1 a2, Inv a1 a2 m w ∧ Ag a N (env a1 a2)
theorem WC.loopE2 {σ1 σ2 : Type} (env : σ1 → σ2 → Env) (Inv : σ1 → σ2 → Nat → World → Prop) (n : Nat) (a1 : σ1) (a2 : σ2) (h0 : Inv a1 a2 n w) (hs : Sub E (env a1 a2))
    (round : ∀ a1 a2 n w, Inv a1 a2 n w → WC P (Exit.then (Again (LoopI2 N env Inv) n) Q) N (env a1 a2) c w) : WC P Q N E (.loop c) w :=
  WC.loop (LoopI2 N env Inv) n (fun _ ha => ⟨a1, a2, h0, hs.ag ha⟩) (fun n a w ⟨a1, a2, hi, ha⟩ => round a1 a2 n w hi a ha)
theorem WX.againE2 {σ1 σ2 : Type} {env : σ1 → σ2 → Env} {Inv : σ1 → σ2 → Nat → World → Prop} {n : Nat} (a1 : σ1) (a2 : σ2) (m : Nat) (hm : m < n) (hi : Inv a1 a2 m w) (hs : Sub E (env a1 a2)) :
    WX (Exit.then (Again (LoopI2 N env Inv) n) Q) .normal N E w := WX.again hm fun _ ha => ⟨a1, a2, hi, hs.ag ha⟩
def JoinI2 {σ1 σ2 : Type} (N : Nat) (env : σ1 → σ2 → Env) (Inv : σ1 → σ2 → World → Prop) (a : Act) (w : World) : Prop := ∃ a1 a2, Inv a1 a2 w ∧ Ag a N (env a1 a2)
theorem WC.seqE2 {σ1 σ2 : Type} (env : σ1 → σ2 → Env) (Inv : σ1 → σ2 → World → Prop) (h1 : WC P (Exit.then (JoinI2 N env Inv) Q) N E x w) (h2 : ∀ a1 a2 w, Inv a1 a2 w → WC P Q N (env a1 a2) y w) : WC P Q N E (.seq x y) w :=
  WC.seqR (JoinI2 N env Inv) h1 fun a w ⟨a1, a2, hi, ha⟩ => h2 a1 a2 w hi a ha
theorem WX.meetE2 {σ1 σ2 : Type} {env : σ1 → σ2 → Env} {Inv : σ1 → σ2 → World → Prop} (a1 : σ1) (a2 : σ2) (hi : Inv a1 a2 w) (hs : Sub E (env a1 a2)) : WX (Exit.then (JoinI2 N env Inv) Q) .normal N E w :=
  WX.meet fun _ ha => ⟨a1, a2, hi, hs.ag ha⟩
def LoopI3 {σ1 σ2 σ3 : Type} (N : Nat) (env : σ1 → σ2 → σ3 → Env) (Inv : σ1 → σ2 → σ3 → Nat → World → Prop) (m : Nat) (a : Act) (w : World) : Prop := ∃ a1 a2 a3, Inv a1 a2 a3 m w ∧ Ag a N (env a1 a2 a3)
theorem WC.loopE3 {σ1 σ2 σ3 : Type} (env : σ1 → σ2 → σ3 → Env) (Inv : σ1 → σ2 → σ3 → Nat → World → Prop) (n : Nat) (a1 : σ1) (a2 : σ2) (a3 : σ3) (h0 : Inv a1 a2 a3 n w) (hs : Sub E (env a1 a2 a3))
    (round : ∀ a1 a2 a3 n w, Inv a1 a2 a3 n w → WC P (Exit.then (Again (LoopI3 N env Inv) n) Q) N (env a1 a2 a3) c w) : WC P Q N E (.loop c) w :=
  WC.loop (LoopI3 N env Inv) n (fun _ ha => ⟨a1, a2, a3, h0, hs.ag ha⟩) (fun n a w ⟨a1, a2, a3, hi, ha⟩ => round a1 a2 a3 n w hi a ha)
theorem WX.againE3 {σ1 σ2 σ3 : Type} {env : σ1 → σ2 → σ3 → Env} {Inv : σ1 → σ2 → σ3 → Nat → World → Prop} {n : Nat} (a1 : σ1) (a2 : σ2) (a3 : σ3) (m : Nat) (hm : m < n) (hi : Inv a1 a2 a3 m w) (hs : Sub E (env a1 a2 a3)) :
    WX (Exit.then (Again (LoopI3 N env Inv) n) Q) .normal N E w := WX.again hm fun _ ha => ⟨a1, a2, a3, hi, hs.ag ha⟩
def JoinI3 {σ1 σ2 σ3 : Type} (N : Nat) (env : σ1 → σ2 → σ3 → Env) (Inv : σ1 → σ2 → σ3 → World → Prop) (a : Act) (w : World) : Prop := ∃ a1 a2 a3, Inv a1 a2 a3 w ∧ Ag a N (env a1 a2 a3)
theorem WC.seqE3 {σ1 σ2 σ3 : Type} (env : σ1 → σ2 → σ3 → Env) (Inv : σ1 → σ2 → σ3 → World → Prop) (h1 : WC P (Exit.then (JoinI3 N env Inv) Q) N E x w) (h2 : ∀ a1 a2 a3 w, Inv a1 a2 a3 w → WC P Q N (env a1 a2 a3) y w) : WC P Q N E (.seq x y) w :=
  WC.seqR (JoinI3 N env Inv) h1 fun a w ⟨a1, a2, a3, hi, ha⟩ => h2 a1 a2 a3 w hi a ha
theorem WX.meetE3 {σ1 σ2 σ3 : Type} {env : σ1 → σ2 → σ3 → Env} {Inv : σ1 → σ2 → σ3 → World → Prop} (a1 : σ1) (a2 : σ2) (a3 : σ3) (hi : Inv a1 a2 a3 w) (hs : Sub E (env a1 a2 a3)) : WX (Exit.then (JoinI3 N env Inv) Q) .normal N E w :=
  WX.meet fun _ ha => ⟨a1, a2, a3, hi, hs.ag ha⟩
def LoopI4 {σ1 σ2 σ3 σ4 : Type} (N : Nat) (env : σ1 → σ2 → σ3 → σ4 → Env) (Inv : σ1 → σ2 → σ3 → σ4 → Nat → World → Prop) (m : Nat) (a : Act) (w : World) : Prop := ∃ a1 a2 a3 a4, Inv a1 a2 a3 a4 m w ∧ Ag a N (env a1 a2 a3 a4)
theorem WC.loopE4 {σ1 σ2 σ3 σ4 : Type} (env : σ1 → σ2 → σ3 → σ4 → Env) (Inv : σ1 → σ2 → σ3 → σ4 → Nat → World → Prop) (n : Nat) (a1 : σ1) (a2 : σ2) (a3 : σ3) (a4 : σ4) (h0 : Inv a1 a2 a3 a4 n w) (hs : Sub E (env a1 a2 a3 a4))
    (round : ∀ a1 a2 a3 a4 n w, Inv a1 a2 a3 a4 n w → WC P (Exit.then (Again (LoopI4 N env Inv) n) Q) N (env a1 a2 a3 a4) c w) : WC P Q N E (.loop c) w :=
  WC.loop (LoopI4 N env Inv) n (fun _ ha => ⟨a1, a2, a3, a4, h0, hs.ag ha⟩) (fun n a w ⟨a1, a2, a3, a4, hi, ha⟩ => round a1 a2 a3 a4 n w hi a ha)
theorem WX.againE4 {σ1 σ2 σ3 σ4 : Type} {env : σ1 → σ2 → σ3 → σ4 → Env} {Inv : σ1 → σ2 → σ3 → σ4 → Nat → World → Prop} {n : Nat} (a1 : σ1) (a2 : σ2) (a3 : σ3) (a4 : σ4) (m : Nat) (hm : m < n) (hi : Inv a1 a2 a3 a4 m w) (hs : Sub E (env a1 a2 a3 a4)) :
    WX (Exit.then (Again (LoopI4 N env Inv) n) Q) .normal N E w := WX.again hm fun _ ha => ⟨a1, a2, a3, a4, hi, hs.ag ha⟩
def JoinI4 {σ1 σ2 σ3 σ4 : Type} (N : Nat) (env : σ1 → σ2 → σ3 → σ4 → Env) (Inv : σ1 → σ2 → σ3 → σ4 → World → Prop) (a : Act) (w : World) : Prop := ∃ a1 a2 a3 a4, Inv a1 a2 a3 a4 w ∧ Ag a N (env a1 a2 a3 a4)
theorem WC.seqE4 {σ1 σ2 σ3 σ4 : Type} (env : σ1 → σ2 → σ3 → σ4 → Env) (Inv : σ1 → σ2 → σ3 → σ4 → World → Prop) (h1 : WC P (Exit.then (JoinI4 N env Inv) Q) N E x w) (h2 : ∀ a1 a2 a3 a4 w, Inv a1 a2 a3 a4 w → WC P Q N (env a1 a2 a3 a4) y w) : WC P Q N E (.seq x y) w :=
  WC.seqR (JoinI4 N env Inv) h1 fun a w ⟨a1, a2, a3, a4, hi, ha⟩ => h2 a1 a2 a3 a4 w hi a ha
theorem WX.meetE4 {σ1 σ2 σ3 σ4 : Type} {env : σ1 → σ2 → σ3 → σ4 → Env} {Inv : σ1 → σ2 → σ3 → σ4 → World → Prop} (a1 : σ1) (a2 : σ2) (a3 : σ3) (a4 : σ4) (hi : Inv a1 a2 a3 a4 w) (hs : Sub E (env a1 a2 a3 a4)) : WX (Exit.then (JoinI4 N env Inv) Q) .normal N E w :=
  WX.meet fun _ ha => ⟨a1, a2, a3, a4, hi, hs.ag ha⟩
def LoopI5 {σ1 σ2 σ3 σ4 σ5 : Type} (N : Nat) (env : σ1 → σ2 → σ3 → σ4 → σ5 → Env) (Inv : σ1 → σ2 → σ3 → σ4 → σ5 → Nat → World → Prop) (m : Nat) (a : Act) (w : World) : Prop := ∃ a1 a2 a3 a4 a5, Inv a1 a2 a3 a4 a5 m w ∧ Ag a N (env a1 a2 a3 a4 a5)
theorem WC.loopE5 {σ1 σ2 σ3 σ4 σ5 : Type} (env : σ1 → σ2 → σ3 → σ4 → σ5 → Env) (Inv : σ1 → σ2 → σ3 → σ4 → σ5 → Nat → World → Prop) (n : Nat) (a1 : σ1) (a2 : σ2) (a3 : σ3) (a4 : σ4) (a5 : σ5) (h0 : Inv a1 a2 a3 a4 a5 n w) (hs : Sub E (env a1 a2 a3 a4 a5))
    (round : ∀ a1 a2 a3 a4 a5 n w, Inv a1 a2 a3 a4 a5 n w → WC P (Exit.then (Again (LoopI5 N env Inv) n) Q) N (env a1 a2 a3 a4 a5) c w) : WC P Q N E (.loop c) w :=
  WC.loop (LoopI5 N env Inv) n (fun _ ha => ⟨a1, a2, a3, a4, a5, h0, hs.ag ha⟩) (fun n a w ⟨a1, a2, a3, a4, a5, hi, ha⟩ => round a1 a2 a3 a4 a5 n w hi a ha)
theorem WX.againE5 {σ1 σ2 σ3 σ4 σ5 : Type} {env : σ1 → σ2 → σ3 → σ4 → σ5 → Env} {Inv : σ1 → σ2 → σ3 → σ4 → σ5 → Nat → World → Prop} {n : Nat} (a1 : σ1) (a2 : σ2) (a3 : σ3) (a4 : σ4) (a5 : σ5) (m : Nat) (hm : m < n) (hi : Inv a1 a2 a3 a4 a5 m w) (hs : Sub E (env a1 a2 a3 a4 a5)) :
    WX (Exit.then (Again (LoopI5 N env Inv) n) Q) .normal N E w := WX.again hm fun _ ha => ⟨a1, a2, a3, a4, a5, hi, hs.ag ha⟩
def JoinI5 {σ1 σ2 σ3 σ4 σ5 : Type} (N : Nat) (env : σ1 → σ2 → σ3 → σ4 → σ5 → Env) (Inv : σ1 → σ2 → σ3 → σ4 → σ5 → World → Prop) (a : Act) (w : World) : Prop := ∃ a1 a2 a3 a4 a5, Inv a1 a2 a3 a4 a5 w ∧ Ag a N (env a1 a2 a3 a4 a5)
theorem WC.seqE5 {σ1 σ2 σ3 σ4 σ5 : Type} (env : σ1 → σ2 → σ3 → σ4 → σ5 → Env) (Inv : σ1 → σ2 → σ3 → σ4 → σ5 → World → Prop) (h1 : WC P (Exit.then (JoinI5 N env Inv) Q) N E x w) (h2 : ∀ a1 a2 a3 a4 a5 w, Inv a1 a2 a3 a4 a5 w → WC P Q N (env a1 a2 a3 a4 a5) y w) : WC P Q N E (.seq x y) w :=
  WC.seqR (JoinI5 N env Inv) h1 fun a w ⟨a1, a2, a3, a4, a5, hi, ha⟩ => h2 a1 a2 a3 a4 a5 w hi a ha
theorem WX.meetE5 {σ1 σ2 σ3 σ4 σ5 : Type} {env : σ1 → σ2 → σ3 → σ4 → σ5 → Env} {Inv : σ1 → σ2 → σ3 → σ4 → σ5 → World → Prop} (a1 : σ1) (a2 : σ2) (a3 : σ3) (a4 : σ4) (a5 : σ5) (hi : Inv a1 a2 a3 a4 a5 w) (hs : Sub E (env a1 a2 a3 a4 a5)) : WX (Exit.then (JoinI5 N env Inv) Q) .normal N E w :=
  WX.meet fun _ ha => ⟨a1, a2, a3, a4, a5, hi, hs.ag ha⟩
theorem WC.thenMono {K K' : Act → World → Prop} {Q : Exit → Act → World → Prop} (h1 : WC P (Exit.then K' Q) N E c w) (h2 : ∀ a w, K' a w → K a w) : WC P (Exit.then K Q) N E c w :=
  fun a ha => wp_mono (h1 a ha) fun e a' w' hq => by cases e <;> first | exact h2 _ _ hq | exact hq
theorem WC.joinE {σ : Type} {Q2 : Exit → Act → World → Prop} (env : σ → Env) (Inv : σ → World → Prop) (h1 : WC P (Exit.then (JoinI N env Inv) Q) N E c w) (h2 : ∀ s w, Inv s w → WC P Q2 N (env s) y w) : WC P (Exit.then (fun a w => y.wp P Q2 a w) Q) N E c w :=
  WC.thenMono h1 fun a w ⟨s, hi, ha⟩ => h2 s w hi a ha
theorem WC.joinE0 {Q2 : Exit → Act → World → Prop} (env : Env) (Inv : World → Prop) (h1 : WC P (Exit.then (fun a w => Inv w ∧ Ag a N env) Q) N E c w) (h2 : ∀ w, Inv w → WC P Q2 N env y w) : WC P (Exit.then (fun a w => y.wp P Q2 a w) Q) N E c w :=
  WC.thenMono h1 fun a w ⟨hi, ha⟩ => h2 w hi a ha
theorem WX.meetE0 {env : Env} {Inv : World → Prop} (hi : Inv w) (hs : Sub E env) : WX (Exit.then (fun a w => Inv w ∧ Ag a N env) Q) .normal N E w :=
  WX.meet fun _ ha => ⟨hi, hs.ag ha⟩
theorem WC.joinE2 {σ1 σ2 : Type} {Q2 : Exit → Act → World → Prop} (env : σ1 → σ2 → Env) (Inv : σ1 → σ2 → World → Prop) (h1 : WC P (Exit.then (JoinI2 N env Inv) Q) N E c w) (h2 : ∀ a1 a2 w, Inv a1 a2 w → WC P Q2 N (env a1 a2) y w) : WC P (Exit.then (fun a w => y.wp P Q2 a w) Q) N E c w :=
  WC.thenMono h1 fun a w ⟨a1, a2, hi, ha⟩ => h2 a1 a2 w hi a ha
theorem WC.joinE3 {σ1 σ2 σ3 : Type} {Q2 : Exit → Act → World → Prop} (env : σ1 → σ2 → σ3 → Env) (Inv : σ1 → σ2 → σ3 → World → Prop) (h1 : WC P (Exit.then (JoinI3 N env Inv) Q) N E c w) (h2 : ∀ a1 a2 a3 w, Inv a1 a2 a3 w → WC P Q2 N (env a1 a2 a3) y w) : WC P (Exit.then (fun a w => y.wp P Q2 a w) Q) N E c w :=
  WC.thenMono h1 fun a w ⟨a1, a2, a3, hi, ha⟩ => h2 a1 a2 a3 w hi a ha
theorem WC.joinE4 {σ1 σ2 σ3 σ4 : Type} {Q2 : Exit → Act → World → Prop} (env : σ1 → σ2 → σ3 → σ4 → Env) (Inv : σ1 → σ2 → σ3 → σ4 → World → Prop) (h1 : WC P (Exit.then (JoinI4 N env Inv) Q) N E c w) (h2 : ∀ a1 a2 a3 a4 w, Inv a1 a2 a3 a4 w → WC P Q2 N (env a1 a2 a3 a4) y w) : WC P (Exit.then (fun a w => y.wp P Q2 a w) Q) N E c w :=
  WC.thenMono h1 fun a w ⟨a1, a2, a3, a4, hi, ha⟩ => h2 a1 a2 a3 a4 w hi a ha
theorem WC.joinE5 {σ1 σ2 σ3 σ4 σ5 : Type} {Q2 : Exit → Act → World → Prop} (env : σ1 → σ2 → σ3 → σ4 → σ5 → Env) (Inv : σ1 → σ2 → σ3 → σ4 → σ5 → World → Prop) (h1 : WC P (Exit.then (JoinI5 N env Inv) Q) N E c w) (h2 : ∀ a1 a2 a3 a4 a5 w, Inv a1 a2 a3 a4 a5 w → WC P Q2 N (env a1 a2 a3 a4 a5) y w) : WC P (Exit.then (fun a w => y.wp P Q2 a w) Q) N E c w :=
  WC.thenMono h1 fun a w ⟨a1, a2, a3, a4, a5, hi, ha⟩ => h2 a1 a2 a3 a4 a5 w hi a ha
section
variable {z : Code} {id : Nat} {l : Array Oper} {b : Bool}
theorem WC.seq_s (h : WC P (Exit.then (fun a w => (Code.seq y z).wp P Q a w) Q) N E x w) : WC P Q N E (.seq x (.seq y z)) w := WC.seq h
theorem WC.seq_r (h : WC P (Exit.then (fun a w => (Code.region id l b).wp P Q a w) Q) N E x w) : WC P Q N E (.seq x (.region id l b)) w := WC.seq h
theorem WC.seq_b (h : WC P (Exit.then (fun a w => (Code.block id y).wp P Q a w) Q) N E x w) : WC P Q N E (.seq x (.block id y)) w := WC.seq h
theorem WC.seq_t (h : WC P (Exit.then (fun a w => Code.ret.wp P Q a w) Q) N E x w) : WC P Q N E (.seq x .ret) w := WC.seq h
theorem WC.seq_k (h : WC P (Exit.then (fun a w => Code.skip.wp P Q a w) Q) N E x w) : WC P Q N E (.seq x .skip) w := WC.seq h
theorem WC.seq_e (h : WC P (Exit.then (fun a w => (Code.exit id).wp P Q a w) Q) N E x w) : WC P Q N E (.seq x (.exit id)) w := WC.seq h
theorem WC.seq_l (h : WC P (Exit.then (fun a w => (Code.loop y).wp P Q a w) Q) N E x w) : WC P Q N E (.seq x (.loop y)) w := WC.seq h
end
/-- a way that is taken, with what it says -/
theorem WC.condD {s : Nat} {p : Prop} [Decidable p] (hb : look E s = some (.bool (decide p))) (h1 : p → WC P Q N ((s, .bool true) :: E) x w) (h2 : ¬ p → WC P Q N ((s, .bool false) :: E) y w) : WC P Q N E (.cond (.tmp s) x y) w :=
  WC.cond hb (fun h => h1 (of_decide_eq_true h)) (fun h => h2 (of_decide_eq_false h))
theorem WC.condN {s : Nat} {p : Prop} [Decidable p] (hb : look E s = some (.bool (!decide p))) (h1 : ¬ p → WC P Q N ((s, .bool true) :: E) x w) (h2 : p → WC P Q N ((s, .bool false) :: E) y w) : WC P Q N E (.cond (.tmp s) x y) w :=
  WC.cond hb (fun h => h1 (by simpa using h)) (fun h => h2 (by simpa using h))
theorem WC.ifT {s : Nat} {b : Bool} (hb : look E s = some (.bool b)) (e : b = true) (h1 : WC P Q N E x w) : WC P Q N E (.cond (.tmp s) x y) w := WC.cond_true (e ▸ hb) h1
theorem WC.ifF {s : Nat} {b : Bool} (hb : look E s = some (.bool b)) (e : b = false) (h1 : WC P Q N E y w) : WC P Q N E (.cond (.tmp s) x y) w := WC.cond_false (e ▸ hb) h1
theorem WX.ret3 {fn : Func} {S : Value → World → Prop} {s1 s2 s3 : Nat} {v1 v2 v3 : Value} (hr : fn.results = #[.tmp s1, .tmp s2, .tmp s3]) (h1 : look E s1 = some v1) (h2 : look E s2 = some v2) (h3 : look E s3 = some v3) (h : S (.tuple #[v1, v2, v3]) w) : WX (bodyPost P fn (Ret S)) .ret N E w := by
  intro a ha
  have e : (results fn a.tmps).run P w = .ok (.tuple #[v1, v2, v3]) w := by simp [results, hr, ha.at_ _ _ h1, ha.at_ _ _ h2, ha.at_ _ _ h3]
  exact bodyPost_ret e ha.defers h
theorem WC.end0 {fn : Func} {S : Value → World → Prop} (hr : fn.results = #[]) (h : S (.tuple #[]) w) : WX (bodyPost P fn (Ret S)) .normal N E w := WX.end0 hr h
end

/-- of a row that has an element: where it lies -/
theorem RowOf.ne {α : Type} {enc : α → List Value} {k : Nat} {w : World} {A : Option Addr} {n : Nat} {f : Nat → α} (h : RowOf enc k w A n f) (hn : 0 < n) : ∃ b o, A = some ⟨b, o, none⟩ ∧ b < w.heap.size := by
  obtain ⟨b, o, h1, h2, _⟩ := h hn
  exact ⟨b, o, h1, h2⟩
section
variable {α : Type} {enc : α → List Value} {k : Nat} {w : World} {b o n i : Nat} {f : Nat → α}
theorem RowOf.get (h : RowOf enc k w (some ⟨b, o, none⟩) n f) (hi : i < n) : ∀ j u, (enc (f i))[j]? = some u → w.cell? ⟨b, o + i * k + j, none⟩ = some u := by
  obtain ⟨b', o', h1, _, h3⟩ := h (by omega)
  injection h1 with h1; injection h1 with h1 h2; subst h1 h2
  exact h3 i hi
theorem RowOf.getB (h : RowOf enc k w (some ⟨b, o, none⟩) n f) (hi : i < n) : ∀ w', Below w.heap.size w w' → ∀ j u, (enc (f i))[j]? = some u → w'.cell? ⟨b, o + i * k + j, none⟩ = some u :=
  fun w' hb => (h.below hb).get hi
theorem RowOf.getH (h : RowOf enc k w (some ⟨b, o, none⟩) n f) (hi : i < n) : ∀ w' : World, w'.heap = w.heap → ∀ j u, (enc (f i))[j]? = some u → w'.cell? ⟨b, o + i * k + j, none⟩ = some u :=
  fun w' hb => (h.heap hb).get hi
end

section
variable {P : Program} {ops : Array Oper} {K : Env → World → Prop} {C : World → Prop} {R : Env → Prop} {N : Nat} {E : Env} {rest : List Oper} {w w' : World} {op : Op} {t : TypeId} {pos : String} {after : Array Edge} {d : Nat}
  {x y i : Operand} {v z : Value} {e : TypeId} {sz bytes : Nat} {p : Addr}
/-- a cell read -/
theorem WL.ld1 (hx : evE E x = some (.pointer (some p))) (ty : Ty P e false sz bytes z) (hd : Nat.blt d N = true) (hc : w.cell? p = some v) (h : WL P ops K N ((d, v) :: E) rest w) :
    WL P ops K N E (⟨some d, .load e x, t, pos, after, none⟩ :: rest) w := WL.step (OpV.load1 ty hx hc) hd h
theorem QL.ld1 (hx : evE E x = some (.pointer (some p))) (ty : Ty P e false sz bytes z) (hd : Nat.blt d N = true) (hc : ∀ w, C w → w.cell? p = some v) (h : QL P ops C R N ((d, v) :: E) rest) :
    QL P ops C R N E (⟨some d, .load e x, t, pos, after, none⟩ :: rest) := QL.step (fun w hw => OpV.load1 ty hx (hc w hw)) hd h
theorem RL.ld1 (hx : evE E x = some (.pointer (some p))) (ty : Ty P e false sz bytes z) (hd : Nat.blt d N = true) (hc : ∀ w, C w → w.cell? p = some v) (h : R ((d, v) :: E)) :
    RL P ops C R N E ⟨some d, .load e x, t, pos, after, none⟩ := RL.step (fun w hw => OpV.load1 ty hx (hc w hw)) hd h
/-- an element of a row read whole -/
theorem WL.ldK {α : Type} {enc : α → List Value} {k b o i n : Nat} {f : Nat → α} (hx : evE E x = some (.pointer (some ⟨b, o + i * k, none⟩))) (ty : Ty P e true k bytes z) (hd : Nat.blt d N = true) (hk : ∀ x, (enc x).length = k)
    (hr : RowOf enc k w (some ⟨b, o, none⟩) n f) (hi : i < n) (h : WL P ops K N ((d, .agg (enc (f i)).toArray) :: E) rest w) :
    WL P ops K N E (⟨some d, .load e x, t, pos, after, none⟩ :: rest) w := WL.step (OpV.loadK (cs := enc (f i)) ty hx (hk _) (hr.get hi)) hd h
theorem QL.ldK {α : Type} {enc : α → List Value} {k b o i n : Nat} {f : Nat → α} (hx : evE E x = some (.pointer (some ⟨b, o + i * k, none⟩))) (ty : Ty P e true k bytes z) (hd : Nat.blt d N = true) (hk : ∀ x, (enc x).length = k)
    (hr : RowOf enc k w (some ⟨b, o, none⟩) n f) (hi : i < n) (h : QL P ops (fun w' => Below w.heap.size w w') R N ((d, .agg (enc (f i)).toArray) :: E) rest) :
    QL P ops (fun w' => Below w.heap.size w w') R N E (⟨some d, .load e x, t, pos, after, none⟩ :: rest) := QL.step (fun _ hw => OpV.loadK (cs := enc (f i)) ty hx (hk _) ((hr.below hw).get hi)) hd h
theorem RL.ldKh {α : Type} {enc : α → List Value} {k b o i n : Nat} {f : Nat → α} (hx : evE E x = some (.pointer (some ⟨b, o + i * k, none⟩))) (ty : Ty P e true k bytes z) (hd : Nat.blt d N = true) (hk : ∀ x, (enc x).length = k)
    (hr : RowOf enc k w (some ⟨b, o, none⟩) n f) (hi : i < n) (h : R ((d, .agg (enc (f i)).toArray) :: E)) :
    RL P ops (fun w' => w'.heap = w.heap) R N E ⟨some d, .load e x, t, pos, after, none⟩ := RL.step (fun _ hw => OpV.loadK (cs := enc (f i)) ty hx (hk _) ((hr.heap hw).get hi)) hd h
theorem RL.ldKb {α : Type} {enc : α → List Value} {k b o i n : Nat} {f : Nat → α} (hx : evE E x = some (.pointer (some ⟨b, o + i * k, none⟩))) (ty : Ty P e true k bytes z) (hd : Nat.blt d N = true) (hk : ∀ x, (enc x).length = k)
    (hr : RowOf enc k w (some ⟨b, o, none⟩) n f) (hi : i < n) (h : R ((d, .agg (enc (f i)).toArray) :: E)) :
    RL P ops (fun w' => Below w.heap.size w w') R N E ⟨some d, .load e x, t, pos, after, none⟩ := RL.step (fun _ hw => OpV.loadK (cs := enc (f i)) ty hx (hk _) ((hr.below hw).get hi)) hd h
theorem OL.readA {H : World → Prop} {l : List Oper} {r : List (Nat × Nat)} {o : Oper} {j : Nat} (h : RL P l.toArray H (fun E' => OL P l.toArray H K N E' r w) N E o) (hH : H w := by first | assumption | rfl) (ho' : nthO l j = some o := by with_unfolding_all exact rfl) :
    OL P l.toArray H K N E ((j, 1) :: r) w := OL.read hH ho' h
/-- a region that only reads: a world behind it in which all is as it was -/
theorem WC.quietE {Q : Exit → Act → World → Prop} {id : Nat} {l : List Oper} (hm : P.follows .mixedOrders = true) (hB : Region.lexB .any l.toArray = true)
    (h : QL P l.toArray (fun w' => Below w.heap.size w w') (fun E => ∀ w', Below w.heap.size w w' → WX Q .normal N E w') N E l) : WC P Q N E (.region id l.toArray true) w :=
  WC.quiet hm hB fun K hK => by
    intro a ha
    exact wpQuiet_mono' l a (h a ha) (fun a' ⟨E', ha', hh⟩ => ⟨E', ha', hK E' hh⟩)
theorem QL.done {C' : World → Prop} {R' : Env → Prop} (h : R' E) : QL P ops C' R' N E [] := QL.nil h
end
end Rk
namespace Rk
open Go Go.RowKit
theorem callsQ {P : Program} {f : FuncId} {args : Array Value} {w w0 : World} {u : Value} (hc : Calls P f args w (Ret fun v w' => v = u ∧ Below w.heap.size w w')) (hb : Below w0.heap.size w0 w) :
    Calls P f args w (Ret fun v w' => v = u ∧ Below w0.heap.size w0 w') := hc.mono fun e w1 he => by
  cases e with
  | returned v => exact ⟨he.1, hb.tr he.2⟩
  | panicked ch => exact he
  | outgrown => exact he
end Rk
namespace Rk
open Go Go.RowKit
/-- v's block and u's are there, and are not one -/
structure Sep (w : World) (v u : Value) : Prop where
  left : ∀ g, v.ownBlock = some g → g < w.heap.size
  right : ∀ g, u.ownBlock = some g → g < w.heap.size
  apart : ∀ g, v.ownBlock = some g → u.ownBlock ≠ some g
section
variable {w w' : World} {v u v' : Value} {row : Option Nat}
theorem Sep.symm (h : Sep w v u) : Sep w u v := ⟨h.right, h.left, fun g hg hv => h.apart g hv hg⟩
theorem Sep.size (h : Sep w v u) (hs : w.heap.size ≤ w'.heap.size) : Sep w' v u := ⟨fun g hg => Nat.lt_of_lt_of_le (h.left g hg) hs, fun g hg => Nat.lt_of_lt_of_le (h.right g hg) hs, h.apart⟩
theorem Sep.nil (h : ∀ g, v.ownBlock = some g → g < w.heap.size) (hu : u.ownBlock = none) : Sep w v u := ⟨h, fun g hg => (by rw [hu] at hg; cases hg), fun g _ => (by rw [hu]; simp)⟩
theorem Sep.rows (h : Sep w v u) (hr : row = none ∨ row = v.ownBlock) : u.ownBlock = none ∨ u.ownBlock ≠ row := by
  rcases hr with rfl | rfl
  · cases hu : u.ownBlock with
    | none => exact .inl rfl
    | some g => exact .inr (by simp)
  · cases hv : v.ownBlock with
    | none =>
      cases hu : u.ownBlock with
      | none => exact .inl rfl
      | some g => exact .inr (by simp)
    | some g => exact .inr (h.apart g hv)
theorem Sep.next (h : Sep w v u) (hs : w.heap.size < w'.heap.size ∨ v'.ownBlock = v.ownBlock) (hs' : w.heap.size ≤ w'.heap.size) (hv : v'.ownBlock = v.ownBlock ∨ v'.ownBlock = some w.heap.size) : Sep w' v' u := by
  rcases hv with e | e
  · exact ⟨fun g hg => Nat.lt_of_lt_of_le (h.left g (e ▸ hg)) hs', fun g hg => Nat.lt_of_lt_of_le (h.right g hg) hs', fun g hg => h.apart g (e ▸ hg)⟩
  · refine ⟨fun g hg => ?_, fun g hg => Nat.lt_of_lt_of_le (h.right g hg) hs', fun g hg hu => ?_⟩
    · rw [e] at hg; injection hg with hg; subst hg
      rcases hs with hs | hs
      · exact hs
      · exact Nat.lt_of_lt_of_le (h.left _ (hs ▸ e)) hs'
    · rw [e] at hg; injection hg with hg; subst hg
      exact absurd (h.right _ hu) (by omega)
end
theorem OwnL.block_lt {α : Type} {enc : α → List Value} {k : Nat} {e : TypeId} {w : World} {B : Nat} {v : Value} {l : List α} (h : OwnL enc k e w B v l) (hl : l ≠ []) : ∀ g, v.ownBlock = some g → g < w.heap.size ∧ B ≤ g := by
  intro g hg
  have := Own.blk h g hg (fun h0 => hl (List.eq_nil_of_length_eq_zero h0))
  exact ⟨this.2, this.1⟩
section
variable {P : Program} {ops : Array Oper} {K : Env → World → Prop} {N d d2 : Nat} {E : Env} {w : World} {rest : List Oper} {st e : TypeId} {agg : Bool} {k bytes : Nat} {z v av : Value} {t t2 : TypeId} {pos pos2 : String} {after after2 : Array Edge} {x s : Operand}
  {α : Type} {enc : α → List Value} {l : List α} {B : Nat} {a : α}
/-- s = append(s, x): what comes of it, and what it leaves alone -/
theorem WL.push (hk : ∀ x, (enc x).length = k) (h1 : ∀ x, ∀ u ∈ enc x, u.oneCell' = true) (hk0 : 0 < k) (ht : P.underlying st = some (.slice e)) (ty : Ty P e agg k bytes z) (hd : Nat.blt d N = true) (hd2 : Nat.blt d2 N = true)
    (hx : evE E x = some av) (hav : av.cells.toList = enc a) (hs : ∀ q, evE ((d, q) :: E) s = some v) (ho : OwnL enc k e w B v l) (hb : (l.length + 1) * bytes ≤ 140737488355328) (hlen : l.length + 1 ≤ 1000000) (hksm : k ≤ 16) (hB : B ≤ w.heap.size)
    (h : ∀ v' w' row q, OwnL enc k e w' B v' (l ++ [a]) → w.grownBy w' row → (row = none ∨ row = v.ownBlock) → (∀ g, row = some g → B ≤ g) → (∀ g, v'.ownBlock = some g → g < w'.heap.size) → (∀ u, Sep w v u → Sep w' v' u) → w.heap.size < w'.heap.size →
      WL P ops K N ((d2, v') :: (d, q) :: E) rest w') :
    WL P ops K N E (⟨some d, .buildSlice st 1 #[(0, x)], t, pos, after, none⟩ :: ⟨some d2, .call { callee := .builtin .append, args := #[s, .tmp d], argTypes := #[st, st] }, t2, pos2, after2, none⟩ :: rest) w := by
  have hac : av.cells.size = k := by have := congrArg List.length hav; rw [hk] at this; simpa using this
  refine WL.lit (xs := [x]) (vs := [av]) ht ty hd (by simp [evs, hx]) (by simp [hac]) rfl rfl (by omega) fun w1 hg1 hb1 hz1 => ?_
  have hr1 : RowOf enc k w1 (some ⟨w.heap.size, 0, none⟩) 1 (fun _ => a) := hb1.toRow (enc := enc) (k := k) (f := fun _ => a) 0 fun i hi j u hu => by
    obtain rfl : i = 0 := by omega
    simpa [hav] using hu
  refine WL.append (A := some ⟨w.heap.size, 0, none⟩) (m := 1) (c := 1) (f := fun _ => a) hk h1 hk0 ht ty hd2 (hs _) (by simp [evE, look]) (ho.below (below_of_grown hg1)) hr1 hb (by simp [maxLen]; omega) (by omega) fun v' w' row ho' hg' hrow hB' hv' => ?_
  have hsz := hg'.size
  have hg2 : w.grownBy w' row := grownBy_tr ⟨hg1.os, hg1.tape, hg1.output, hg1.size, fun k hk _ => hg1.block k hk (by simp)⟩ hg'
  have hne : l ++ segL (fun _ => a) 1 ≠ [] := by simp [segL]
  have h2 : ∀ g, v'.ownBlock = some g → g < w'.heap.size := fun g hg => (ho'.block_lt hne g hg).1
  refine h v' w' row _ (by simpa [segL] using ho') hg2 hrow hB' h2 (fun u hu => ?_) (by omega)
  refine ⟨h2, fun g hg => by have := hu.right g hg; omega, fun g hg hu' => ?_⟩
  rcases hv' with e1 | e1
  · exact hu.apart g (e1 ▸ hg) hu'
  · rw [e1] at hg; injection hg with hg; subst hg
    have := hu.right _ hu'; omega
end
end Rk
