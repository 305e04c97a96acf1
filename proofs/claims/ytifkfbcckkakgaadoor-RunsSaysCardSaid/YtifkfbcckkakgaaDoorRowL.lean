/- The walk's own rules: lists of lists of numbers, of the call's own, and as they are read. -/
import Derived.Test.YtifkfbcckkakgaaDoorSl
namespace Rk
open Go Go.RowKit Go.Proofs
theorem unRows : Tryd.prog.underlying 31 = some (.slice 22) := by kernel_rfl
theorem tyRows : Ty Tryd.prog 31 false 1 24 (.slice none 0 0) := Ty.mk' (by kernel_rfl) (fun _ => by kernel_rfl) rfl
section
variable {E : Env} {w : World} {t : TypeId} {x y : Operand} {bk o n c j : Nat}
theorem OpV.rowAddrN (hx : evE E x = some (.slice (some ⟨bk, o, none⟩) n c)) (hi : evE E y = some (.int .i64 (j : Int))) (hn : j < n) :
    OpV Tryd.prog (.indexAddr 31 x y) t E w (.pointer (some ⟨bk, o + j * 1, none⟩)) w := OpV.indexAddr unRows tyInts.size hx hi (by omega) (by omega)
theorem OpV.rowAddr0 (hx : evE E x = some (.slice (some ⟨bk, o, none⟩) n c)) (hn : 0 < n) :
    OpV Tryd.prog (.indexAddr 31 x (.const (.int .i64 0))) t E w (.pointer (some ⟨bk, o + 0 * 1, none⟩)) w := OpV.indexAddr (j := 0) unRows tyInts.size hx rfl (by omega) (by omega)
theorem OpV.rowAddr1 (hx : evE E x = some (.slice (some ⟨bk, o, none⟩) n c)) (hn : 1 < n) :
    OpV Tryd.prog (.indexAddr 31 x (.const (.int .i64 1))) t E w (.pointer (some ⟨bk, o + 1 * 1, none⟩)) w := OpV.indexAddr (j := 1) unRows tyInts.size hx rfl (by omega) (by omega)
theorem OpV.lenRows {A : Option Addr} (hx : evE E x = some (.slice A n c)) {rt : TypeId} : OpV Tryd.prog (.call { callee := .builtin .len, args := #[x], argTypes := #[31] }) rt E w (.int .i64 n) w := OpV.len_slice unRows hx
section
variable {ops : Array Oper} {K : Env → World → Prop} {N d_ : Nat} {rest : List Oper} {pos : String} {after : Array Edge} {C : World → Prop} {R : Env → Prop}
theorem WL.rowAddrN  (h_ : WL Tryd.prog ops K N ((d_, (.pointer (some ⟨bk, o + j * 1, none⟩))) :: E) rest w) (hx : evE E x = some (.slice (some ⟨bk, o, none⟩) n c) := by with_unfolding_all exact rfl) (hi : evE E y = some (.int .i64 (j : Int)) := by with_unfolding_all exact rfl) (hn : j < n := by omega) (hd_ : Nat.blt d_ N = true := by with_unfolding_all exact rfl) :
    WL Tryd.prog ops K N E (⟨some d_, .indexAddr 31 x y, t, pos, after, none⟩ :: rest) w := WL.step (OpV.rowAddrN hx hi hn) hd_ h_
theorem QL.rowAddrN  (h_ : QL Tryd.prog ops C R N ((d_, (.pointer (some ⟨bk, o + j * 1, none⟩))) :: E) rest) (hx : evE E x = some (.slice (some ⟨bk, o, none⟩) n c) := by with_unfolding_all exact rfl) (hi : evE E y = some (.int .i64 (j : Int)) := by with_unfolding_all exact rfl) (hn : j < n := by omega) (hd_ : Nat.blt d_ N = true := by with_unfolding_all exact rfl) :
    QL Tryd.prog ops C R N E (⟨some d_, .indexAddr 31 x y, t, pos, after, none⟩ :: rest) := QL.step (fun _ _ => OpV.rowAddrN hx hi hn) hd_ h_
theorem RL.rowAddrN  (h_ : R ((d_, (.pointer (some ⟨bk, o + j * 1, none⟩))) :: E)) (hx : evE E x = some (.slice (some ⟨bk, o, none⟩) n c) := by with_unfolding_all exact rfl) (hi : evE E y = some (.int .i64 (j : Int)) := by with_unfolding_all exact rfl) (hn : j < n := by omega) (hd_ : Nat.blt d_ N = true := by with_unfolding_all exact rfl) :
    RL Tryd.prog ops C R N E ⟨some d_, .indexAddr 31 x y, t, pos, after, none⟩ := RL.step (fun _ _ => OpV.rowAddrN hx hi hn) hd_ h_
theorem WL.rowAddr0  (h_ : WL Tryd.prog ops K N ((d_, (.pointer (some ⟨bk, o + 0 * 1, none⟩))) :: E) rest w) (hx : evE E x = some (.slice (some ⟨bk, o, none⟩) n c) := by with_unfolding_all exact rfl) (hn : 0 < n := by omega) (hd_ : Nat.blt d_ N = true := by with_unfolding_all exact rfl) :
    WL Tryd.prog ops K N E (⟨some d_, .indexAddr 31 x (.const (.int .i64 0)), t, pos, after, none⟩ :: rest) w := WL.step (OpV.rowAddr0 hx hn) hd_ h_
theorem QL.rowAddr0  (h_ : QL Tryd.prog ops C R N ((d_, (.pointer (some ⟨bk, o + 0 * 1, none⟩))) :: E) rest) (hx : evE E x = some (.slice (some ⟨bk, o, none⟩) n c) := by with_unfolding_all exact rfl) (hn : 0 < n := by omega) (hd_ : Nat.blt d_ N = true := by with_unfolding_all exact rfl) :
    QL Tryd.prog ops C R N E (⟨some d_, .indexAddr 31 x (.const (.int .i64 0)), t, pos, after, none⟩ :: rest) := QL.step (fun _ _ => OpV.rowAddr0 hx hn) hd_ h_
theorem RL.rowAddr0  (h_ : R ((d_, (.pointer (some ⟨bk, o + 0 * 1, none⟩))) :: E)) (hx : evE E x = some (.slice (some ⟨bk, o, none⟩) n c) := by with_unfolding_all exact rfl) (hn : 0 < n := by omega) (hd_ : Nat.blt d_ N = true := by with_unfolding_all exact rfl) :
    RL Tryd.prog ops C R N E ⟨some d_, .indexAddr 31 x (.const (.int .i64 0)), t, pos, after, none⟩ := RL.step (fun _ _ => OpV.rowAddr0 hx hn) hd_ h_
theorem WL.rowAddr1  (h_ : WL Tryd.prog ops K N ((d_, (.pointer (some ⟨bk, o + 1 * 1, none⟩))) :: E) rest w) (hx : evE E x = some (.slice (some ⟨bk, o, none⟩) n c) := by with_unfolding_all exact rfl) (hn : 1 < n := by omega) (hd_ : Nat.blt d_ N = true := by with_unfolding_all exact rfl) :
    WL Tryd.prog ops K N E (⟨some d_, .indexAddr 31 x (.const (.int .i64 1)), t, pos, after, none⟩ :: rest) w := WL.step (OpV.rowAddr1 hx hn) hd_ h_
theorem QL.rowAddr1  (h_ : QL Tryd.prog ops C R N ((d_, (.pointer (some ⟨bk, o + 1 * 1, none⟩))) :: E) rest) (hx : evE E x = some (.slice (some ⟨bk, o, none⟩) n c) := by with_unfolding_all exact rfl) (hn : 1 < n := by omega) (hd_ : Nat.blt d_ N = true := by with_unfolding_all exact rfl) :
    QL Tryd.prog ops C R N E (⟨some d_, .indexAddr 31 x (.const (.int .i64 1)), t, pos, after, none⟩ :: rest) := QL.step (fun _ _ => OpV.rowAddr1 hx hn) hd_ h_
theorem RL.rowAddr1  (h_ : R ((d_, (.pointer (some ⟨bk, o + 1 * 1, none⟩))) :: E)) (hx : evE E x = some (.slice (some ⟨bk, o, none⟩) n c) := by with_unfolding_all exact rfl) (hn : 1 < n := by omega) (hd_ : Nat.blt d_ N = true := by with_unfolding_all exact rfl) :
    RL Tryd.prog ops C R N E ⟨some d_, .indexAddr 31 x (.const (.int .i64 1)), t, pos, after, none⟩ := RL.step (fun _ _ => OpV.rowAddr1 hx hn) hd_ h_
theorem WL.lenRows {A : Option Addr} {rt : TypeId} (h_ : WL Tryd.prog ops K N ((d_, (.int .i64 n)) :: E) rest w) (hx : evE E x = some (.slice A n c) := by with_unfolding_all exact rfl) (hd_ : Nat.blt d_ N = true := by with_unfolding_all exact rfl) :
    WL Tryd.prog ops K N E (⟨some d_, .call { callee := .builtin .len, args := #[x], argTypes := #[31] }, rt, pos, after, none⟩ :: rest) w := WL.step (OpV.lenRows hx) hd_ h_
theorem QL.lenRows {A : Option Addr} {rt : TypeId} (h_ : QL Tryd.prog ops C R N ((d_, (.int .i64 n)) :: E) rest) (hx : evE E x = some (.slice A n c) := by with_unfolding_all exact rfl) (hd_ : Nat.blt d_ N = true := by with_unfolding_all exact rfl) :
    QL Tryd.prog ops C R N E (⟨some d_, .call { callee := .builtin .len, args := #[x], argTypes := #[31] }, rt, pos, after, none⟩ :: rest) := QL.step (fun _ _ => OpV.lenRows hx) hd_ h_
theorem RL.lenRows {A : Option Addr} {rt : TypeId} (h_ : R ((d_, (.int .i64 n)) :: E)) (hx : evE E x = some (.slice A n c) := by with_unfolding_all exact rfl) (hd_ : Nat.blt d_ N = true := by with_unfolding_all exact rfl) :
    RL Tryd.prog ops C R N E ⟨some d_, .call { callee := .builtin .len, args := #[x], argTypes := #[31] }, rt, pos, after, none⟩ := RL.step (fun _ _ => OpV.lenRows hx) hd_ h_
end
end
section
variable {ops : Array Oper} {K : Env → World → Prop} {R : Env → Prop} {N : Nat} {E : Env} {rest : List Oper} {w : World} {t : TypeId} {pos : String} {after : Array Edge} {d : Nat} {x : Operand} {g j : Nat} {te : TypeId} {cs : List Value} {u : Value}
theorem WL.ldCR (h : WL Tryd.prog ops K N ((d, u) :: E) rest w) (hx : evE E x = some (.pointer (some ⟨g, j, none⟩)) := by with_unfolding_all exact rfl) (hb : Bk w g te cs := by assumption) (hu : cs[j]? = some u := by with_unfolding_all exact rfl) (hd : Nat.blt d N = true := by with_unfolding_all exact rfl) : WL Tryd.prog ops K N E (⟨some d, .load 31 x, t, pos, after, none⟩ :: rest) w := WL.step (OpV.load1 tyRows hx (hb.cell hu)) hd h
theorem QL.ldCR (h : QL Tryd.prog ops (fun w' => Below w.heap.size w w') R N ((d, u) :: E) rest) (hx : evE E x = some (.pointer (some ⟨g, j, none⟩)) := by with_unfolding_all exact rfl) (hb : Bk w g te cs := by assumption) (hu : cs[j]? = some u := by with_unfolding_all exact rfl) (hd : Nat.blt d N = true := by with_unfolding_all exact rfl) : QL Tryd.prog ops (fun w' => Below w.heap.size w w') R N E (⟨some d, .load 31 x, t, pos, after, none⟩ :: rest) := QL.step (fun _ hw => OpV.load1 tyRows hx ((hb.below hw).cell hu)) hd h
theorem RL.ldCRB (h : R ((d, u) :: E)) (hx : evE E x = some (.pointer (some ⟨g, j, none⟩)) := by with_unfolding_all exact rfl) (hb : Bk w g te cs := by assumption) (hu : cs[j]? = some u := by with_unfolding_all exact rfl) (hd : Nat.blt d N = true := by with_unfolding_all exact rfl) : RL Tryd.prog ops (fun w' => Below w.heap.size w w') R N E ⟨some d, .load 31 x, t, pos, after, none⟩ := RL.step (fun _ hw => OpV.load1 tyRows hx ((hb.below hw).cell hu)) hd h
theorem RL.ldCRH (h : R ((d, u) :: E)) (hx : evE E x = some (.pointer (some ⟨g, j, none⟩)) := by with_unfolding_all exact rfl) (hb : Bk w g te cs := by assumption) (hu : cs[j]? = some u := by with_unfolding_all exact rfl) (hd : Nat.blt d N = true := by with_unfolding_all exact rfl) : RL Tryd.prog ops (fun w' => w'.heap = w.heap) R N E ⟨some d, .load 31 x, t, pos, after, none⟩ := RL.step (fun _ hw => OpV.load1 tyRows hx ((hb.heap hw).cell hu)) hd h
end
inductive All2 {α β : Type} (R : α → β → Prop) : List α → List β → Prop
  | nil : All2 R [] []
  | cons {a : α} {b : β} {l : List α} {m : List β} (h : R a b) (t : All2 R l m) : All2 R (a :: l) (b :: m)
section
variable {α β : Type} {R S : α → β → Prop}
theorem All2.imp (h : ∀ a b, R a b → S a b) : ∀ {l : List α} {m : List β}, All2 R l m → All2 S l m := by
  intro l m hf
  induction hf with
  | nil => exact .nil
  | cons h1 _ ih => exact .cons (h _ _ h1) ih
theorem All2.imp' : ∀ {l : List α} {m : List β}, All2 R l m → (∀ a ∈ l, ∀ b, R a b → S a b) → All2 S l m := by
  intro l m hf
  induction hf with
  | nil => intro _; exact .nil
  | cons h1 _ ih => intro h; exact .cons (h _ List.mem_cons_self _ h1) (ih fun a ha => h a (List.mem_cons_of_mem _ ha))
theorem All2.len {l : List α} {m : List β} (h : All2 R l m) : l.length = m.length := by
  induction h with
  | nil => rfl
  | cons _ _ ih => simp [ih]
theorem All2.snoc {l : List α} {m : List β} {a : α} {b : β} (h : All2 R l m) (hr : R a b) : All2 R (l ++ [a]) (m ++ [b]) := by
  induction h with
  | nil => exact .cons hr .nil
  | cons h1 _ ih => exact .cons h1 ih
theorem All2.unsnoc {l : List α} {m : List β} {b : β} (h : All2 R l (m ++ [b])) : ∃ l' a, l = l' ++ [a] ∧ All2 R l' m ∧ R a b := by
  induction m generalizing l with
  | nil =>
    cases h with
    | cons h1 t => cases t; exact ⟨[], _, rfl, .nil, h1⟩
  | cons c m ih =>
    cases h with
    | cons h1 t =>
      obtain ⟨l', a, rfl, h2, h3⟩ := ih t
      exact ⟨_ :: l', a, rfl, .cons h1 h2, h3⟩
theorem All2.get [Inhabited α] [Inhabited β] {l : List α} {m : List β} (h : All2 R l m) : ∀ i, i < l.length → R (lf l i) (lf m i) := by
  induction h with
  | nil => intro i hi; simp at hi
  | cons h1 _ ih =>
    intro i hi
    cases i with
    | zero => exact h1
    | succ i => simpa [lf] using ih i (by simpa using hi)
end
/-- what a list of lists owns -/
def rF (ov : Value) (us : List Sl) : Nat → Prop := fun k => ov.ownBlock = some k ∨ ∃ u ∈ us, (slV u).ownBlock = some k
structure RowsM (w : World) (B : Nat) (ov : Value) (us : List Sl) (rows : List (List Int)) : Prop where
  own : OwnL encS 1 22 w B ov us
  rows : All2 (fun u r => OwnN w B (slV u) r) us rows
  sep : us.Pairwise (fun a b => ∀ g, (slV a).ownBlock = some g → (slV b).ownBlock ≠ some g)
  out : ∀ u ∈ us, ∀ g, (slV u).ownBlock = some g → ov.ownBlock ≠ some g
  lt : ∀ k, rF ov us k → k < w.heap.size ∧ B ≤ k
section
variable {w w' : World} {B : Nat} {ov ov' : Value} {us : List Sl} {rows : List (List Int)} {F F' : Nat → Prop} {row : Option Nat}
theorem RowsM.nil (w : World) (B : Nat) : RowsM w B (.slice none 0 0) [] [] :=
  ⟨OwnL.nil _ _ _ _ _ _, .nil, List.Pairwise.nil, fun u hu => (by cases hu), fun k hk => by
    rcases hk with hk | ⟨u, hu, _⟩
    · simp [Value.ownBlock] at hk
    · cases hu⟩
theorem RowsM.chg (h : RowsM w B ov us rows) (hc : Chg w w' F F') (ha : Apart F (rF ov us)) : RowsM w' B ov us rows :=
  ⟨h.own.chg hc (fun g hf hg => ha g hf (.inl hg)) (fun g hg => (h.lt g (.inl hg)).1),
    h.rows.imp' fun u hu r hr => OwnL.chg hr hc (fun g hf hg => ha g hf (.inr ⟨u, hu, hg⟩)) (fun g hg => (h.lt g (.inr ⟨u, hu, hg⟩)).1),
    h.sep, h.out, fun k hk => ⟨Nat.lt_of_lt_of_le (h.lt k hk).1 hc.size, (h.lt k hk).2⟩⟩
theorem RowsM.below (h : RowsM w B ov us rows) (hb : Below w.heap.size w w') : RowsM w' B ov us rows :=
  h.chg (Chg.of_below hb (F := fun _ => False) (fun _ h => h.elim)) (fun _ h _ => h.elim)
theorem RowsM.keep (h : RowsM w B ov us rows) {g : Nat} (hg : w.grownBy w' (some g)) (hl : g < w.heap.size) (hn : ¬ rF ov us g) : RowsM w' B ov us rows :=
  h.chg (Chg.one hg hl) (fun k h1 h2 => by cases h1; exact hn h2)
/-- one more, empty row -/
theorem RowsM.push (h : RowsM w B ov us rows) (ho : OwnL encS 1 22 w' B ov' (us ++ [(none, 0, 0)])) (hg : w.grownBy w' row) (hrow : row = none ∨ row = ov.ownBlock) (hlt : ∀ g, ov'.ownBlock = some g → g < w'.heap.size)
    (hsep : ∀ u, Sep w ov u → Sep w' ov' u) : RowsM w' B ov' (us ++ [(none, 0, 0)]) (rows ++ [[]]) := by
  have hrn : ∀ u ∈ us, (slV u).ownBlock = none ∨ (slV u).ownBlock ≠ row := fun u hu => by
    cases e : (slV u).ownBlock with
    | none => exact .inl rfl
    | some g =>
      right
      rcases hrow with r | r
      · rw [r]; simp
      · rw [r]; exact fun e2 => h.out u hu g e e2.symm
  have hss : ∀ u ∈ us, Sep w' ov' (slV u) := fun u hu => hsep _ ⟨fun g hg => (h.lt g (.inl hg)).1, fun g hg => (h.lt g (.inr ⟨u, hu, hg⟩)).1, fun g h1 h2 => h.out u hu g h2 h1⟩
  refine ⟨ho, (h.rows.imp' fun u hu r hr => OwnL.keep hr hg (hrn u hu)).snoc (OwnL.nil _ _ _ _ _ _), ?_, ?_, ?_⟩
  · rw [List.pairwise_append]
    refine ⟨h.sep, by simp, fun a _ b hb g _ => ?_⟩
    obtain rfl := List.mem_singleton.1 hb
    simp [Value.ownBlock]
  · intro u hu g hg'
    rcases List.mem_append.1 hu with hu | hu
    · exact fun e => (hss u hu).apart g e hg'
    · obtain rfl := List.mem_singleton.1 hu
      simp [Value.ownBlock] at hg'
  · rintro k (hk | ⟨u, hu, hk⟩)
    · exact ⟨hlt k hk, (Own.blk ho k hk (by simp)).1⟩
    · rcases List.mem_append.1 hu with hu | hu
      · have := h.lt k (.inr ⟨u, hu, hk⟩)
        exact ⟨Nat.lt_of_lt_of_le this.1 hg.size, this.2⟩
      · obtain rfl := List.mem_singleton.1 hu
        simp [Value.ownBlock] at hk
/-- the last row longer by one -/
theorem RowsM.last {w1 w2 : World} {ui : List Sl} {u u' : Sl} {ri : List (List Int)} {r : List Int} {n : Int} (h : RowsM w B ov (ui ++ [u]) (ri ++ [r])) (ho : OwnN w1 B (slV u') (r ++ [n])) (hg : w.grownBy w1 row) (hrow : row = none ∨ row = (slV u).ownBlock)
    (hv : (slV u').ownBlock = (slV u).ownBlock ∨ ∃ g, (slV u').ownBlock = some g ∧ w.heap.size ≤ g) {g : Nat} (hov : ov.ownBlock = some g) (hg2 : w1.grownBy w2 (some g)) (ho2 : OwnL encS 1 22 w2 B ov (ui ++ [u'])) : RowsM w2 B ov (ui ++ [u']) (ri ++ [r ++ [n]]) := by
  obtain ⟨ui', u0, e, h2, _⟩ := h.rows.unsnoc
  obtain ⟨rfl, e2⟩ := List.append_inj' e rfl
  simp only [List.cons.injEq, and_true] at e2
  subst e2
  have hsep := List.pairwise_append.1 h.sep
  have hltg := h.lt g (.inl hov)
  have hu'g : ∀ k, (slV u').ownBlock = some k → k ≠ g ∧ (B ≤ k ∧ k < w1.heap.size) ∧ ∀ a ∈ ui, (slV a).ownBlock ≠ some k := fun k hk => by
    have hb := Own.blk ho k hk (by simp)
    refine ⟨?_, hb, fun a ha hak => ?_⟩
    · rcases hv with e | ⟨k', e, hk'⟩
      · intro e3; subst e3; exact h.out u (by simp) k (e ▸ hk) hov
      · rw [e] at hk; injection hk with hk; subst hk; omega
    · rcases hv with e | ⟨k', e, hk'⟩
      · exact hsep.2.2 a ha u (by simp) k hak (e ▸ hk)
      · rw [e] at hk; injection hk with hk; subst hk
        have := (h.lt _ (.inr ⟨a, by simp [ha], hak⟩)).1
        omega
  refine ⟨ho2, ?_, ?_, ?_, ?_⟩
  · refine All2.snoc (h2.imp' fun a ha r' hr' => ?_) (OwnL.keep ho hg2 ?_)
    · refine OwnL.keep (OwnL.keep hr' hg ?_) hg2 ?_
      · cases e : (slV a).ownBlock with
        | none => exact .inl rfl
        | some k =>
          right
          rcases hrow with r1 | r1
          · rw [r1]; simp
          · rw [r1]; exact fun e2 => hsep.2.2 a ha u (by simp) k e e2.symm
      · cases e : (slV a).ownBlock with
        | none => exact .inl rfl
        | some k => right; intro e2; injection e2 with e2; subst e2; exact h.out a (by simp [ha]) _ e hov
    · cases e : (slV u').ownBlock with
      | none => exact .inl rfl
      | some k => right; intro e2; injection e2 with e2; exact (hu'g k e).1 e2
  · rw [List.pairwise_append]
    refine ⟨hsep.1, by simp, fun a ha b hb k hk => ?_⟩
    obtain rfl := List.mem_singleton.1 hb
    exact fun e => (hu'g k e).2.2 a ha hk
  · intro a ha k hk
    rcases List.mem_append.1 ha with ha | ha
    · exact h.out a (by simp [ha]) k hk
    · obtain rfl := List.mem_singleton.1 ha
      rw [hov]; intro e; injection e with e; exact (hu'g k hk).1 e.symm
  · have hsz := hg.size
    have hsz2 := hg2.size
    rintro k (hk | ⟨a, ha, hk⟩)
    · have := h.lt k (.inl hk); exact ⟨by omega, this.2⟩
    · rcases List.mem_append.1 ha with ha | ha
      · have := h.lt k (.inr ⟨a, by simp [ha], hk⟩); exact ⟨by omega, this.2⟩
      · obtain rfl := List.mem_singleton.1 ha
        have := (hu'g k hk).2.1; exact ⟨by omega, this.1⟩
end
/-- as it is read -/
structure RowsR (w : World) (A : Option Addr) (n : Nat) (uf : Nat → Sl) (rf : Nat → List Int) : Prop where
  top : RowOf encS 1 w A n uf
  row : ∀ i, i < n → (uf i).2.1 = (rf i).length ∧ RowOf inC 1 w (uf i).1 (rf i).length (lf (rf i))
theorem RowsR.below {w w' : World} {A : Option Addr} {n : Nat} {uf : Nat → Sl} {rf : Nat → List Int} (h : RowsR w A n uf rf) (hb : Below w.heap.size w w') : RowsR w' A n uf rf :=
  ⟨h.top.below hb, fun i hi => ⟨(h.row i hi).1, (h.row i hi).2.below hb⟩⟩
theorem RowsM.read {w : World} {B : Nat} {A : Option Addr} {n c : Nat} {us : List Sl} {rows : List (List Int)} (h : RowsM w B (.slice A n c) us rows) : n = rows.length ∧ n ≤ c ∧ RowsR w A n (lf us) (lf rows) := by
  obtain ⟨h1, h2, h3⟩ := h.own.toRow encS_len
  have hl := h.rows.len
  refine ⟨by omega, h2, h3, fun i hi => ?_⟩
  have := h.rows.get i (by omega)
  obtain ⟨g1, _, g3⟩ := OwnL.toRow inC_len this
  exact ⟨g1, by rw [g1] at g3; exact g3⟩
end Rk
