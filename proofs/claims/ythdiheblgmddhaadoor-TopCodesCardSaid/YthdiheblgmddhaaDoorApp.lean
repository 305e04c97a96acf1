/- The walk's own rules: slices that the call itself makes: append, make, literals. -/
import Derived.Test.YthdiheblgmddhaaDoorMem
namespace Rk
open Go Go.RowKit

/-- v, a slice of n elements of type e (k cells each), is the call's own, from block B on: its cells are xs -/
def Own (w : World) (B : Nat) (e : TypeId) (k : Nat) (v : Value) (n : Nat) (xs : List Value) : Prop :=
  xs.length = n * k ∧ ((∃ A, v = .slice A 0 0 ∧ n = 0) ∨
    ∃ g cap cur, v = .slice (some ⟨g, 0, none⟩) n cap ∧ B ≤ g ∧ w.heap[g]? = some (.cells cur e (0, 0)) ∧ n ≤ cap ∧ cap ≤ maxLen ∧ cur.size = cap * k ∧ cur.toList.take (n * k) = xs)
section
variable {w w' : World} {B k n : Nat} {e : TypeId} {v : Value} {xs : List Value} {row : Option Nat}
theorem Own.nil (w : World) (B : Nat) (e : TypeId) (k : Nat) (A : Option Addr) : Own w B e k (.slice A 0 0) 0 [] := ⟨by simp, .inl ⟨A, rfl, rfl⟩⟩
theorem Own.of_row (h : w.ownsRow B e k v n xs) : Own w B e k v n xs := ⟨h.1, h.2.imp (fun h => ⟨none, h.1, h.2⟩) id⟩
theorem Own.keep (h : Own w B e k v n xs) (hg : w.grownBy w' row) (hne : v.ownBlock = none ∨ v.ownBlock ≠ row) : Own w' B e k v n xs := by
  refine ⟨h.1, ?_⟩
  rcases h.2 with hn | ⟨g, cap, cur, rfl, hb, hgg, rest⟩
  · exact .inl hn
  · refine .inr ⟨g, cap, cur, rfl, hb, ?_, rest⟩
    rw [hg.block g (Array.getElem?_eq_some_iff.1 hgg).1 (by simpa [Value.ownBlock] using hne)]
    exact hgg
theorem Own.below (h : Own w B e k v n xs) (hb : Below w.heap.size w w') : Own w' B e k v n xs := by
  refine ⟨h.1, ?_⟩
  rcases h.2 with hn | ⟨g, cap, cur, rfl, hB, hgg, rest⟩
  · exact .inl hn
  · exact .inr ⟨g, cap, cur, rfl, hB, by rw [hb.block g (Array.getElem?_eq_some_iff.1 hgg).1]; exact hgg, rest⟩
theorem Own.base (h : Own w B e k v n xs) {B' : Nat} (hB : B' ≤ B) : Own w B' e k v n xs := by
  refine ⟨h.1, ?_⟩
  rcases h.2 with hn | ⟨g, cap, cur, rfl, hB', hgg, rest⟩
  · exact .inl hn
  · exact .inr ⟨g, cap, cur, rfl, Nat.le_trans hB hB', hgg, rest⟩
theorem Own.blk (h : Own w B e k v n xs) : ∀ g, v.ownBlock = some g → n ≠ 0 → B ≤ g ∧ g < w.heap.size := by
  intro g hg hn
  rcases h.2 with ⟨A, rfl, h0⟩ | ⟨g', cap, cur, rfl, hB', hgg, _⟩
  · exact absurd h0 hn
  · simp [Value.ownBlock] at hg; subst hg
    exact ⟨hB', (Array.getElem?_eq_some_iff.1 hgg).1⟩
theorem Own.form (h : Own w B e k v n xs) : ∃ A c, v = .slice A n c ∧ n ≤ c := by
  rcases h.2 with ⟨A, rfl, rfl⟩ | ⟨g', cap, cur, rfl, _, _, hc, _⟩
  · exact ⟨A, 0, rfl, Nat.le_refl _⟩
  · exact ⟨_, _, rfl, hc⟩
theorem Own.whole {g : Nat} {cs : List Value} (hb : Bk w g e cs) (hB : B ≤ g) (hn : cs.length = n * k) (hm : n ≤ maxLen) : Own w B e k (.slice (some ⟨g, 0, none⟩) n n) n cs :=
  ⟨hn, .inr ⟨g, n, cs.toArray, rfl, hB, hb, Nat.le_refl _, hm, by simpa using hn, by simp [← hn]⟩⟩
end

/-- of the call's own: the elements l, written by enc -/
def OwnL {α : Type} (enc : α → List Value) (k : Nat) (e : TypeId) (w : World) (B : Nat) (v : Value) (l : List α) : Prop := Own w B e k v l.length (l.flatMap enc)
/-- a list by places -/
def lf {α : Type} [Inhabited α] (l : List α) : Nat → α := fun i => l.getD i default
def segL {α : Type} (f : Nat → α) (n : Nat) : List α := (List.range n).map f

section
variable {α : Type} {enc : α → List Value} {k : Nat} {e : TypeId} {w w' : World} {B : Nat} {v : Value} {l : List α} {row : Option Nat} {f : Nat → α} {n : Nat} {A : Option Addr}
theorem segL_length (f : Nat → α) (n : Nat) : (segL f n).length = n := by simp [segL]
theorem segL_succ (f : Nat → α) (n : Nat) : segL f (n + 1) = segL f n ++ [f n] := by simp [segL, List.range_succ]
theorem segL_get (f : Nat → α) {n i : Nat} (h : i < (segL f n).length) : (segL f n)[i] = f i := by simp [segL]
theorem segL_lf [Inhabited α] (l : List α) : segL (lf l) l.length = l := by
  refine List.ext_getElem (by simp [segL]) fun i h1 h2 => ?_
  simp [segL, lf, h2]
theorem lf_segL [Inhabited α] (f : Nat → α) {n i : Nat} (h : i < n) : lf (segL f n) i = f i := by
  simp [lf, segL, h]
theorem lf_get [Inhabited α] {l : List α} {i : Nat} (h : i < l.length) : lf l i = l[i] := by simp [lf, h]
theorem segL_congr {f g : Nat → α} {n : Nat} (h : ∀ i, i < n → f i = g i) : segL f n = segL g n := by
  unfold segL; exact List.map_congr_left fun i hi => h i (List.mem_range.1 hi)
theorem flat_get (hk : ∀ x, (enc x).length = k) : ∀ (l : List α) (i j : Nat) (hi : i < l.length), j < k → (l.flatMap enc)[i * k + j]? = (enc l[i])[j]? := by
  intro l
  induction l with
  | nil => intro i j hi; simp at hi
  | cons x r ih =>
    intro i j hi hj
    rw [List.flatMap_cons]
    cases i with
    | zero => rw [Nat.zero_mul, Nat.zero_add, List.getElem?_append_left (by rw [hk]; exact hj)]; rfl
    | succ i =>
      rw [List.getElem?_append_right (by rw [hk, Nat.add_mul]; omega), hk]
      rw [show (i + 1) * k + j - k = i * k + j from by rw [Nat.add_mul]; omega]
      exact ih i j (by simpa using hi) hj
theorem flat_length (hk : ∀ x, (enc x).length = k) : ∀ (l : List α), (l.flatMap enc).length = l.length * k := by
  intro l
  induction l with
  | nil => simp
  | cons x r ih => rw [List.flatMap_cons, List.length_append, ih, hk, List.length_cons, Nat.add_mul]; omega
theorem OwnL.nil (enc : α → List Value) (k : Nat) (e : TypeId) (w : World) (B : Nat) (A : Option Addr) : OwnL enc k e w B (.slice A 0 0) [] := Own.nil w B e k A
theorem OwnL.keep (h : OwnL enc k e w B v l) (hg : w.grownBy w' row) (hne : v.ownBlock = none ∨ v.ownBlock ≠ row) : OwnL enc k e w' B v l := Own.keep h hg hne
theorem OwnL.below (h : OwnL enc k e w B v l) (hb : Below w.heap.size w w') : OwnL enc k e w' B v l := Own.below h hb
theorem OwnL.base (h : OwnL enc k e w B v l) {B' : Nat} (hB : B' ≤ B) : OwnL enc k e w B' v l := Own.base h hB
theorem OwnL.form (h : OwnL enc k e w B v l) : ∃ A c, v = .slice A l.length c ∧ l.length ≤ c := Own.form h
/-- read as a row -/
theorem OwnL.toRow [Inhabited α] (hk : ∀ x, (enc x).length = k) {A : Option Addr} {n c : Nat} (h : OwnL enc k e w B (.slice A n c) l) : n = l.length ∧ n ≤ c ∧ RowOf enc k w A n (lf l) := by
  rcases h.2 with ⟨A', h1, h2⟩ | ⟨g, cap, cur, h1, h2, h3, h4, h5, h6, h7⟩
  · injection h1 with _ h1 _
    refine ⟨by omega, by omega, fun hn => by omega⟩
  · injection h1 with h1 hn hc
    subst h1 hn hc
    refine ⟨rfl, h4, fun hn => ⟨g, 0, rfl, (Array.getElem?_eq_some_iff.1 h3).1, fun i hi j u hu => ?_⟩⟩
    have hj : j < k := by
      rcases Nat.lt_or_ge j k with hj | hj
      · exact hj
      · rw [List.getElem?_eq_none (by rw [hk]; exact hj)] at hu; cases hu
    rw [lf_get hi, ← flat_get hk l i j hi hj, ← h7, List.getElem?_take] at hu
    split at hu
    · rw [cell_of_row w g _ cur e (0, 0) h3, Nat.zero_add]; simpa using hu
    · cases hu
/-- a row read so is, cell by cell, the list -/
theorem RowOf.news (hk : ∀ x, (enc x).length = k) {b o : Nat} (h : ∀ i, i < n → ∀ j u, (enc (f i))[j]? = some u → w.cell? ⟨b, o + i * k + j, none⟩ = some u) :
    ∀ j u, ((segL f n).flatMap enc)[j]? = some u → w.cell? ((⟨b, o, none⟩ : Addr).add j) = some u := by
  intro j u hu
  have hlen := flat_length hk (segL f n)
  have hj : j < n * k := by
    rcases Nat.lt_or_ge j (n * k) with hj | hj
    · exact hj
    · rw [List.getElem?_eq_none (by rw [hlen, segL_length]; exact hj)] at hu; cases hu
  have hk0 : 0 < k := by
    rcases Nat.eq_zero_or_pos k with h0 | h0
    · rw [h0] at hj; simp at hj
    · exact h0
  have hdiv : j / k < n := by rw [Nat.div_lt_iff_lt_mul hk0]; exact hj
  have hmod := Nat.mod_lt j hk0
  have he : j = (j / k) * k + j % k := by have := Nat.div_add_mod j k; rw [Nat.mul_comm] at this; omega
  have hu' : ((segL f n).flatMap enc)[(j / k) * k + j % k]? = some u := by rw [← he]; exact hu
  rw [flat_get hk (segL f n) (j / k) (j % k) (by rw [segL_length]; exact hdiv) hmod, segL_get] at hu'
  have := h (j / k) hdiv (j % k) u hu'
  rw [show o + j / k * k + j % k = o + j from by omega] at this
  unfold Addr.add
  split
  · rename_i e; rw [e] at this; simpa using this
  · exact this
end

section
variable {P : Program} {ops : Array Oper} {K : Env → World → Prop} {N : Nat} {E : Env} {rest : List Oper} {w w' : World} {op : Op} {t : TypeId} {pos : String} {after : Array Edge} {d : Nat}
  {pos2 : String} {after2 : Array Edge} {t2 : TypeId} {x y s : Operand} {v u z : Value} {e st xt : TypeId} {agg : Bool} {k bytes : Nat}
  {α : Type} {enc : α → List Value} {l : List α} {f : Nat → α} {m c B : Nat} {A : Option Addr}

theorem run_append_none (ht : P.underlying st = some (.slice e)) (ty : Ty P e agg k bytes z) (A : Option Addr) (c : Nat) (B : Option Addr) (ty' : TypeId) :
    (Builtin.append_ #[st, st] ty' #[.slice A 0 0, .slice B 0 c]).run P w = .ok (.slice A 0 0) w := by
  obtain ⟨i, hi, hz, hs, hb⟩ := ty.info
  cases A <;> cases B <;> simp [Builtin.append_, run_underlying ht, Go.sizeOf, typeInfo, hi, Builtin.lenOf, Builtin.firstCells, loadCells, loadCellsFrom, storeCells]
theorem run_append_any {st : TypeId} (ht : P.underlying st = some (.slice e)) (ty : Ty P e agg k bytes z) (A : Option Addr) (a : Addr) (m c : Nat) (hm : 0 < m) (ty' : TypeId) (hb : m * bytes ≤ 140737488355328) (hbm : m ≤ maxLen) :
    (Builtin.append_ #[st, st] ty' #[.slice A 0 0, .slice (some a) m c]).run P w = (Builtin.append_ #[st, st] ty' #[.slice none 0 0, .slice (some a) m c]).run P w := by
  obtain ⟨i, hi, hz, hs, hbb⟩ := ty.info
  have h1 : ¬ m = 0 := by omega
  have h2 : ¬ (140737488355328 * 2 < Builtin.nextslicecap m 0 * i.bytes) := by
    have : Builtin.nextslicecap m 0 = m := by unfold Builtin.nextslicecap; rw [if_pos (by omega)]
    rw [this, hbb]; omega
  have h3 : ¬ (281474976710656 < Builtin.nextslicecap m 0 * i.bytes) := by omega
  have h4 : ¬ ((9223372036854775807 : Int) < (m : Int)) := by unfold maxLen at hbm; omega
  cases A with
  | none => rfl
  | some p => simp [Builtin.append_, run_underlying ht, Go.sizeOf, typeInfo, hi, Builtin.lenOf, Builtin.firstCells, h1, h3, loadCells, loadCellsFrom, Builtin.mayShare]
theorem WL.append (hk : ∀ x, (enc x).length = k) (h1 : ∀ x, ∀ u ∈ enc x, u.oneCell' = true) (hk0 : 0 < k) (ht : P.underlying st = some (.slice e)) (ty : Ty P e agg k bytes z) (hd : Nat.blt d N = true)
    (hs : evE E s = some v) (hx : evE E x = some (.slice A m c)) (ho : OwnL enc k e w B v l) (hr : RowOf enc k w A m f) (hb : (l.length + m) * bytes ≤ 140737488355328) (hlen : l.length + m ≤ maxLen) (hB : B ≤ w.heap.size)
    (h : ∀ v' w' row, OwnL enc k e w' B v' (l ++ segL f m) → w.grownBy w' row → (row = none ∨ row = v.ownBlock) → (∀ g, row = some g → B ≤ g) → (v'.ownBlock = v.ownBlock ∨ v'.ownBlock = some w.heap.size) → WL P ops K N ((d, v') :: E) rest w') :
    WL P ops K N E (⟨some d, .call { callee := .builtin .append, args := #[s, x], argTypes := #[st, st] }, t, pos, after, none⟩ :: rest) w := by
  have hrun : ∃ v' w' row, (Builtin.append_ #[st, st] t #[v, .slice A m c]).run P w = .ok v' w' ∧ OwnL enc k e w' B v' (l ++ segL f m) ∧ w.grownBy w' row ∧ (row = none ∨ row = v.ownBlock) ∧ (∀ g, row = some g → B ≤ g) ∧ (v'.ownBlock = v.ownBlock ∨ v'.ownBlock = some w.heap.size) := by
    obtain ⟨i, hi, hz, hsz, hbb⟩ := ty.info
    rcases Nat.eq_zero_or_pos m with h0 | h0
    · subst h0
      have hl0 : l ++ segL f 0 = l := by simp [segL]
      rw [hl0]
      rcases ho.2 with ⟨A', rfl, hn⟩ | ⟨g, cap, cur, rfl, hg1, hg2, hg3, hg4, hg5, hg6⟩
      · exact ⟨_, w, none, run_append_none ht ty A' c A t, ho, World.grownBy.refl w _, .inl rfl, fun _ h => (by cases h), .inl rfl⟩
      · refine ⟨_, w, none, ?_, ho, World.grownBy.refl w _, .inl rfl, fun _ h => (by cases h), .inl rfl⟩
        cases A <;> simp [Builtin.append_, run_underlying ht, Go.sizeOf, typeInfo, hi, Builtin.lenOf, Builtin.firstCells, loadCells, loadCellsFrom, storeCells, hg3]
    · obtain ⟨b, o, rfl, hbl, hcell⟩ := hr h0
      have hnews := RowOf.news hk hcell
      have hn1 : ∀ u ∈ (segL f m).flatMap enc, u.oneCell' = true := by
        intro u hu
        obtain ⟨x, _, hx⟩ := List.mem_flatMap.1 hu
        exact h1 x u hx
      have hfl : ((segL f m).flatMap enc).length = m * k := by rw [flat_length hk, segL_length]
      rcases ho.2 with ⟨A', rfl, hn⟩ | ⟨g, cap, cur, hv, hg1, hg2, hg3, hg4, hg5, hg6⟩
      · have hl : l = [] := List.eq_nil_of_length_eq_zero hn
        subst hl
        have hmb : m * bytes ≤ 140737488355328 := by simpa using hb
        rw [run_append_any ht ty A' ⟨b, o, none⟩ m c h0 t hmb (by simpa using hlen)]
        obtain ⟨v', w', r1, r2, r3, _, r5⟩ := run_append_own_at (P := P) w B st t e i z k bytes ht hi hz hsz hbb ty.zsz hk0 (.slice none 0 0) 0 [] (World.ownsRow_nil w B e k)
          ⟨b, o, none⟩ m c _ hfl hnews hn1 (by simpa using hlen) (by simpa using hb) hB
        refine ⟨v', w', none, r1, ?_, ⟨r3.os, r3.tape, r3.output, r3.size, fun j hj _ => r3.block j hj (by simp [Value.ownBlock])⟩, .inl rfl, fun _ h => (by cases h), ?_⟩
        · have := Own.of_row r2
          simp only [Nat.zero_add, List.nil_append] at this ⊢
          unfold OwnL
          rw [segL_length]; exact this
        · rcases r5 with e1 | e1
          · exfalso
            rcases r2.2 with ⟨_, h00⟩ | ⟨g, cap, cur, hv, _⟩
            · omega
            · rw [hv] at e1
              simp [Value.ownBlock] at e1
          · exact .inr e1
      · have hrow : w.ownsRow B e k v l.length (l.flatMap enc) := ⟨ho.1, .inr ⟨g, cap, cur, hv, hg1, hg2, hg3, hg4, hg5, hg6⟩⟩
        obtain ⟨v', w', r1, r2, r3, _, r5⟩ := run_append_own_at (P := P) w B st t e i z k bytes ht hi hz hsz hbb ty.zsz hk0 v l.length _ hrow ⟨b, o, none⟩ m c _ hfl hnews hn1 hlen hb hB
        refine ⟨v', w', v.ownBlock, r1, ?_, r3, .inr rfl, fun b hb => (by rw [hv] at hb; simp [Value.ownBlock] at hb; omega), r5⟩
        have := Own.of_row r2
        unfold OwnL
        rw [List.flatMap_append, List.length_append, segL_length]; exact this
  obtain ⟨v', w', row, r1, r2, r3, r3a, r3b, r4⟩ := hrun
  refine WL.step (w' := w') (v := v') (fun ρ hρ _ _ _ _ => ?_) hd (h v' w' row r2 r3 r3a r3b r4)
  simp [execOp, resolve, hρ _ _ hs, hρ _ _ hx, invoke, builtin, r1]

/-! literals of slices -/
theorem foldl_set (vs : List Value) : ∀ (i : Nat) (off : Nat) (pre rest : List Value), pre.length = off + i → vs.length ≤ rest.length →
    (vs.zipIdx i).foldl (fun (cs : Array Value) (p : Value × Nat) => cs.setIfInBounds (off + p.2) p.1) (pre ++ rest).toArray = (pre ++ vs ++ rest.drop vs.length).toArray := by
  induction vs with
  | nil => intro i off pre rest _ _; simp
  | cons u r ih =>
    intro i off pre rest hp hr
    cases rest with
    | nil => simp at hr
    | cons y rest =>
      simp only [List.zipIdx_cons, List.foldl_cons]
      have e : (pre ++ y :: rest).toArray.setIfInBounds (off + i) u = ((pre ++ [u]) ++ rest).toArray := by
        rw [← hp]; simp
      rw [e, ih (i + 1) off (pre ++ [u]) rest (by simp; omega) (by simpa using hr)]
      simp
theorem fill_all (k : Nat) : ∀ (vs : List Value) (i : Nat) (pre zs : List Value), (∀ v ∈ vs, v.cells.size = k) → pre.length = i * k → zs.length = vs.length * k →
    Instr.fill (fun i => some (i * k, k)) (pre ++ zs).toArray ((vs.zipIdx i).map fun p => (p.2, p.1)) = some (pre ++ vs.flatMap (·.cells.toList)).toArray := by
  intro vs
  induction vs with
  | nil => intro i pre zs _ _ hz; have : zs = [] := List.eq_nil_of_length_eq_zero (by simpa using hz); subst this; simp [Instr.fill]
  | cons v r ih =>
    intro i pre zs hv hp hz
    simp only [List.zipIdx_cons, List.map_cons, Instr.fill]
    have hvk := hv v List.mem_cons_self
    have hz' : zs.length = k + r.length * k := by rw [hz, List.length_cons, Nat.add_mul]; omega
    rw [if_neg (by simp [hvk, hp]; omega)]
    have e : v.cells.zipIdx.foldl (fun (cs : Array Value) (p : Value × Nat) => cs.setIfInBounds (i * k + p.2) p.1) (pre ++ zs).toArray = (pre ++ v.cells.toList ++ zs.drop k).toArray := by
      have h1 := foldl_set v.cells.toList 0 (i * k) pre zs (by omega) (by simp [hvk]; omega)
      have h2 : v.cells.toList.length = k := by simpa using hvk
      rw [h2] at h1
      rw [← h1, ← Array.foldl_toList]
      simp
    have e' : v.cells.zipIdx.foldl (fun (cs : Array Value) (x : Value × Nat) => match x with | (c, j) => cs.setIfInBounds (i * k + j) c) (pre ++ zs).toArray = (pre ++ v.cells.toList ++ zs.drop k).toArray := e
    rw [e', ih (i + 1) (pre ++ v.cells.toList) (zs.drop k) (fun u hu => hv u (List.mem_cons_of_mem _ hu)) (by simp [hp, hvk, Nat.add_mul]) (by simp; omega)]
    simp
theorem WL.lit {xs : List Operand} {vs : List Value} (ht : P.underlying st = some (.slice e)) (ty : Ty P e agg k bytes z) (hd : Nat.blt d N = true) (he : evs E xs = some vs) (hk : ∀ v ∈ vs, v.cells.size = k)
    {parts : Array (Nat × Operand)} (hparts : parts.toList = xs.zipIdx.map fun p => (p.2, p.1)) {n : Nat} (hn : vs.length = n) (hsm : n * k ≤ 16777216)
    (h : ∀ w', w.grownBy w' none → Bk w' w.heap.size e (vs.flatMap (·.cells.toList)) → w'.heap.size = w.heap.size + 1 → WL P ops K N ((d, .slice (some ⟨w.heap.size, 0, none⟩) n n) :: E) rest w') :
    WL P ops K N E (⟨some d, .buildSlice st n parts, t, pos, after, none⟩ :: rest) w := by
  refine WL.step (w' := w.alloc (.cells (vs.flatMap (·.cells.toList)).toArray e)) (v := .slice (some ⟨w.heap.size, 0, none⟩) n n) (fun ρ hρ _ _ _ _ => ?_) hd (h _ (World.grownBy_alloc w _ none) (heap_alloc_new' w _ _) (by simp))
  have hm := evs_map hρ he
  have hpar : (parts.map fun p => (p.1, ρ p.2)).toList = (vs.zipIdx).map fun p => (p.2, p.1) := by
    rw [Array.toList_map, hparts, List.map_map, ← hm]
    have : ∀ (l : List Operand) (i : Nat), (l.zipIdx i).map ((fun p : Nat × Operand => (p.1, ρ p.2)) ∘ fun p : Operand × Nat => (p.2, p.1)) = ((l.map ρ).zipIdx i).map fun p => (p.2, p.1) := by
      intro l
      induction l with
      | nil => intro i; rfl
      | cons x r ih => intro i; simp only [List.zipIdx_cons, List.map_cons, ih]; rfl
    exact this xs 0
  obtain ⟨i, hi, hz, hs, hb⟩ := ty.info
  have hfill : ∀ zs : List Value, zs.length = n * k → Instr.fill (fun i => some (i * k, k)) zs.toArray ((vs.zipIdx).map fun p => (p.2, p.1)) = some (vs.flatMap (·.cells.toList)).toArray := by
    intro zs hzs
    have := fill_all k vs 0 [] zs hk (by simp) (by rw [hn]; exact hzs)
    simpa using this
  have hp2 : (parts.map fun (x : Nat × Operand) => match x with | (i, x) => (i, ρ x)).toList = (vs.zipIdx).map fun p => (p.2, p.1) := hpar
  simp only [execOp, Instr.buildSlice, hp2]
  have h2 : ¬ (2 ^ 24 < n * k) := by omega
  have hfA : ∀ zs : Array Value, zs.size = n * k → Instr.fill (fun i => some (i * k, k)) zs ((vs.zipIdx).map fun p => (p.2, p.1)) = some (vs.flatMap (·.cells.toList)).toArray := by
    intro zs hzs
    have := hfill zs.toList (by simpa using hzs)
    simpa using this
  by_cases h0 : n * k = 0
  · simp [run_underlying ht, ty.size, h0, newRow]
    rw [hfA _ (by simp [h0])]
    simp
  · have h0' : ¬ (n = 0 ∨ k = 0) := by
      intro h; apply h0; rcases h with h | h <;> simp [h]
    simp [run_underlying ht, ty.size, h0', ty.zero, newRow]
    rw [if_neg (by omega), if_neg h0, hfA _ (by simp)]
    simp
end
end Rk
