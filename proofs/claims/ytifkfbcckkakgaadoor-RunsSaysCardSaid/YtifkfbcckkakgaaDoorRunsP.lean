/- Plain law: runs of numbers by replacement selection: each is sorted, none but the last is shorter than the room; what is nearly sorted is one run; what falls has runs of just the room. No program in sight. -/
import Derived.Test.YtifkfbcckkakgaaDoorEng
namespace Rk.Runs
/-- held: the run, the number -/
abbrev Hd := Nat × Int
def le (a b : Hd) : Prop := a.1 < b.1 ∨ a.1 = b.1 ∧ a.2 ≤ b.2
instance (a b : Hd) : Decidable (le a b) := by unfold le; infer_instance
theorem le_total (a b : Hd) : le a b ∨ le b a := by unfold le; omega
theorem le_trans {a b c : Hd} (h : le a b) (g : le b c) : le a c := by unfold le at *; omega
theorem le_anti {a b : Hd} (h : le a b) (g : le b a) : a = b := by
  unfold le at *
  exact Prod.ext (by omega) (by omega)
theorem le_refl (a : Hd) : le a a := by unfold le; omega
def ins (x : Hd) : List Hd → List Hd
  | [] => [x]
  | y :: r => if le x y then x :: y :: r else y :: ins x r
def SortedH (l : List Hd) : Prop := l.Pairwise le
theorem ins_perm (x : Hd) : ∀ l, (ins x l).Perm (x :: l) := by
  intro l
  induction l with
  | nil => exact List.Perm.refl _
  | cons y r ih =>
    simp only [ins]
    split
    · exact List.Perm.refl _
    · exact (List.Perm.cons y ih).trans (List.Perm.swap x y r)
theorem ins_sorted {x : Hd} {l : List Hd} (h : SortedH l) : SortedH (ins x l) := by
  induction l with
  | nil => simp [ins, SortedH]
  | cons y r ih =>
    obtain ⟨h1, h2⟩ := List.pairwise_cons.1 h
    simp only [ins]
    split
    · rename_i hxy
      refine List.pairwise_cons.2 ⟨fun z hz => ?_, h⟩
      rcases List.mem_cons.1 hz with rfl | hz
      · exact hxy
      · exact le_trans hxy (h1 z hz)
    · rename_i hxy
      refine List.pairwise_cons.2 ⟨fun z hz => ?_, ih h2⟩
      rcases List.mem_cons.1 ((ins_perm x r).mem_iff.1 hz) with rfl | hz
      · exact (le_total y z).resolve_right hxy
      · exact h1 z hz
/-- a number put to its run -/
def addR (out : List (List Int)) (x : Hd) : List (List Int) := if x.1 = out.length then out ++ [[x.2]] else out.modify x.1 (· ++ [x.2])
structure St where
  held : List Hd
  out : List (List Int)
def feed (room : Nat) (s : St) (n : Int) : St :=
  if s.held.length < room then ⟨ins (0, n) s.held, s.out⟩ else
  match s.held with
  | [] => s
  | x :: r => ⟨ins (if x.2 ≤ n then (x.1, n) else (x.1 + 1, n)) r, addR s.out x⟩
def drain : List Hd → List (List Int) → List (List Int)
  | [], out => out
  | x :: r, out => drain r (addR out x)
def runsF (l : List Int) (room : Nat) : List (List Int) :=
  let s := l.foldl (feed room) ⟨[], []⟩
  drain s.held s.out

/-- the last number of the last run -/
def lastOf (out : List (List Int)) : Option Int := out.getLast?.bind (·.getLast?)
/-- what holds all the time -/
structure Good (s : St) : Prop where
  sorted : SortedH s.held
  runs : ∀ x ∈ s.held, x.1 = s.out.length ∨ (x.1 + 1 = s.out.length ∧ ∀ m, lastOf s.out = some m → m ≤ x.2)
  rows : ∀ r ∈ s.out, r ≠ [] ∧ r.Pairwise (· ≤ ·)
theorem lastOf_new (out : List (List Int)) (m : Int) : lastOf (out ++ [[m]]) = some m := by simp [lastOf]
theorem modify_last {out : List (List Int)} {k : Nat} (h : k + 1 = out.length) (m : Int) : ∃ a b, out = a ++ [b] ∧ out.modify k (· ++ [m]) = a ++ [b ++ [m]] := by
  have hne : out ≠ [] := by intro e; subst e; simp at h
  refine ⟨out.dropLast, out.getLast hne, (List.dropLast_concat_getLast hne).symm, ?_⟩
  refine List.ext_getElem (by simp; omega) fun i h1 h2 => ?_
  rw [List.getElem_modify]
  simp at h1 h2
  by_cases c : k = i
  · subst c
    rw [if_pos rfl, List.getElem_append_right (by simp; omega)]
    simp [List.getLast_eq_getElem, show out.length - 1 = k from by omega]
  · rw [if_neg c, List.getElem_append_left (by simp; omega), List.getElem_dropLast]
/-- the least one taken out -/
theorem Good.take {x : Hd} {r : List Hd} {out : List (List Int)} (h : Good ⟨x :: r, out⟩) :
    Good ⟨r, addR out x⟩ ∧ (addR out x).length = x.1 + 1 ∧ lastOf (addR out x) = some x.2 ∧ ((x.1 = out.length ∧ addR out x = out ++ [[x.2]] ∧ ∀ y ∈ r, y.1 = x.1) ∨ (x.1 + 1 = out.length ∧ ∃ a b, out = a ++ [b] ∧ addR out x = a ++ [b ++ [x.2]])) := by
  obtain ⟨hs, hr, hw⟩ := h
  obtain ⟨h1, h2⟩ := List.pairwise_cons.1 hs
  rcases hr x List.mem_cons_self with e | ⟨e, hm⟩
  · have ea : addR out x = out ++ [[x.2]] := if_pos e
    have hall : ∀ y ∈ r, y.1 = x.1 := fun y hy => by
      have := h1 y hy
      unfold le at this
      rcases hr y (List.mem_cons_of_mem _ hy) with e2 | ⟨e2, _⟩ <;> simp at e e2 <;> omega
    refine ⟨⟨h2, fun y hy => .inr ⟨?_, fun m hm => ?_⟩, fun q hq => ?_⟩, by rw [ea]; simp; exact e.symm, by rw [ea]; exact lastOf_new _ _, .inl ⟨e, ea, hall⟩⟩
    · show y.1 + 1 = (addR out x).length
      rw [ea, hall y hy]; simp; exact e
    · replace hm : lastOf (addR out x) = some m := hm
      rw [ea, lastOf_new] at hm
      injection hm with hm
      have := h1 y hy
      have := hall y hy
      unfold le at *
      omega
    · replace hq : q ∈ addR out x := hq
      rw [ea] at hq
      rcases List.mem_append.1 hq with hq | hq
      · exact hw q hq
      · simp at hq; subst hq; simp
  · have ne : ¬ x.1 = out.length := by simp at e; omega
    have ea : addR out x = out.modify x.1 (· ++ [x.2]) := if_neg ne
    obtain ⟨a, b, ho, hmod⟩ := modify_last (out := out) e x.2
    rw [hmod] at ea
    have hlast : lastOf (addR out x) = some x.2 := by rw [ea]; simp [lastOf]
    have hlen : (addR out x).length = x.1 + 1 := by rw [ea]; simp; rw [ho] at e; simp at e; exact e.symm
    have hb := hw b (by rw [ho]; simp)
    have hbl : ∀ z ∈ b, z ≤ x.2 := fun z hz => by
      have hl : lastOf out = some (b.getLast hb.1) := by rw [ho]; simp [lastOf, List.getLast?_eq_some_getLast hb.1]
      have h3 := hm _ hl
      have h4 : z ≤ b.getLast hb.1 := by
        obtain ⟨i, hi, rfl⟩ := List.mem_iff_getElem.1 hz
        rw [List.getLast_eq_getElem]
        by_cases c : i = b.length - 1
        · subst c; exact Int.le_refl _
        · exact List.pairwise_iff_getElem.1 hb.2 i (b.length - 1) hi (by omega) (by omega)
      omega
    refine ⟨⟨h2, fun y hy => ?_, fun q hq => ?_⟩, hlen, hlast, .inr ⟨e, a, b, ho, ea⟩⟩
    · show y.1 = (addR out x).length ∨ (y.1 + 1 = (addR out x).length ∧ ∀ m, lastOf (addR out x) = some m → m ≤ y.2)
      rw [hlen, hlast]
      have h5 := h1 y hy
      unfold le at h5
      rcases hr y (List.mem_cons_of_mem _ hy) with e2 | ⟨e2, _⟩
      · left; simp at e e2; omega
      · right
        simp at e e2
        refine ⟨by omega, fun m hm => ?_⟩
        injection hm with hm
        omega
    · replace hq : q ∈ addR out x := hq
      rw [ea] at hq
      rcases List.mem_append.1 hq with hq | hq
      · exact hw q (by rw [ho]; exact List.mem_append_left _ hq)
      · simp at hq; subst hq
        refine ⟨by simp, ?_⟩
        rw [List.pairwise_append]
        exact ⟨hb.2, by simp, fun z hz z' hz' => by simp at hz'; subst hz'; exact hbl z hz⟩
theorem Good.put {h : List Hd} {out : List (List Int)} {y : Hd} (g : Good ⟨h, out⟩) (hy : y.1 = out.length ∨ (y.1 + 1 = out.length ∧ ∀ m, lastOf out = some m → m ≤ y.2)) : Good ⟨ins y h, out⟩ :=
  ⟨ins_sorted g.sorted, fun x hx => by
    rcases List.mem_cons.1 ((ins_perm y h).mem_iff.1 hx) with rfl | hx
    · exact hy
    · exact g.runs x hx, g.rows⟩
/-- number held for a run -/
def cnt (r : Nat) (h : List Hd) : Nat := h.countP fun x => decide (x.1 = r)
theorem cnt_perm {r : Nat} {a b : List Hd} (h : a.Perm b) : cnt r a = cnt r b := h.countP_eq _
theorem cnt_cons (r : Nat) (x : Hd) (h : List Hd) : cnt r (x :: h) = cnt r h + if x.1 = r then 1 else 0 := by simp [cnt, List.countP_cons]
theorem cnt_all {r : Nat} {h : List Hd} (hall : ∀ x ∈ h, x.1 = r) : cnt r h = h.length := by
  unfold cnt; rw [List.countP_eq_length]; intro x hx; simpa using hall x hx
theorem cnt_none {r : Nat} {h : List Hd} (hall : ∀ x ∈ h, x.1 ≠ r) : cnt r h = 0 := by
  unfold cnt; rw [List.countP_eq_zero]; intro x hx; simpa using hall x hx
def rowLen (out : List (List Int)) (r : Nat) : Nat := (out.getD r []).length
def tot (r : Nat) (s : St) : Nat := rowLen s.out r + cnt r s.held
theorem rowLen_add {out : List (List Int)} {x : Hd} (h : (x.1 = out.length ∧ addR out x = out ++ [[x.2]]) ∨ (x.1 + 1 = out.length ∧ ∃ a b, out = a ++ [b] ∧ addR out x = a ++ [b ++ [x.2]])) (r : Nat) :
    rowLen (addR out x) r = rowLen out r + if x.1 = r then 1 else 0 := by
  rcases h with ⟨e, ea⟩ | ⟨e, a, b, ho, ea⟩
  · rw [ea]
    unfold rowLen
    rcases Nat.lt_trichotomy r out.length with c | c | c
    · rw [if_neg (by omega)]; simp [List.getD, List.getElem?_append, c]
    · subst c; rw [if_pos e]; simp [List.getD]
    · rw [if_neg (by omega)]
      rw [show (out ++ [[x.2]]).getD r [] = [] from by rw [List.getD, List.getElem?_eq_none (by simp; omega)]; rfl, show out.getD r [] = [] from by rw [List.getD, List.getElem?_eq_none (by omega)]; rfl]; rfl
  · rw [ea, ho]
    have ha : x.1 = a.length := by rw [ho] at e; simp at e; exact e
    unfold rowLen
    rcases Nat.lt_trichotomy r a.length with c | c | c
    · rw [if_neg (by omega)]; simp [List.getD, List.getElem?_append, c]
    · subst c; rw [if_pos ha]; simp [List.getD]
    · rw [if_neg (by omega)]
      rw [show (a ++ [b ++ [x.2]]).getD r [] = [] from by rw [List.getD, List.getElem?_eq_none (by simp; omega)]; rfl, show (a ++ [b]).getD r [] = [] from by rw [List.getD, List.getElem?_eq_none (by simp; omega)]; rfl]; rfl
theorem Good.tot {x : Hd} {h : List Hd} {out : List (List Int)} (g : Good ⟨x :: h, out⟩) (r : Nat) : tot r ⟨h, addR out x⟩ = tot r ⟨x :: h, out⟩ := by
  obtain ⟨_, _, _, h4⟩ := g.take
  have := rowLen_add (out := out) (x := x) (h4.imp (fun h => ⟨h.1, h.2.1⟩) id) r
  unfold Runs.tot
  simp only [this, cnt_cons]
  omega
theorem tot_put (r : Nat) (y : Hd) (h : List Hd) (out : List (List Int)) : tot r ⟨ins y h, out⟩ = tot r ⟨h, out⟩ + if y.1 = r then 1 else 0 := by
  unfold tot
  simp only [cnt_perm (ins_perm y h), cnt_cons]; omega
theorem flat_add {out : List (List Int)} {x : Hd} (h : (x.1 = out.length ∧ addR out x = out ++ [[x.2]]) ∨ (x.1 + 1 = out.length ∧ ∃ a b, out = a ++ [b] ∧ addR out x = a ++ [b ++ [x.2]])) : (addR out x).flatten = out.flatten ++ [x.2] := by
  rcases h with ⟨_, ea⟩ | ⟨_, a, b, ho, ea⟩
  · rw [ea]; simp
  · rw [ea, ho]; simp
def vals (s : St) : List Int := s.held.map (·.2) ++ s.out.flatten
theorem Good.vals {x : Hd} {h : List Hd} {out : List (List Int)} (g : Good ⟨x :: h, out⟩) : (vals ⟨h, addR out x⟩).Perm (vals ⟨x :: h, out⟩) := by
  obtain ⟨_, _, _, h4⟩ := g.take
  have := flat_add (out := out) (x := x) (h4.imp (fun h => ⟨h.1, h.2.1⟩) id)
  unfold Runs.vals
  simp only [this, List.map_cons]
  rw [← List.append_assoc]
  exact List.perm_append_singleton _ _
theorem vals_put (y : Hd) (h : List Hd) (out : List (List Int)) : (vals ⟨ins y h, out⟩).Perm (y.2 :: vals ⟨h, out⟩) := by
  unfold vals
  exact List.Perm.append_right _ ((ins_perm y h).map (·.2))
/-- while numbers come: q of each run's numbers, held or put out -/
structure Main (q : Nat → Prop) (room : Nat) (p : List Int) (s : St) : Prop where
  good : Good s
  full : (s.held.length < room ∧ s.out = []) ∨ s.held.length = room
  rows : ∀ r, r < s.out.length → q (tot r s)
  perm : (vals s).Perm p
theorem main0 (q : Nat → Prop) {room : Nat} (h : 1 ≤ room) : Main q room [] ⟨[], []⟩ :=
  ⟨⟨by simp [SortedH], fun x hx => by simp at hx, fun r hr => by simp at hr⟩, .inl ⟨by simp; omega, rfl⟩, fun r hr => by simp at hr, by simp [vals]⟩
theorem ins_len (y : Hd) (h : List Hd) : (ins y h).length = h.length + 1 := by have := (ins_perm y h).length_eq; simpa using this
theorem main_feed {q : Nat → Prop} {room : Nat} {p : List Int} {s : St} {n : Int} (h1 : 1 ≤ room) (h : Main q room p s) (hq : q room)
    (hput : ∀ x r, s.held = x :: r → x.2 ≤ n → ∀ k, q k → q (k + 1)) : Main q room (p ++ [n]) (feed room s n) := by
  obtain ⟨g, hf, hrows, hp⟩ := h
  obtain ⟨held, out⟩ := s
  unfold feed
  by_cases c : held.length < room
  · rw [if_pos c]
    have ho : out = [] := by
      rcases hf with hf | hf
      · exact hf.2
      · simp at hf; omega
    subst ho
    refine ⟨g.put (.inl rfl), ?_, fun r hr => by simp at hr, ?_⟩
    · show ((ins (0, n) held).length < room ∧ _) ∨ (ins (0, n) held).length = room
      rw [ins_len]
      by_cases c2 : held.length + 1 < room
      · exact .inl ⟨c2, rfl⟩
      · exact .inr (by omega)
    · exact (vals_put _ _ _).trans ((List.Perm.cons n hp).trans (List.perm_append_singleton n p).symm)
  · rw [if_neg c]
    have hlen : held.length = room := by
      rcases hf with hf | hf
      · exact absurd hf.1 c
      · exact hf
    cases held with
    | nil => simp at hlen; omega
    | cons x r =>
      dsimp only
      obtain ⟨g2, hl2, hlast, hcase⟩ := g.take
      have ht := fun k => g.tot k
      have hy : ∀ y : Hd, y = (if x.2 ≤ n then (x.1, n) else (x.1 + 1, n)) → (y.1 = (addR out x).length ∨ (y.1 + 1 = (addR out x).length ∧ ∀ m, lastOf (addR out x) = some m → m ≤ y.2)) ∧ y.2 = n := fun y e => by
        by_cases c2 : x.2 ≤ n
        · rw [if_pos c2] at e; subst e
          exact ⟨.inr ⟨by rw [hl2], fun m hm => by rw [hlast] at hm; injection hm with hm; simpa [← hm] using c2⟩, rfl⟩
        · rw [if_neg c2] at e; subst e
          exact ⟨.inl (by rw [hl2]), rfl⟩
      refine ⟨g2.put (hy _ rfl).1, .inr ?_, fun k hk => ?_, ?_⟩
      · show (ins _ r).length = room
        rw [ins_len]; simpa using hlen
      · replace hk : k < (addR out x).length := hk
        rw [tot_put, ht]
        have hqk : q (tot k ⟨x :: r, out⟩) := by
          rcases hcase with ⟨e, _, hall⟩ | ⟨e, _⟩
          · by_cases c3 : k < out.length
            · exact hrows k c3
            · have : k = x.1 := by omega
              subst this
              have hc : cnt x.1 (x :: r) = room := by
                rw [cnt_all (fun z hz => by rcases List.mem_cons.1 hz with rfl | hz; rfl; exact hall z hz)]; exact hlen
              unfold tot rowLen
              simp only [hc]
              rw [e]
              simpa [List.getD] using hq
          · exact hrows k (by show k < out.length; omega)
        by_cases c2 : x.2 ≤ n
        · rw [if_pos c2]
          by_cases c4 : x.1 = k
          · rw [if_pos c4]; exact hput x r rfl c2 _ hqk
          · rw [if_neg c4]; exact hqk
        · rw [if_neg c2, if_neg (by show ¬ x.1 + 1 = k; omega)]; exact hqk
      · refine (vals_put _ _ _).trans ?_
        rw [(hy _ rfl).2]
        exact (List.Perm.cons n (g.vals.trans hp)).trans (List.perm_append_singleton n p).symm
theorem drain_rows (q : Nat → Prop) : ∀ (h : List Hd) (out : List (List Int)), Good ⟨h, out⟩ → ((∀ r, r < out.length → q (tot r ⟨h, out⟩)) ∨ ((∀ r, r + 1 < out.length → q (tot r ⟨h, out⟩)) ∧ ∀ x ∈ h, x.1 + 1 = out.length)) →
    (∀ r, r + 1 < (drain h out).length → q (rowLen (drain h out) r)) ∧ (∀ r ∈ drain h out, r ≠ [] ∧ r.Pairwise (· ≤ ·)) ∧ (drain h out).flatten.Perm (vals ⟨h, out⟩) := by
  intro h
  induction h with
  | nil =>
    intro out g hc
    refine ⟨fun r hr => ?_, g.rows, by simp [drain, vals]⟩
    have e : tot r ⟨[], out⟩ = rowLen out r := by simp [tot, cnt]
    replace hr : r + 1 < out.length := hr
    show q (rowLen out r)
    rw [← e]
    rcases hc with hc | hc
    · exact hc r (by omega)
    · exact hc.1 r hr
  | cons x h ih =>
    intro out g hc
    obtain ⟨g2, hl2, _, hcase⟩ := g.take
    have ht := fun k => g.tot k
    have := ih (addR out x) g2 (by
      rcases hcase with ⟨e, ea, hall⟩ | ⟨e, _⟩
      · rcases hc with hc | hc
        · exact .inr ⟨fun r hr => by rw [ht]; exact hc r (by omega), fun y hy => by rw [hl2, hall y hy]⟩
        · exact absurd (hc.2 x List.mem_cons_self) (by omega)
      · rcases hc with hc | hc
        · exact .inl fun r hr => by rw [ht]; exact hc r (by omega)
        · exact .inr ⟨fun r hr => by rw [ht]; exact hc.1 r (by omega), fun y hy => by rw [hc.2 y (List.mem_cons_of_mem _ hy)]; omega⟩)
    refine ⟨this.1, this.2.1, this.2.2.trans g.vals⟩
theorem main_all {q : Nat → Prop} {room : Nat} (h1 : 1 ≤ room) (hq : q room) : ∀ (l p : List Int) (s : St), Main q room p s →
    (∀ (pre : List Int) (n : Int) (post : List Int) (s' : St), l = pre ++ n :: post → Main q room (p ++ pre) s' → ∀ x r, s'.held = x :: r → x.2 ≤ n → ∀ k, q k → q (k + 1)) → Main q room (p ++ l) (l.foldl (feed room) s) := by
  intro l
  induction l with
  | nil => intro p s h _; simpa using h
  | cons n l ih =>
    intro p s h hput
    have h2 := main_feed (n := n) h1 h hq (hput [] n l s rfl (by simpa using h))
    have := ih (p ++ [n]) (feed room s n) h2 (fun pre m post s' e hm => hput (n :: pre) m post s' (by rw [e]; rfl) (by simpa using hm))
    simpa using this
theorem runs_good {l : List Int} {room : Nat} (h1 : 1 ≤ room) : (∀ r, r + 1 < (runsF l room).length → room ≤ rowLen (runsF l room) r) ∧ (∀ r ∈ runsF l room, r ≠ [] ∧ r.Pairwise (· ≤ ·)) ∧ (runsF l room).flatten.Perm l := by
  have hm := main_all (q := fun k => room ≤ k) h1 (Nat.le_refl _) l [] ⟨[], []⟩ (main0 _ h1) (fun _ _ _ _ _ _ _ _ _ _ k hk => by omega)
  obtain ⟨a, b, c⟩ := drain_rows (fun k => room ≤ k) _ _ hm.good (.inl hm.rows)
  exact ⟨a, b, c.trans (by simpa using hm.perm)⟩
/-- what falls all the way -/
theorem runs_falls {l : List Int} {room : Nat} (h1 : 1 ≤ room) (hf : l.Pairwise (· > ·)) : ∀ r, r + 1 < (runsF l room).length → rowLen (runsF l room) r = room := by
  have hm := main_all (q := fun k => k = room) h1 rfl l [] ⟨[], []⟩ (main0 _ h1) (fun pre n post s' e hm x r hx hle k hk => by
    exfalso
    have hmem : x.2 ∈ pre := by
      have : x.2 ∈ vals s' := by unfold vals; rw [hx]; simp
      simpa using hm.perm.mem_iff.1 this
    rw [e, List.pairwise_append] at hf
    have := hf.2.2 x.2 hmem n List.mem_cons_self
    omega)
  exact (drain_rows (fun k => k = room) _ _ hm.good (.inl hm.rows)).1
theorem sum_rows : ∀ (out : List (List Int)) (room : Nat), (∀ r, r + 1 < out.length → room ≤ rowLen out r) → out.length * room ≤ out.flatten.length + room := by
  intro out room h
  induction out with
  | nil => simp
  | cons a out ih =>
    cases out with
    | nil => simp
    | cons b out =>
      have h0 := h 0 (by simp)
      have := ih fun r hr => by have := h (r + 1) (by simp at hr ⊢; omega); simpa [rowLen] using this
      simp only [rowLen, List.getD_cons_zero] at h0
      simp only [List.length_cons, List.flatten_cons, List.length_append] at this ⊢
      rw [Nat.add_mul, Nat.one_mul]
      omega
/-- what is nearly sorted -/
theorem near_all {room : Nat} (h1 : 1 ≤ room) : ∀ (l p : List Int) (s : St), Main (fun _ => True) room p s → (∀ x ∈ s.held, x.1 = 0) → s.out.length ≤ 1 →
    (∀ pre n post, l = pre ++ n :: post → (p ++ pre).countP (fun m => decide (n < m)) < room) → (∀ x ∈ (l.foldl (feed room) s).held, x.1 = 0) ∧ (l.foldl (feed room) s).out.length ≤ 1 := by
  intro l
  induction l with
  | nil => intro p s _ h2 h3 _; exact ⟨h2, h3⟩
  | cons n l ih =>
    intro p s hm h2 h3 hn
    have hm2 := main_feed (n := n) h1 hm trivial (fun _ _ _ _ _ _ => trivial)
    refine ih (p ++ [n]) (feed room s n) hm2 ?_ ?_ (fun pre m post e => by have := hn (n :: pre) m post (by rw [e]; rfl); simpa using this)
    all_goals
      obtain ⟨held, out⟩ := s
      unfold feed
      by_cases c : held.length < room
      · rw [if_pos c]
        first
          | exact h3
          | (intro x hx
             rcases List.mem_cons.1 ((ins_perm _ _).mem_iff.1 hx) with rfl | hx
             · rfl
             · exact h2 x hx)
      · rw [if_neg c]
        cases held with
        | nil => first | exact h3 | exact h2
        | cons x r =>
          have hx0 := h2 x List.mem_cons_self
          have hxn : x.2 ≤ n := by
            refine Int.not_lt.1 fun hlt => ?_
            have hall : ∀ z ∈ (x :: r).map (·.2), decide (n < z) = true := fun z hz => by
              obtain ⟨y, hy, rfl⟩ := List.mem_map.1 hz
              have hy0 := h2 y hy
              have : le x y := by
                rcases List.mem_cons.1 hy with rfl | hy
                · exact le_refl _
                · exact (List.pairwise_cons.1 hm.good.sorted).1 y hy
              unfold le at this
              exact decide_eq_true (by omega)
            have h4 := hn [] n l rfl
            have h5 := hm.perm.countP_eq (fun m => decide (n < m))
            unfold vals at h5
            rw [List.countP_append, List.countP_eq_length.2 hall, List.length_map] at h5
            rw [List.append_nil, ← h5] at h4
            omega
          dsimp only
          try rw [if_pos hxn]
          first
            | (show (addR out x).length ≤ 1
               obtain ⟨_, hl2, _⟩ := hm.good.take
               omega)
            | (intro y hy
               rcases List.mem_cons.1 ((ins_perm _ _).mem_iff.1 hy) with rfl | hy
               · exact hx0
               · exact h2 y (List.mem_cons_of_mem _ hy))
theorem drain_zero : ∀ (h : List Hd) (out : List (List Int)), Good ⟨h, out⟩ → (∀ x ∈ h, x.1 = 0) → out.length ≤ 1 → (drain h out).length ≤ 1 := by
  intro h
  induction h with
  | nil => intro out _ _ h; exact h
  | cons x h ih =>
    intro out g h2 h3
    obtain ⟨g2, hl2, _⟩ := g.take
    have := h2 x List.mem_cons_self
    exact ih _ g2 (fun y hy => h2 y (List.mem_cons_of_mem _ hy)) (by omega)
theorem runs_near {l : List Int} {room : Nat} (h1 : 1 ≤ room) (hn : ∀ pre n post, l = pre ++ n :: post → pre.countP (fun m => decide (n < m)) < room) (hl : l ≠ []) : (runsF l room).length = 1 := by
  have hm := main_all (q := fun _ => True) h1 trivial l [] ⟨[], []⟩ (main0 _ h1) (fun _ _ _ _ _ _ _ _ _ _ _ _ => trivial)
  obtain ⟨a, b⟩ := near_all h1 l [] ⟨[], []⟩ (main0 _ h1) (fun x hx => by simp at hx) (by simp) (fun pre n post e => by simpa using hn pre n post e)
  have h2 := drain_zero _ _ hm.good a b
  have h3 := (runs_good (l := l) h1).2.2.length_eq
  have h4 : (runsF l room).length ≠ 0 := fun e => by
    rw [List.eq_nil_of_length_eq_zero e] at h3
    exact hl (List.eq_nil_of_length_eq_zero (by simpa using h3.symm))
  have h5 : (runsF l room).length ≤ 1 := h2
  omega
end Rk.Runs
