/- Plain law: the document's Lengths: the two lightest groups found by going through all; they are the first two of the sorted ones. No program in sight. -/
import Derived.Test.YtdpnlimhmpnhpaaDoorHuffQ
namespace Rk.Hf
/-- the two lightest living groups among the first k: a, then b; -1: there is none -/
structure Scan (V : Nat → Int) (k : Nat) (a b : Int) : Prop where
  none1 : a < 0 → a = -1 ∧ b = -1 ∧ ∀ i, i < k → V i < 0
  some1 : 0 ≤ a → a.toNat < k ∧ 0 ≤ V a.toNat ∧ ∀ i, i < k → 0 ≤ V i → i ≠ a.toNat → V a.toNat < V i ∨ V a.toNat = V i ∧ a.toNat < i
  none2 : b < 0 → b = -1 ∧ ∀ i : Nat, i < k → 0 ≤ V i → (i : Int) = a
  some2 : 0 ≤ b → 0 ≤ a ∧ b ≠ a ∧ b.toNat < k ∧ 0 ≤ V b.toNat ∧ ∀ i : Nat, i < k → 0 ≤ V i → (i : Int) ≠ a → i ≠ b.toNat → V b.toNat < V i ∨ V b.toNat = V i ∧ b.toNat < i
theorem scan_nil (V : Nat → Int) : Scan V 0 (-1) (-1) :=
  ⟨fun _ => ⟨rfl, rfl, fun i hi => by omega⟩, fun h => by omega, fun _ => ⟨rfl, fun i hi => by omega⟩, fun h => by omega⟩
variable {V : Nat → Int} {k : Nat} {a b : Int}
theorem Scan.dead (h : Scan V k a b) (hk : V k < 0) : Scan V (k + 1) a b := by
  refine ⟨fun h0 => ⟨(h.none1 h0).1, (h.none1 h0).2.1, fun i hi => ?_⟩, fun h0 => ⟨by have := (h.some1 h0).1; omega, (h.some1 h0).2.1, fun i hi hv hne => ?_⟩, fun h0 => ⟨(h.none2 h0).1, fun i hi hv => ?_⟩,
    fun h0 => ⟨(h.some2 h0).1, (h.some2 h0).2.1, by have := (h.some2 h0).2.2.1; omega, (h.some2 h0).2.2.2.1, fun i hi hv h1 h2 => ?_⟩⟩
  · by_cases e : i = k
    · subst e; exact hk
    · exact (h.none1 h0).2.2 i (by omega)
  · by_cases e : i = k
    · subst e; omega
    · exact (h.some1 h0).2.2 i (by omega) hv hne
  · by_cases e : i = k
    · subst e; omega
    · exact (h.none2 h0).2 i (by omega) hv
  · by_cases e : i = k
    · subst e; omega
    · exact (h.some2 h0).2.2.2.2 i (by omega) hv h1 h2
theorem Scan.first (h : Scan V k a b) (hk : 0 ≤ V k) (ha : a < 0 ∨ V k < V a.toNat) : Scan V (k + 1) (k : Int) a := by
  refine ⟨fun h0 => by omega, fun _ => ⟨by omega, by simpa using hk, fun i hi hv hne => ?_⟩, fun h0 => ⟨(h.none1 h0).1, fun i hi hv => ?_⟩, fun h0 => ⟨by omega, by have := (h.some1 h0).1; omega, by have := (h.some1 h0).1; omega, (h.some1 h0).2.1, fun i hi hv h1 h2 => ?_⟩⟩
  · simp only [Int.toNat_natCast] at hne ⊢
    have hik : i < k := by omega
    rcases Int.lt_or_le a 0 with h0 | h0
    · have := (h.none1 h0).2.2 i hik; omega
    · have hlt : V k < V a.toNat := ha.resolve_left (by omega)
      by_cases e : i = a.toNat
      · subst e; exact .inl hlt
      · have := (h.some1 h0).2.2 i hik hv e; omega
  · by_cases e : i = k
    · rw [e]
    · have := (h.none1 h0).2.2 i (by omega); omega
  · have hik : i < k := by omega
    exact (h.some1 h0).2.2 i hik hv h2
theorem Scan.second (h : Scan V k a b) (hk : 0 ≤ V k) (ha : 0 ≤ a) (ha2 : ¬ V k < V a.toNat) (hb : b < 0 ∨ V k < V b.toNat) : Scan V (k + 1) a (k : Int) := by
  obtain ⟨s1, s2, s3⟩ := h.some1 ha
  refine ⟨fun h0 => by omega, fun _ => ⟨by omega, s2, fun i hi hv hne => ?_⟩, fun h0 => by omega, fun _ => ⟨ha, by omega, by omega, by simpa using hk, fun i hi hv h1 h2 => ?_⟩⟩
  · by_cases e : i = k
    · subst e; omega
    · exact s3 i (by omega) hv hne
  · simp only [Int.toNat_natCast] at h2 ⊢
    have hik : i < k := by omega
    rcases Int.lt_or_le b 0 with h0 | h0
    · exact absurd ((h.none2 h0).2 i hik hv) h1
    · have hlt : V k < V b.toNat := hb.resolve_left (by omega)
      by_cases e : i = b.toNat
      · subst e; exact .inl hlt
      · have := (h.some2 h0).2.2.2.2 i hik hv h1 e; omega
theorem Scan.third (h : Scan V k a b) (ha : 0 ≤ a) (ha2 : ¬ V k < V a.toNat) (hb : 0 ≤ b) (hb2 : ¬ V k < V b.toNat) : Scan V (k + 1) a b := by
  obtain ⟨s1, s2, s3⟩ := h.some1 ha
  obtain ⟨_, t1, t2, t3, t4⟩ := h.some2 hb
  refine ⟨fun h0 => by omega, fun _ => ⟨by omega, s2, fun i hi hv hne => ?_⟩, fun h0 => by omega, fun _ => ⟨ha, t1, by omega, t3, fun i hi hv h1 h2 => ?_⟩⟩
  · by_cases e : i = k
    · subst e; omega
    · exact s3 i (by omega) hv hne
  · by_cases e : i = k
    · subst e; omega
    · exact t4 i (by omega) hv h1 h2
/-- the groups that live, as the document has them: the weight of each (V), of each symbol the group (O) -/
structure Gs (V : Nat → Int) (O : Nat → Nat) (N n : Nat) (gs : List Grp) : Prop where
  sorted : gs.Pairwise le
  made : gs.Pairwise fun x y => x.2.1 ≠ y.2.1
  wt : ∀ g ∈ gs, g.2.1 < N ∧ V g.2.1 = (g.1 : Int)
  live : ∀ i, i < N → 0 ≤ V i → ∃ g ∈ gs, g.2.1 = i
  old : ∀ s, s < n → O s < N
  cnt : ∀ g ∈ gs, ∀ s, s < n → g.2.2.count s = if O s = g.2.1 then 1 else 0
variable {O : Nat → Nat} {N n : Nat} {ga gb : Grp} {r : List Grp}
theorem Gs.two (h : Gs V O N n (ga :: gb :: r)) (hs : Scan V N a b) : a = (ga.2.1 : Int) ∧ b = (gb.2.1 : Int) := by
  obtain ⟨hA, hR⟩ := List.pairwise_cons.1 h.sorted
  obtain ⟨hB, _⟩ := List.pairwise_cons.1 hR
  obtain ⟨mA, mR⟩ := List.pairwise_cons.1 h.made
  obtain ⟨mB, _⟩ := List.pairwise_cons.1 mR
  have wa := h.wt ga (by simp)
  have wb := h.wt gb (by simp)
  have hab := mA gb (by simp)
  have ha0 : 0 ≤ a := by
    rcases Int.lt_or_le a 0 with h0 | h0
    · have := (hs.none1 h0).2.2 _ wa.1; omega
    · exact h0
  obtain ⟨s1, s2, s3⟩ := hs.some1 ha0
  have hea : a.toNat = ga.2.1 := by
    apply Classical.byContradiction
    intro hne
    obtain ⟨g, hg, e⟩ := h.live _ s1 s2
    have h1 := s3 ga.2.1 wa.1 (by omega) (fun e => hne e.symm)
    rcases List.mem_cons.1 hg with e2 | hg
    · rw [e2] at e; exact hne e.symm
    · have h2 := hA g hg
      have wg := h.wt g (List.mem_cons_of_mem _ hg)
      rw [← e] at h1
      unfold le at h2
      omega
  have hb0 : 0 ≤ b := by
    rcases Int.lt_or_le b 0 with h0 | h0
    · have := (hs.none2 h0).2 gb.2.1 wb.1 (by omega); omega
    · exact h0
  obtain ⟨_, t1, t2, t3, t4⟩ := hs.some2 hb0
  have heb : b.toNat = gb.2.1 := by
    apply Classical.byContradiction
    intro hne
    obtain ⟨g, hg, e⟩ := h.live _ t2 t3
    have h1 := t4 gb.2.1 wb.1 (by omega) (by omega) (fun e => hne e.symm)
    rcases List.mem_cons.1 hg with e2 | hg
    · rw [e2] at e; omega
    · rcases List.mem_cons.1 hg with e2 | hg
      · rw [e2] at e; exact hne e.symm
      · have h2 := hB g hg
        have wg := h.wt g (by simp [hg])
        rw [← e] at h1
        unfold le at h2
        omega
  omega
/-- two groups put together -/
def joinV (V : Nat → Int) (N a b : Nat) : Nat → Int := fun i => if i = b then -1 else if i = a then -1 else if i = N then V a + V b else V i
def joinO (O : Nat → Nat) (N a b : Nat) : Nat → Nat := fun s => if O s = a ∨ O s = b then N else O s
theorem Gs.join (h : Gs V O N n (ga :: gb :: r)) : Gs (joinV V N ga.2.1 gb.2.1) (joinO O N ga.2.1 gb.2.1) (N + 1) n (ins (ga.1 + gb.1, N, ga.2.2 ++ gb.2.2) r) := by
  obtain ⟨hA, hR⟩ := List.pairwise_cons.1 h.sorted
  obtain ⟨hB, hr⟩ := List.pairwise_cons.1 hR
  obtain ⟨mA, mR⟩ := List.pairwise_cons.1 h.made
  obtain ⟨mB, mr⟩ := List.pairwise_cons.1 mR
  have wa := h.wt ga (by simp)
  have wb := h.wt gb (by simp)
  have hab := mA gb (by simp)
  have hmem : ∀ g, g ∈ ins (ga.1 + gb.1, N, ga.2.2 ++ gb.2.2) r → g = (ga.1 + gb.1, N, ga.2.2 ++ gb.2.2) ∨ g ∈ r := fun g hg => List.mem_cons.1 ((ins_perm _ r).mem_iff.1 hg)
  have hrm : ∀ g ∈ r, g.2.1 ≠ ga.2.1 ∧ g.2.1 ≠ gb.2.1 ∧ g.2.1 < N ∧ V g.2.1 = (g.1 : Int) := fun g hg =>
    ⟨fun e => mA g (by simp [hg]) e.symm, fun e => mB g hg e.symm, h.wt g (by simp [hg])⟩
  refine ⟨ins_sorted hr, ?_, fun g hg => ?_, fun i hi hv => ?_, fun s hs => ?_, fun g hg s hs => ?_⟩
  · refine ((ins_perm _ r).pairwise_iff (fun h e => h e.symm)).2 (List.pairwise_cons.2 ⟨fun g hg e => ?_, mr⟩)
    have := (hrm g hg).2.2.1
    simp only at e; omega
  · rcases hmem g hg with rfl | hg
    · refine ⟨by simp, ?_⟩
      show joinV V N ga.2.1 gb.2.1 N = _
      unfold joinV
      rw [if_neg (by omega), if_neg (by omega), if_pos rfl, wa.2, wb.2]
      simp
    · obtain ⟨h1, h2, h3, h4⟩ := hrm g hg
      refine ⟨by omega, ?_⟩
      simp only [joinV]
      rw [if_neg h2, if_neg h1, if_neg (by omega), h4]
  · simp only [joinV] at hv
    by_cases e1 : i = gb.2.1
    · rw [if_pos e1] at hv; omega
    · rw [if_neg e1] at hv
      by_cases e2 : i = ga.2.1
      · rw [if_pos e2] at hv; omega
      · rw [if_neg e2] at hv
        by_cases e3 : i = N
        · exact ⟨_, (ins_perm _ r).mem_iff.2 List.mem_cons_self, e3.symm⟩
        · rw [if_neg e3] at hv
          obtain ⟨g, hg, e⟩ := h.live i (by omega) hv
          rcases List.mem_cons.1 hg with e4 | hg
          · rw [e4] at e; omega
          · rcases List.mem_cons.1 hg with e4 | hg
            · rw [e4] at e; omega
            · exact ⟨g, (ins_perm _ r).mem_iff.2 (List.mem_cons_of_mem _ hg), e⟩
  · have := h.old s hs
    unfold joinO; split <;> omega
  · have ho := h.old s hs
    rcases hmem g hg with rfl | hg
    · have c1 := h.cnt ga (by simp) s hs
      have c2 := h.cnt gb (by simp) s hs
      have hj : joinO O N ga.2.1 gb.2.1 s = N ↔ (O s = ga.2.1 ∨ O s = gb.2.1) := by
        unfold joinO
        constructor
        · intro h; by_cases e : O s = ga.2.1 ∨ O s = gb.2.1
          · exact e
          · rw [if_neg e] at h; omega
        · intro h; rw [if_pos h]
      show (ga.2.2 ++ gb.2.2).count s = if joinO O N ga.2.1 gb.2.1 s = N then 1 else 0
      rw [List.count_append, c1, c2]
      by_cases e1 : O s = ga.2.1
      · rw [if_pos e1, if_neg (by omega), if_pos (hj.2 (.inl e1))]
      · by_cases e2 : O s = gb.2.1
        · rw [if_neg e1, if_pos e2, if_pos (hj.2 (.inr e2))]
        · rw [if_neg e1, if_neg e2, if_neg (fun h => (hj.1 h).elim e1 e2)]
    · obtain ⟨h1, h2, h3, _⟩ := hrm g hg
      have c := h.cnt g (by simp [hg]) s hs
      rw [c]
      by_cases e1 : O s = ga.2.1 ∨ O s = gb.2.1
      · have : joinO O N ga.2.1 gb.2.1 s = N := if_pos e1
        rw [this, if_neg (by omega), if_neg (by omega)]
      · have : joinO O N ga.2.1 gb.2.1 s = O s := if_neg e1
        rw [this]
theorem Gs.bump (h : Gs V O N n (ga :: gb :: r)) (d : Nat → Nat) {s : Nat} (hs : s < n) : Hf.bump d (ga.2.2 ++ gb.2.2) s = if O s = ga.2.1 ∨ O s = gb.2.1 then d s + 1 else d s := by
  have hab := (List.pairwise_cons.1 h.made).1 gb (by simp)
  have c1 := h.cnt ga (by simp) s hs
  have c2 := h.cnt gb (by simp) s hs
  simp only [Hf.bump, List.count_append]
  rw [c1, c2]
  by_cases e1 : O s = ga.2.1
  · rw [if_pos e1, if_neg (by omega), if_pos (.inl e1)]
  · by_cases e2 : O s = gb.2.1
    · rw [if_neg e1, if_pos e2, if_pos (.inr e2)]
    · rw [if_neg e1, if_neg e2, if_neg (by omega)]; rfl
theorem start_gs (w : Nat → Nat) (V : Nat → Int) (n : Nat) (hV : ∀ i, i < n → V i = (w i : Int)) : Gs V (fun s => s) n n (start w n) := by
  refine ⟨start_sorted w n, ?_, fun g hg => ?_, fun i hi _ => ?_, fun s hs => hs, fun g hg s hs => ?_⟩
  · have : ∀ m, (start w m).Pairwise fun x y => x.2.1 ≠ y.2.1 := by
      intro m
      induction m with
      | zero => exact List.Pairwise.nil
      | succ m ih =>
        refine ((ins_perm _ _).pairwise_iff (fun h e => h e.symm)).2 (List.pairwise_cons.2 ⟨fun g hg e => ?_, ih⟩)
        obtain ⟨k, hk, rfl⟩ := start_mem hg
        simp only at e; omega
    exact this n
  · obtain ⟨k, hk, rfl⟩ := start_mem hg
    exact ⟨hk, hV k hk⟩
  · have : ∀ m, i < m → ∃ g ∈ start w m, g.2.1 = i := by
      intro m
      induction m with
      | zero => intro h; omega
      | succ m ih =>
        intro him
        by_cases e : i = m
        · exact ⟨(w m, m, [m]), (ins_perm _ _).mem_iff.2 List.mem_cons_self, e.symm⟩
        · obtain ⟨g, hg, h⟩ := ih (by omega)
          exact ⟨g, (ins_perm _ _).mem_iff.2 (List.mem_cons_of_mem _ hg), h⟩
    exact this n hi
  · obtain ⟨k, hk, rfl⟩ := start_mem hg
    simp only [List.count_singleton]
    by_cases e : s = k
    · subst e; simp
    · rw [if_neg e]; simp; omega
theorem ins_len (x : Grp) (l : List Grp) : (ins x l).length = l.length + 1 := by rw [(ins_perm x l).length_eq, List.length_cons]
theorem go_step {k : Nat} {m : Nat} {d : Nat → Nat} : go (k + 1) (ga :: gb :: r) m d = go k (ins (ga.1 + gb.1, m, ga.2.2 ++ gb.2.2) r) (m + 1) (Hf.bump d (ga.2.2 ++ gb.2.2)) := rfl
theorem go_one {k m : Nat} {g : List Grp} {d : Nat → Nat} (h : g.length ≤ 1) : go k g m d = d := by
  match k, g with
  | 0, _ => rfl
  | _ + 1, [] => rfl
  | _ + 1, [_] => rfl
  | _ + 1, _ :: _ :: _ => simp at h
end Rk.Hf
