/- Plain law: Huffman's lengths as they are made: groups put together two by two, the two lightest first. No program in sight. -/
import Derived.Test.YthdiheblgmddhaaDoorHuffP
namespace Rk.Hf
/-- a group: its weight, when it was made, its leaves -/
abbrev Grp := Nat × Nat × List Nat
def le (a b : Grp) : Prop := a.1 < b.1 ∨ a.1 = b.1 ∧ a.2.1 ≤ b.2.1
instance (a b : Grp) : Decidable (le a b) := by unfold le; infer_instance
theorem le_total (a b : Grp) : le a b ∨ le b a := by unfold le; omega
theorem le_trans {a b c : Grp} (h : le a b) (g : le b c) : le a c := by unfold le at *; omega
def ins (x : Grp) : List Grp → List Grp
  | [] => [x]
  | y :: r => if le x y then x :: y :: r else y :: ins x r
theorem ins_perm (x : Grp) : ∀ l, (ins x l).Perm (x :: l) := by
  intro l
  induction l with
  | nil => exact List.Perm.refl _
  | cons y r ih =>
    simp only [ins]
    split
    · exact List.Perm.refl _
    · exact (List.Perm.cons y ih).trans (List.Perm.swap x y r)
theorem ins_sorted {x : Grp} {l : List Grp} (h : l.Pairwise le) : (ins x l).Pairwise le := by
  induction l with
  | nil => simp [ins]
  | cons y r ih =>
    obtain ⟨h1, h2⟩ := List.pairwise_cons.1 h
    simp only [ins]
    split
    · rename_i hxy
      refine List.pairwise_cons.2 ⟨fun z hz => ?_, h⟩
      rcases List.mem_cons.1 hz with rfl | hz
      · exact hxy
      · exact le_trans hxy (h1 z hz)
    · rename_i hxy
      refine List.pairwise_cons.2 ⟨fun z hz => ?_, ih h2⟩
      rcases List.mem_cons.1 ((ins_perm x r).mem_iff.1 hz) with rfl | hz
      · exact (le_total y z).resolve_right hxy
      · exact h1 z hz
def bump (d : Nat → Nat) (l : List Nat) : Nat → Nat := fun i => d i + l.count i
def go : Nat → List Grp → Nat → (Nat → Nat) → (Nat → Nat)
  | k + 1, a :: b :: r, m, d => go k (ins (a.1 + b.1, m, a.2.2 ++ b.2.2) r) (m + 1) (bump d (a.2.2 ++ b.2.2))
  | _, _, _, d => d
def start (w : Nat → Nat) : Nat → List Grp
  | 0 => []
  | k + 1 => ins (w k, k, [k]) (start w k)
def lenF (n : Nat) (w : Nat → Nat) : Nat → Nat := go n (start w n) n (fun _ => 0)

def sumOn (f : Nat → Nat) (l : List Nat) : Nat := (l.map f).sum
theorem sumOn_append (f : Nat → Nat) (l m : List Nat) : sumOn f (l ++ m) = sumOn f l + sumOn f m := by simp [sumOn]
theorem sumOn_perm {f : Nat → Nat} {l m : List Nat} (h : l.Perm m) : sumOn f l = sumOn f m := (h.map f).sum_nat
theorem sumOn_congr {f g : Nat → Nat} {l : List Nat} (h : ∀ i ∈ l, f i = g i) : sumOn f l = sumOn g l := by
  unfold sumOn; rw [List.map_congr_left h]
theorem sumOn_cons (f : Nat → Nat) (i : Nat) (l : List Nat) : sumOn f (i :: l) = f i + sumOn f l := by simp [sumOn]
theorem sumOn_add (f g : Nat → Nat) : ∀ l : List Nat, sumOn (fun i => f i + g i) l = sumOn f l + sumOn g l := by
  intro l
  induction l with
  | nil => rfl
  | cons i r ih => rw [sumOn_cons, sumOn_cons, sumOn_cons, ih]; omega
theorem sumOn_two {f g : Nat → Nat} : ∀ {l : List Nat}, (∀ i ∈ l, f i = 2 * g i) → sumOn f l = 2 * sumOn g l := by
  intro l
  induction l with
  | nil => intro _; rfl
  | cons i r ih =>
    intro h
    rw [sumOn_cons, sumOn_cons, ih (fun j hj => h j (List.mem_cons_of_mem _ hj)), h i List.mem_cons_self]; omega
theorem sumOn_le {f g : Nat → Nat} : ∀ {l : List Nat}, (∀ i ∈ l, f i ≤ g i) → sumOn f l ≤ sumOn g l := by
  intro l
  induction l with
  | nil => intro _; exact Nat.le_refl _
  | cons i r ih =>
    intro h
    rw [sumOn_cons, sumOn_cons]
    have := ih (fun j hj => h j (List.mem_cons_of_mem _ hj))
    have := h i List.mem_cons_self
    omega

def leaves (gs : List Grp) : List Nat := gs.flatMap (·.2.2)
theorem leaves_perm {a b : List Grp} (h : a.Perm b) : (leaves a).Perm (leaves b) := by
  unfold leaves
  induction h with
  | nil => exact List.Perm.refl _
  | cons x _ ih => simp only [List.flatMap_cons]; exact List.Perm.append_left _ ih
  | swap x y l =>
    simp only [List.flatMap_cons, ← List.append_assoc]
    exact List.Perm.append_right _ List.perm_append_comm
  | trans _ _ h1 h2 => exact h1.trans h2
structure Inv (n : Nat) (w : Nat → Nat) (gs : List Grp) (d : Nat → Nat) : Prop where
  sorted : gs.Pairwise le
  part : (leaves gs).Perm (List.range n)
  grp : ∀ g ∈ gs, g.1 = sumOn w g.2.2 ∧ sumOn (fun i => 2 ^ (40 - d i)) g.2.2 = 2 ^ 40 ∧ ∀ i ∈ g.2.2, d i < g.2.2.length
theorem start_perm (w : Nat → Nat) : ∀ n, (leaves (start w n)).Perm (List.range n) := by
  intro n
  induction n with
  | zero => exact List.Perm.refl _
  | succ n ih =>
    refine (leaves_perm (ins_perm _ _)).trans ?_
    rw [List.range_succ]
    show ([n] ++ leaves (start w n)).Perm _
    exact List.perm_append_comm.trans (List.Perm.append_right _ ih)
theorem start_mem {w : Nat → Nat} : ∀ {n : Nat} {g : Grp}, g ∈ start w n → ∃ k, k < n ∧ g = (w k, k, [k]) := by
  intro n
  induction n with
  | zero => intro g h; cases h
  | succ n ih =>
    intro g h
    rcases List.mem_cons.1 ((ins_perm _ _).mem_iff.1 h) with e | h
    · exact ⟨n, by omega, e⟩
    · obtain ⟨k, h1, h2⟩ := ih h; exact ⟨k, by omega, h2⟩
theorem start_sorted (w : Nat → Nat) : ∀ n, (start w n).Pairwise le := by
  intro n
  induction n with
  | zero => exact List.Pairwise.nil
  | succ n ih => exact ins_sorted ih
theorem start_len (w : Nat → Nat) : ∀ n, (start w n).length = n := by
  intro n
  induction n with
  | zero => rfl
  | succ n ih => have := (ins_perm (w n, n, [n]) (start w n)).length_eq; simp only [List.length_cons, ih] at this; exact this
theorem start_inv (n : Nat) (w : Nat → Nat) : Inv n w (start w n) (fun _ => 0) :=
  ⟨start_sorted w n, start_perm w n, fun g hg => by
    obtain ⟨k, _, rfl⟩ := start_mem hg
    exact ⟨by simp [sumOn], by simp [sumOn], fun i _ => by simp⟩⟩

theorem huff_perm {W W' : List Nat} {c : Nat} (h : Huff W c) (p : W.Perm W') : Huff W' c := by
  cases h with
  | one w => rw [List.perm_singleton.1 p.symm]; exact .one w
  | two hp ha hb h => exact .two (p.symm.trans hp) ha hb h

theorem bump_in {d : Nat → Nat} {l : List Nat} (hn : l.Nodup) {i : Nat} (hi : i ∈ l) : bump d l i = d i + 1 := by
  unfold bump; rw [hn.count, if_pos hi]
theorem bump_out {d : Nat → Nat} {l : List Nat} {i : Nat} (hi : i ∉ l) : bump d l i = d i := by
  unfold bump; rw [List.count_eq_zero_of_not_mem hi]; rfl

section
variable {n m : Nat} {w d : Nat → Nat} {a b : Grp} {r : List Grp}
theorem Inv.nodup (h : Inv n w (a :: b :: r) d) : ((a.2.2 ++ b.2.2) ++ leaves r).Nodup := by
  have := h.part.nodup_iff.2 List.nodup_range
  simpa [leaves, List.append_assoc] using this
theorem Inv.step (hn : n ≤ 40) (h : Inv n w (a :: b :: r) d) : Inv n w (ins (a.1 + b.1, m, a.2.2 ++ b.2.2) r) (bump d (a.2.2 ++ b.2.2)) := by
  have hnd := h.nodup
  obtain ⟨hnd1, hnd2, hdis⟩ := List.nodup_append.1 hnd
  obtain ⟨a1, a2, a3⟩ := h.grp a (by simp)
  obtain ⟨b1, b2, b3⟩ := h.grp b (by simp)
  have hlen : (leaves (a :: b :: r)).length = n := by have := h.part.length_eq; simpa using this
  have hab : a.2.2.length + b.2.2.length ≤ n := by
    have : (leaves (a :: b :: r)).length = a.2.2.length + (b.2.2.length + (leaves r).length) := by simp [leaves]
    omega
  have hne : ∀ l : List Nat, sumOn (fun i => 2 ^ (40 - d i)) l = 2 ^ 40 → 1 ≤ l.length := by
    intro l hl
    cases l with
    | nil => simp [sumOn] at hl
    | cons => simp
  have ha0 := hne _ a2
  have hb0 := hne _ b2
  refine ⟨ins_sorted (List.pairwise_cons.1 (List.pairwise_cons.1 h.sorted).2).2, ?_, fun g hg => ?_⟩
  · refine (leaves_perm (ins_perm _ _)).trans (List.Perm.trans ?_ h.part)
    simp only [leaves, List.flatMap_cons, List.append_assoc]
    exact List.Perm.refl _
  · rcases List.mem_cons.1 ((ins_perm _ _).mem_iff.1 hg) with rfl | hg
    · have hdb : ∀ i ∈ a.2.2 ++ b.2.2, d i + 1 < a.2.2.length + b.2.2.length := by
        intro i hi
        rcases List.mem_append.1 hi with hi | hi
        · have := a3 i hi; omega
        · have := b3 i hi; omega
      refine ⟨by rw [sumOn_append, ← a1, ← b1], ?_, fun i hi => ?_⟩
      · have h2 : sumOn (fun i => 2 ^ (40 - d i)) (a.2.2 ++ b.2.2) = 2 * sumOn (fun i => 2 ^ (40 - bump d (a.2.2 ++ b.2.2) i)) (a.2.2 ++ b.2.2) := by
          refine sumOn_two fun i hi => ?_
          rw [bump_in hnd1 hi]
          have := hdb i hi
          rw [show 40 - d i = (40 - (d i + 1)) + 1 from by omega, Nat.pow_succ]; omega
        rw [sumOn_append, a2, b2] at h2
        have h3 : sumOn (fun i => 2 ^ (40 - bump d (a.2.2 ++ b.2.2) i)) (a.2.2 ++ b.2.2) = 2 ^ 40 := by omega
        exact h3
      · show bump d (a.2.2 ++ b.2.2) i < (a.2.2 ++ b.2.2).length
        rw [bump_in hnd1 hi, List.length_append]
        exact hdb i hi
    · obtain ⟨g1, g2, g3⟩ := h.grp g (by simp [hg])
      have hout : ∀ i ∈ g.2.2, bump d (a.2.2 ++ b.2.2) i = d i := fun i hi => bump_out fun hi' => hdis i hi' i (List.mem_flatMap.2 ⟨g, hg, hi⟩) rfl
      exact ⟨g1, by rw [← g2]; exact sumOn_congr fun i hi => by rw [hout i hi], fun i hi => by rw [hout i hi]; exact g3 i hi⟩
def costOf (n : Nat) (w d : Nat → Nat) : Nat := sumOn (fun i => w i * d i) (List.range n)
theorem Inv.cost (h : Inv n w (a :: b :: r) d) : costOf n w (bump d (a.2.2 ++ b.2.2)) = costOf n w d + (a.1 + b.1) := by
  obtain ⟨hnd1, _, hdis⟩ := List.nodup_append.1 h.nodup
  obtain ⟨a1, _, _⟩ := h.grp a (by simp)
  obtain ⟨b1, _, _⟩ := h.grp b (by simp)
  have hp : (List.range n).Perm ((a.2.2 ++ b.2.2) ++ leaves r) := by
    have := h.part.symm
    simpa [leaves, List.append_assoc] using this
  unfold costOf
  rw [sumOn_perm hp, sumOn_perm (f := fun i => w i * d i) hp, sumOn_append, sumOn_append (fun i => w i * d i)]
  have e1 : sumOn (fun i => w i * bump d (a.2.2 ++ b.2.2) i) (a.2.2 ++ b.2.2) = sumOn (fun i => w i * d i) (a.2.2 ++ b.2.2) + sumOn w (a.2.2 ++ b.2.2) := by
    rw [← sumOn_add]
    exact sumOn_congr fun i hi => by rw [bump_in hnd1 hi, Nat.mul_succ]
  have e2 : sumOn (fun i => w i * bump d (a.2.2 ++ b.2.2) i) (leaves r) = sumOn (fun i => w i * d i) (leaves r) :=
    sumOn_congr fun i hi => by rw [bump_out fun hi' => hdis i hi' i hi rfl]
  rw [e1, e2, sumOn_append w, ← a1, ← b1]
  omega
end
theorem go_spec {n : Nat} {w : Nat → Nat} (hn : n ≤ 40) : ∀ (k : Nat) (gs : List Grp) (m : Nat) (d : Nat → Nat), Inv n w gs d → gs.length ≤ k → gs ≠ [] →
    ∃ c g, Huff (gs.map (·.1)) c ∧ Inv n w [g] (go k gs m d) ∧ costOf n w (go k gs m d) = costOf n w d + c := by
  intro k
  induction k with
  | zero => intro gs m d _ hl h0; exact absurd (List.eq_nil_of_length_eq_zero (by omega)) h0
  | succ k ih =>
    intro gs m d hi hl h0
    match gs, hi, hl, h0 with
    | [g], hi, _, _ => exact ⟨0, g, .one g.1, hi, rfl⟩
    | a :: b :: r, hi, hl, _ =>
      have hlen : (ins (a.1 + b.1, m, a.2.2 ++ b.2.2) r).length = r.length + 1 := (ins_perm _ _).length_eq
      obtain ⟨c, g, h1, h2, h3⟩ := ih (ins (a.1 + b.1, m, a.2.2 ++ b.2.2) r) (m + 1) (bump d (a.2.2 ++ b.2.2)) (hi.step hn) (by simp at hl; omega) (by intro e; rw [e] at hlen; simp at hlen)
      obtain ⟨s1, s2⟩ := List.pairwise_cons.1 hi.sorted
      obtain ⟨s3, _⟩ := List.pairwise_cons.1 s2
      refine ⟨a.1 + b.1 + c, g, ?_, h2, ?_⟩
      · refine .two (R := r.map (·.1)) (List.Perm.refl _) (fun x hx => ?_) (fun x hx => ?_) (huff_perm h1 ((ins_perm _ _).map _))
        · obtain ⟨y, hy, rfl⟩ := List.mem_map.1 (show x ∈ (b :: r).map (·.1) from hx)
          have := s1 y hy
          unfold le at this; omega
        · obtain ⟨y, hy, rfl⟩ := List.mem_map.1 hx
          have := s3 y hy
          unfold le at this; omega
      · show costOf n w (go k _ _ _) = _
        rw [h3, hi.cost]; omega
theorem start_weights (w : Nat → Nat) : ∀ n, ((start w n).map (·.1)).Perm ((List.range n).map w) := by
  intro n
  induction n with
  | zero => exact List.Perm.refl _
  | succ n ih =>
    refine ((ins_perm _ _).map _).trans ?_
    rw [List.range_succ, List.map_append]
    show ([w n] ++ (start w n).map (·.1)).Perm _
    exact List.perm_append_comm.trans (List.Perm.append_right _ ih)
/-- what Huffman's lengths are -/
theorem lenF_spec {n : Nat} {w : Nat → Nat} (h1 : 1 ≤ n) (hn : n ≤ 40) :
    Huff ((List.range n).map w) (costOf n w (lenF n w)) ∧ sumOn (fun i => 2 ^ (40 - lenF n w i)) (List.range n) = 2 ^ 40 ∧ ∀ i, i < n → lenF n w i < n := by
  obtain ⟨c, g, h, hi, hc⟩ := go_spec hn n (start w n) n (fun _ => 0) (start_inv n w) (by rw [start_len]; exact Nat.le_refl _) (fun e => by have := start_len w n; rw [e] at this; simp at this; omega)
  have h0 : costOf n w (fun _ => 0) = 0 := by
    unfold costOf sumOn
    induction List.range n with
    | nil => rfl
    | cons x r ih => rw [List.map_cons, List.sum_cons, ih]; simp
  rw [h0, Nat.zero_add] at hc
  obtain ⟨g1, g2, g3⟩ := hi.grp g (by simp)
  have hp : g.2.2.Perm (List.range n) := by have := hi.part; simpa [leaves] using this
  refine ⟨?_, ?_, fun i hin => ?_⟩
  · show Huff _ (costOf n w (go n (start w n) n fun _ => 0))
    rw [hc]; exact huff_perm h (start_weights w n)
  · rw [← sumOn_perm hp]; exact g2
  · have := g3 i (hp.mem_iff.2 (List.mem_range.2 hin))
    have hl := hp.length_eq
    rw [List.length_range] at hl
    unfold lenF
    omega
theorem map_pair (n : Nat) (w l : Nat → Nat) : cost ((List.range n).map fun i => (w i, l i)) = costOf n w l := by
  simp [cost, costOf, sumOn, List.map_map, Function.comp_def]
/-- NO OTHERS COST LESS -/
theorem lenF_best {n : Nat} {w l : Nat → Nat} (h1 : 1 ≤ n) (hn : n ≤ 40) (hl : ∀ i, i < n → l i ≤ 40) (hk : sumOn (fun i => 2 ^ (40 - l i)) (List.range n) ≤ 2 ^ 40) : costOf n w (lenF n w) ≤ costOf n w l := by
  obtain ⟨h, _, _⟩ := lenF_spec (w := w) h1 hn
  rw [← map_pair n w l]
  refine huff_best 40 h _ (by simp [List.map_map, Function.comp_def]) (fun x hx => ?_) ?_
  · obtain ⟨i, hi, rfl⟩ := List.mem_map.1 hx
    exact hl i (List.mem_range.1 hi)
  · have : kraft 40 (((List.range n).map fun i => (w i, l i)).map (·.2)) = sumOn (fun i => 2 ^ (40 - l i)) (List.range n) := by
      simp [kraft, sumOn, List.map_map, Function.comp_def]
    rw [this]; exact hk
theorem range_two {n i j : Nat} (hi : i < n) (hj : j < n) (hne : i ≠ j) : ∃ r, (List.range n).Perm (i :: j :: r) := by
  have h1 := List.perm_cons_erase (List.mem_range.2 hi)
  have h2 : j ∈ (List.range n).erase i := by
    rw [List.Nodup.mem_erase_iff List.nodup_range]
    exact ⟨Ne.symm hne, List.mem_range.2 hj⟩
  exact ⟨_, h1.trans (List.Perm.cons _ (List.perm_cons_erase h2))⟩
/-- WHAT WEIGHS MORE IS NO LONGER -/
theorem lenF_mono {n : Nat} {w : Nat → Nat} (hn : n ≤ 40) {i j : Nat} (hi : i < n) (hj : j < n) (hw : w j < w i) : lenF n w i ≤ lenF n w j := by
  apply Classical.byContradiction
  intro hgt
  have hne : i ≠ j := fun e => by rw [e] at hw; omega
  obtain ⟨h, hk, hlt⟩ := lenF_spec (n := n) (w := w) (by omega) hn
  obtain ⟨r, hp⟩ := range_two hi hj hne
  have hnd := hp.nodup_iff.1 List.nodup_range
  have hir : ∀ k ∈ r, k ≠ i ∧ k ≠ j := by
    intro k hk
    simp only [List.nodup_cons, List.mem_cons, not_or] at hnd
    exact ⟨fun e => hnd.1.2 (e ▸ hk), fun e => hnd.2.1 (e ▸ hk)⟩
  generalize hx : lenF n w = x at *
  have hb := lenF_best (w := w) (l := fun k => if k = i then x j else if k = j then x i else x k) (by omega : 1 ≤ n) hn (fun k hkn => by
      split
      · have := hlt j hj; omega
      · split
        · have := hlt i hi; omega
        · have := hlt k hkn; omega)
    (by
      rw [← hk, sumOn_perm hp, sumOn_perm (f := fun i => 2 ^ (40 - x i)) hp]
      simp only [sumOn_cons]
      rw [if_neg (Ne.symm hne)]
      rw [sumOn_congr (f := fun k => 2 ^ (40 - if k = i then x j else if k = j then x i else x k)) (g := fun k => 2 ^ (40 - x k)) fun k hk => by rw [if_neg (hir k hk).1, if_neg (hir k hk).2]]
      simp only [if_true]
      omega)
  rw [hx] at hb
  unfold costOf at hb
  rw [sumOn_perm hp, sumOn_perm (f := fun k => w k * if k = i then x j else if k = j then x i else x k) hp] at hb
  simp only [sumOn_cons] at hb
  rw [if_neg (Ne.symm hne)] at hb
  rw [sumOn_congr (f := fun k => w k * if k = i then x j else if k = j then x i else x k) (g := fun k => w k * x k) fun k hk => by rw [if_neg (hir k hk).1, if_neg (hir k hk).2]] at hb
  simp only [if_true] at hb
  obtain ⟨u, hu⟩ : ∃ u, w i = w j + u + 1 := ⟨w i - w j - 1, by omega⟩
  obtain ⟨v, hv⟩ : ∃ v, x i = x j + v + 1 := ⟨x i - x j - 1, by omega⟩
  rw [hu, hv] at hb
  have e1 : (w j + u + 1) * (x j + v + 1) = w j * x j + w j * (v + 1) + (u + 1) * x j + (u + 1) * (v + 1) := by
    rw [show w j + u + 1 = w j + (u + 1) from by omega, show x j + v + 1 = x j + (v + 1) from by omega, Nat.add_mul, Nat.mul_add (w j), Nat.mul_add (u + 1)]; omega
  have e2 : (w j + u + 1) * x j = w j * x j + (u + 1) * x j := by rw [Nat.add_assoc, Nat.add_mul]
  have e3 : w j * (x j + v + 1) = w j * x j + w j * (v + 1) := by rw [Nat.add_assoc, Nat.mul_add]
  rw [e1, e2, e3] at hb
  have e4 : 1 ≤ (u + 1) * (v + 1) := Nat.mul_pos (by omega) (by omega)
  omega
/-- the cost goes by the weights, whatever their order -/
theorem lenF_order {n : Nat} {w v : Nat → Nat} (h1 : 1 ≤ n) (hn : n ≤ 40) (hp : ((List.range n).map w).Perm ((List.range n).map v)) : costOf n w (lenF n w) = costOf n v (lenF n v) := by
  have key : ∀ w v : Nat → Nat, ((List.range n).map w).Perm ((List.range n).map v) → costOf n w (lenF n w) ≤ costOf n v (lenF n v) := by
    intro w v hp
    obtain ⟨h, _, _⟩ := lenF_spec (w := w) h1 hn
    obtain ⟨_, hk, hl⟩ := lenF_spec (w := v) h1 hn
    rw [← map_pair n v (lenF n v)]
    refine huff_best 40 h _ (by simpa [List.map_map, Function.comp_def] using hp.symm) (fun x hx => ?_) ?_
    · obtain ⟨i, hi, rfl⟩ := List.mem_map.1 hx
      have := hl i (List.mem_range.1 hi)
      simp only; omega
    · have : kraft 40 (((List.range n).map fun i => (v i, lenF n v i)).map (·.2)) = sumOn (fun i => 2 ^ (40 - lenF n v i)) (List.range n) := by
        simp [kraft, sumOn, List.map_map, Function.comp_def]
      rw [this, hk]; exact Nat.le_refl _
  exact Nat.le_antisymm (key w v hp) (key v w hp.symm)
/-- ONE MORE COSTS NO LESS -/
theorem lenF_more {n : Nat} {w v : Nat → Nat} (h1 : 1 ≤ n) (hn : n < 40) (hw : ∀ i, i < n → v i = w i) : costOf n w (lenF n w) ≤ costOf (n + 1) v (lenF (n + 1) v) := by
  obtain ⟨_, hk, hl⟩ := lenF_spec (w := v) (n := n + 1) (by omega) (by omega)
  rw [List.range_succ, sumOn_append] at hk
  have hb := lenF_best (w := w) (l := lenF (n + 1) v) h1 (by omega) (fun i hi => by have := hl i (by omega); omega) (by omega)
  have e : costOf (n + 1) v (lenF (n + 1) v) = costOf n w (lenF (n + 1) v) + sumOn (fun i => v i * lenF (n + 1) v i) [n] := by
    unfold costOf
    rw [List.range_succ, sumOn_append]
    congr 1
    exact sumOn_congr fun i hi => by rw [hw i (List.mem_range.1 hi)]
  omega
end Rk.Hf
