/- Plain law: sorted rows merged by a heap of their heads: what came is sorted, and it is all there. -/
import Derived.Test.YtifkfbcckkakgaaDoorHeadA
import Derived.Test.YtifkfbcckkakgaaDoorRuns1
namespace Rk
open Go Go.RowKit Go.Proofs
def toH (rf : Nat → List Int) (r a : Nat) : El_head := (lf (rf r) a, (r : Int), (a : Int))
def tlH (rf : Nat → List Int) (x : El_head) : List Int := (rf x.2.1.toNat).drop x.2.2.toNat
theorem tlH_toH (rf : Nat → List Int) (r a : Nat) : tlH rf (toH rf r a) = (rf r).drop a := by simp [tlH, toH]
theorem drop_lf {l : List Int} {a : Nat} (h : a < l.length) : l.drop a = lf l a :: l.drop (a + 1) := by
  rw [lf_get h]; exact List.drop_eq_getElem_cons h
theorem flat_succ (rf : Nat → List Int) (i : Nat) : (segL rf (i + 1)).flatten = (segL rf i).flatten ++ rf i := by
  rw [segL_succ, List.flatten_append]; simp
theorem flat_mono (rf : Nat → List Int) {i n : Nat} (h : i ≤ n) : (segL rf i).flatten.length ≤ (segL rf n).flatten.length := by
  induction n with
  | zero => obtain rfl : i = 0 := by omega
            exact Nat.le_refl _
  | succ n ih =>
    rcases Nat.lt_or_eq_of_le h with h1 | rfl
    · have := ih (by omega)
      rw [flat_succ, List.length_append]; omega
    · exact Nat.le_refl _
structure MInv (rf : Nat → List Int) (n : Nat) (out : List Int) (l : List El_head) (flat : List Int) : Prop where
  srt : out.Pairwise (· ≤ ·)
  le : ∀ a ∈ out, ∀ x ∈ l, a ≤ x.1
  hd : ∀ x ∈ l, ∃ r a, r < n ∧ a < (rf r).length ∧ x = toH rf r a
  perm : (out ++ l.flatMap (tlH rf)).Perm flat
theorem len_flatMap {α β : Type} (f : α → List β) : ∀ l : List α, (∀ x ∈ l, 0 < (f x).length) → l.length ≤ (l.flatMap f).length := by
  intro l
  induction l with
  | nil => intro _; exact Nat.zero_le _
  | cons a l ih =>
    intro h
    have h1 := h a (by simp)
    have h2 := ih fun x hx => h x (by simp [hx])
    rw [List.flatMap_cons, List.length_append, List.length_cons]; omega
section
variable {rf : Nat → List Int} {n : Nat} {out : List Int} {l l' : List El_head} {flat : List Int}
theorem MInv.nil : MInv rf n [] [] [] := ⟨List.Pairwise.nil, fun a h => (by cases h), fun a h => (by cases h), List.Perm.refl _⟩
theorem MInv.len (h : MInv rf n out l flat) : out.length + l.length ≤ flat.length := by
  have h1 := h.perm.length_eq
  rw [List.length_append] at h1
  have h2 := len_flatMap (tlH rf) l fun x hx => by
    obtain ⟨r, a, _, ha, rfl⟩ := h.hd x hx
    rw [tlH_toH, List.length_drop]; omega
  omega
theorem MInv.put {i : Nat} (h : MInv rf n [] l flat) (hi : i < n) (h0 : 0 < (rf i).length) (hp : l'.Perm (toH rf i 0 :: l)) : MInv rf n [] l' (flat ++ rf i) := by
  refine ⟨List.Pairwise.nil, fun a ha => (by cases ha), fun x hx => ?_, ?_⟩
  · rcases List.mem_cons.1 (hp.mem_iff.1 hx) with rfl | hx
    · exact ⟨i, 0, hi, h0, rfl⟩
    · exact h.hd x hx
  · have h1 := hp.flatMap_right (tlH rf)
    have h2 := h.perm
    rw [List.nil_append] at h2 ⊢
    rw [List.flatMap_cons, tlH_toH, List.drop_zero] at h1
    exact h1.trans (List.perm_append_comm.trans (h2.append_right _))
theorem MInv.skip {i : Nat} (h : MInv rf n [] l flat) (h0 : (rf i).length = 0) : MInv rf n [] l (flat ++ rf i) := by
  rw [List.eq_nil_of_length_eq_zero h0, List.append_nil]; exact h
theorem MInv.pop {x : El_head} (h : MInv rf n out l flat) (hs : ∀ r, r < n → (rf r).Pairwise (· ≤ ·)) (hok : ∀ x ∈ l, okE_head x) (hp : l.Perm (x :: l')) (hle : ∀ y ∈ l', G.Key.key x ≤ G.Key.key y) :
    ∃ r a, r < n ∧ a < (rf r).length ∧ x = toH rf r a ∧ (a + 1 < (rf r).length → ∀ l'', l''.Perm (toH rf r (a + 1) :: l') → MInv rf n (out ++ [lf (rf r) a]) l'' flat) ∧ ((rf r).length ≤ a + 1 → MInv rf n (out ++ [lf (rf r) a]) l' flat) := by
  have hxl : x ∈ l := hp.mem_iff.2 (by simp)
  obtain ⟨r, a, hr, ha, rfl⟩ := h.hd x hxl
  have hx1 : (toH rf r a).1 = lf (rf r) a := rfl
  have hmem : ∀ y ∈ l', y ∈ l := fun y hy => hp.mem_iff.2 (by simp [hy])
  have hlow : ∀ y ∈ l', lf (rf r) a ≤ y.1 := fun y hy => by
    have h1 := hle y hy
    have h2 := hok _ hxl
    have h3 := hok _ (hmem y hy)
    simp only [G.Key.key, okE_head] at h1 h2 h3
    rw [← hx1]; omega
  have hsrt : (out ++ [lf (rf r) a]).Pairwise (· ≤ ·) := List.pairwise_append.2 ⟨h.srt, List.pairwise_singleton _ _, fun b hb c hc => by
    obtain rfl := List.mem_singleton.1 hc
    exact h.le b hb _ hxl⟩
  have hle2 : ∀ b ∈ out ++ [lf (rf r) a], ∀ y ∈ l', b ≤ y.1 := fun b hb y hy => by
    rcases List.mem_append.1 hb with hb | hb
    · exact h.le b hb y (hmem y hy)
    · obtain rfl := List.mem_singleton.1 hb; exact hlow y hy
  have hperm : ((out ++ [lf (rf r) a]) ++ ((rf r).drop (a + 1) ++ l'.flatMap (tlH rf))).Perm flat := by
    have h1 := (hp.flatMap_right (tlH rf)).append_left out
    rw [List.flatMap_cons, tlH_toH, drop_lf ha] at h1
    refine List.Perm.trans ?_ (h1.symm.trans h.perm)
    simp
  refine ⟨r, a, hr, ha, rfl, fun h1 l'' hl => ⟨hsrt, fun b hb y hy => ?_, fun y hy => ?_, ?_⟩, fun h1 => ⟨hsrt, hle2, fun y hy => h.hd y (hmem y hy), ?_⟩⟩
  · rcases List.mem_cons.1 (hl.mem_iff.1 hy) with rfl | hy
    · have h3 : lf (rf r) a ≤ lf (rf r) (a + 1) := by
        rw [lf_get ha, lf_get h1]
        exact List.pairwise_iff_getElem.1 (hs r hr) a (a + 1) ha h1 (by omega)
      rcases List.mem_append.1 hb with hb | hb
      · exact Int.le_trans (h.le b hb _ hxl) h3
      · obtain rfl := List.mem_singleton.1 hb; exact h3
    · exact hle2 b hb y hy
  · rcases List.mem_cons.1 (hl.mem_iff.1 hy) with rfl | hy
    · exact ⟨r, a + 1, hr, h1, rfl⟩
    · exact h.hd y (hmem y hy)
  · have h2 := (hl.flatMap_right (tlH rf)).append_left (out ++ [lf (rf r) a])
    rw [List.flatMap_cons, tlH_toH] at h2
    exact h2.trans hperm
  · rw [List.drop_eq_nil_of_le h1, List.nil_append] at hperm; exact hperm
theorem MInv.done (h : MInv rf n out [] flat) : out.Perm flat := by
  have := h.perm
  rwa [List.flatMap_nil, List.append_nil] at this
end
theorem srt_adj {r : List Int} (h : ∀ k, k + 1 < r.length → lf r k ≤ lf r (k + 1)) : r.Pairwise (· ≤ ·) := by
  rw [List.pairwise_iff_getElem]
  intro i j hi hj hij
  have : ∀ d, i + d < r.length → lf r i ≤ lf r (i + d) := by
    intro d
    induction d with
    | zero => intro _; exact Int.le_refl _
    | succ d ih => intro hd; exact Int.le_trans (ih (by omega)) (h (i + d) hd)
  have h2 := this (j - i) (by omega)
  rw [show i + (j - i) = j from by omega, lf_get hi, lf_get hj] at h2
  exact h2
theorem segA_all {α : Type} {f : Nat → α} {n : Nat} {p : α → Bool} : (segL f n).all p = true ↔ ∀ i, i < n → p (f i) = true := by
  simp only [segL, List.all_map, List.all_eq_true, List.mem_range, Function.comp]
def rowSorted (r : List Int) : Bool := decide (r.Pairwise (· ≤ ·))
/-- what is wrong with rows that are to be merged -/
def mErr (n : Nat) (rf : Nat → List Int) : Nat := if 60 < (segL rf n).flatten.length then 4 else if (segL rf n).flatten.all inK then (if (segL rf n).all rowSorted then 0 else 3) else 1
theorem mErr_long {n i : Nat} {rf : Nat → List Int} (hi : i < n) (h : 60 < (segL rf i).flatten.length + (rf i).length) : mErr n rf = 4 := by
  refine if_pos ?_
  have := flat_mono rf (show i + 1 ≤ n from hi)
  rw [flat_succ, List.length_append] at this
  omega
theorem mErr_num {n : Nat} {rf : Nat → List Int} (h : (segL rf n).flatten.length ≤ 60) (hk : ¬ (segL rf n).flatten.all inK = true) : mErr n rf = 1 := by
  unfold mErr; rw [if_neg (by omega), if_neg hk]
theorem mErr_shape {n i : Nat} {rf : Nat → List Int} (h : (segL rf n).flatten.length ≤ 60) (hk : (segL rf n).flatten.all inK = true) (hi : i < n) (hs : ¬ (rf i).Pairwise (· ≤ ·)) : mErr n rf = 3 := by
  unfold mErr; rw [if_neg (by omega), if_pos hk, if_neg (show ¬ (segL rf n).all rowSorted = true from fun hh => hs (of_decide_eq_true (segA_all.1 hh i hi)))]
theorem mErr_ok {n : Nat} {rf : Nat → List Int} (h : (segL rf n).flatten.length ≤ 60) (hk : (segL rf n).flatten.all inK = true) (hs : ∀ i, i < n → (rf i).Pairwise (· ≤ ·)) : mErr n rf = 0 := by
  unfold mErr; rw [if_neg (by omega), if_pos hk, if_pos (show (segL rf n).all rowSorted = true from segA_all.2 fun i hi => decide_eq_true (hs i hi))]
theorem numErr_list (l : List Int) : numErr l.length (lf l) = if 60 < l.length then 4 else if l.all inK then 0 else 1 := by
  unfold numErr; rw [segL_lf]
end Rk
