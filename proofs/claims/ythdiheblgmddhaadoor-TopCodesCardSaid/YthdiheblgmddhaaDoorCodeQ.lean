/- Plain law: a trie of codes, none of which begins another one; what a text means. No program in sight. -/
import Derived.Test.YthdiheblgmddhaaDoorCodeP
namespace Rk.Tri
/-- one edge of a node -/
def get (T : List (Int × Int)) (a k : Nat) : Int := if k = 0 then (T.getD a (0, 0)).1 else (T.getD a (0, 0)).2
def put1 (x : Int × Int) (k : Nat) (v : Int) : Int × Int := if k = 0 then (v, x.2) else (x.1, v)
def put (T : List (Int × Int)) (a k : Nat) (v : Int) : List (Int × Int) := T.set a (put1 (T.getD a (0, 0)) k v)
theorem put_len (T : List (Int × Int)) (a k : Nat) (v : Int) : (put T a k v).length = T.length := by simp [put]
theorem get_put {T : List (Int × Int)} {a k : Nat} {v : Int} (ha : a < T.length) (b j : Nat) (hk : k < 2) (hj : j < 2) : get (put T a k v) b j = if b = a ∧ j = k then v else get T b j := by
  unfold get put
  by_cases hb : b = a
  · subst hb
    have e : (T.set b (put1 (T.getD b (0, 0)) k v)).getD b (0, 0) = put1 (T.getD b (0, 0)) k v := by simp [List.getD, ha]
    rw [e]
    unfold put1
    rcases (show k = 0 ∨ k = 1 by omega) with rfl | rfl <;> rcases (show j = 0 ∨ j = 1 by omega) with rfl | rfl <;> simp
  · have e : (T.set a (put1 (T.getD a (0, 0)) k v)).getD b (0, 0) = T.getD b (0, 0) := by simp [List.getD, List.getElem?_set, show ¬ a = b from fun h => hb h.symm]
    rw [e, if_neg (show ¬ (b = a ∧ j = k) from fun h => hb h.1)]
theorem get_snoc {T : List (Int × Int)} {a k : Nat} : get (T ++ [(0, 0)]) a k = get T a k := by
  unfold get
  have e : (T ++ [((0 : Int), (0 : Int))]).getD a (0, 0) = T.getD a (0, 0) := by
    rcases Nat.lt_or_ge a T.length with h | h
    · simp [List.getD, List.getElem?_append_left h]
    · simp only [List.getD, List.getElem?_append_right h, List.getElem?_eq_none h]
      rcases Nat.eq_zero_or_pos (a - T.length) with h0 | h0
      · simp [h0]
      · rw [List.getElem?_eq_none (by simp only [List.length_singleton]; omega)]
  rw [e]
variable {C : Nat → List Nat} {n : Nat}
/-- no code begins another one -/
def Free (C : Nat → List Nat) (n : Nat) : Prop := ∀ s t, s < n → t < n → s ≠ t → C s ≠ [] → ¬ C s <+: C t
def Bits (C : Nat → List Nat) (n : Nat) : Prop := ∀ s, s < n → ∀ b ∈ C s, b = 48 ∨ b = 49
/-- a trie of the codes of the symbols below m, and of the first i bits of the code of m; node a stands for the bits P a -/
structure Trie (C : Nat → List Nat) (n : Nat) (T : List (Int × Int)) (P : Nat → List Nat) (m i : Nat) : Prop where
  pos : 0 < T.length
  root : P 0 = []
  inj : ∀ a b, a < T.length → b < T.length → P a = P b → a = b
  edge : ∀ a k, a < T.length → k < 2 → (get T a k = 0 ∧ ∀ s, s < m → ¬ (P a ++ [48 + k]) <+: C s) ∨ (∃ s, s < m ∧ get T a k = -1 - (s : Int) ∧ C s = P a ++ [48 + k]) ∨
    (∃ b : Nat, 0 < b ∧ b < T.length ∧ get T a k = (b : Int) ∧ P b = P a ++ [48 + k])
  proper : ∀ a, a < T.length → 0 < a → ∃ s, s < n ∧ P a <+: C s ∧ P a ≠ C s
  reach : ∀ b, 0 < b → b < T.length → ∃ a k, a < T.length ∧ k < 2 ∧ get T a k = (b : Int) ∧ P b = P a ++ [48 + k]
  path : ∀ j, j < i → ∀ a k, a < T.length → k < 2 → P a = (C m).take j → (C m)[j]? = some (48 + k) → get T a k ≠ 0
theorem trie_nil : Trie C n [(0, 0)] (fun _ => []) 0 0 := by
  refine ⟨by simp, rfl, fun a b ha hb _ => by simp at ha hb; omega, fun a k ha hk => .inl ⟨?_, fun s hs => by omega⟩, fun a ha h0 => by simp at ha; omega, fun b h0 hb => by simp at hb; omega, fun j hj => by omega⟩
  simp at ha; subst ha
  unfold get; rcases (show k = 0 ∨ k = 1 by omega) with rfl | rfl <;> rfl
variable {T : List (Int × Int)} {P : Nat → List Nat} {m i at' : Nat}
/-- an empty code is passed over -/
theorem Trie.skip (h : Trie C n T P m 0) (hm : C m = []) : Trie C n T P (m + 1) 0 := by
  refine ⟨h.pos, h.root, h.inj, fun a k ha hk => ?_, h.proper, h.reach, fun j hj => by omega⟩
  rcases h.edge a k ha hk with ⟨h1, h2⟩ | ⟨s, h1, h2⟩ | h2
  · refine .inl ⟨h1, fun s hs hp => ?_⟩
    rcases Nat.lt_or_ge s m with hl | hl
    · exact h2 s hl hp
    · obtain rfl : s = m := by omega
      rw [hm] at hp
      have := hp.length_le
      simp at this
  · exact .inr (.inl ⟨s, by omega, h2⟩)
  · exact .inr (.inr h2)
theorem pre_take {c : List Nat} {i k : Nat} (h : c[i]? = some k) : c.take i ++ [k] = c.take (i + 1) := by
  obtain ⟨hi, e⟩ := List.getElem?_eq_some_iff.1 h
  rw [List.take_succ_eq_append_getElem hi, e]
/-- one bit on: the node is there already -/
theorem Trie.step (h : Trie C n T P m i) (hn : m < n) (hf : Free C n) {k : Nat} (hat : at' < T.length) (hP : P at' = (C m).take i) (hk : k < 2) (hc : (C m)[i]? = some (48 + k)) (hi : i + 1 < (C m).length) (hne : get T at' k ≠ 0) :
    ∃ b : Nat, b < T.length ∧ get T at' k = (b : Int) ∧ P b = (C m).take (i + 1) ∧ Trie C n T P m (i + 1) := by
  rcases h.edge at' k hat hk with ⟨h1, _⟩ | ⟨s, h1, h2, h3⟩ | ⟨b, h0, hb, h2, h3⟩
  · exact absurd h1 hne
  · exfalso
    rw [hP, pre_take hc] at h3
    refine hf s m (by omega) hn (by omega) (fun e => ?_) (h3 ▸ List.take_prefix _ _)
    rw [h3] at e
    have := congrArg List.length e
    rw [List.length_take] at this
    simp only [List.length_nil] at this
    omega
  · refine ⟨b, hb, h2, by rw [h3, hP, pre_take hc], h.pos, h.root, h.inj, h.edge, h.proper, h.reach, fun j hj a k' ha hk' hPa hcj => ?_⟩
    rcases Nat.lt_or_ge j i with hji | hji
    · exact h.path j hji a k' ha hk' hPa hcj
    · obtain rfl : j = i := by omega
      obtain rfl : a = at' := h.inj a at' ha hat (by rw [hPa, hP])
      rw [hc] at hcj
      have : k' = k := by have := Option.some.inj hcj; omega
      subst this
      exact hne
/-- one bit on: a new node -/
theorem Trie.grow (h : Trie C n T P m i) (hn : m < n) {k : Nat} (hat : at' < T.length) (hP : P at' = (C m).take i) (hk : k < 2) (hc : (C m)[i]? = some (48 + k)) (hi : i + 1 < (C m).length) (he : get T at' k = 0) :
    Trie C n (put (T ++ [(0, 0)]) at' k (T.length : Int)) (fun a => if a = T.length then (C m).take (i + 1) else P a) m (i + 1) := by
  have hlen : (put (T ++ [(0, 0)]) at' k (T.length : Int)).length = T.length + 1 := by rw [put_len]; simp
  have hg : ∀ a j, j < 2 → get (put (T ++ [(0, 0)]) at' k (T.length : Int)) a j = if a = at' ∧ j = k then (T.length : Int) else get T a j := fun a j hj => by
    rw [get_put (by simp; omega) a j hk hj, get_snoc]
  have hnew : ∀ j, get T T.length j = 0 := fun j => by
    unfold get
    have e : T.getD T.length (0, 0) = (0, 0) := by simp [List.getD]
    rw [e]; split <;> rfl
  have hp : P at' ++ [48 + k] = (C m).take (i + 1) := by rw [hP, pre_take hc]
  have hnot : ∀ a, a < T.length → P a ≠ (C m).take (i + 1) := fun a ha e => by
    have hne : (C m).take (i + 1) ≠ [] := fun e => by have := congrArg List.length e; rw [List.length_take] at this; simp only [List.length_nil] at this; omega
    have h0 : 0 < a := by
      rcases Nat.eq_zero_or_pos a with h0 | h0
      · subst h0; rw [h.root] at e; exact absurd e.symm hne
      · exact h0
    obtain ⟨b, j, hb, hj, h1, h2⟩ := h.reach a h0 ha
    rw [e, ← hp] at h2
    have h3 := List.append_inj' h2 rfl
    obtain rfl : at' = b := h.inj _ _ hat hb h3.1
    have : k = j := by have := h3.2; simp at this; exact this
    subst this
    rw [he] at h1; omega
  refine ⟨by omega, ?_, fun a b ha hb hab => ?_, fun a j ha hj => ?_, fun a ha h0 => ?_, fun b h0 hb => ?_, fun j hj a k' ha hk' hPa hcj => ?_⟩
  · rw [if_neg (by have := h.pos; omega)]; exact h.root
  · rw [hlen] at ha hb
    by_cases ea : a = T.length <;> by_cases eb : b = T.length
    · omega
    · rw [if_pos ea, if_neg eb] at hab; exact absurd hab.symm (hnot b (by omega))
    · rw [if_neg ea, if_pos eb] at hab; exact absurd hab (hnot a (by omega))
    · rw [if_neg ea, if_neg eb] at hab; exact h.inj a b (by omega) (by omega) hab
  · rw [hlen] at ha
    rw [hg a j hj, hlen]
    by_cases ea : a = T.length
    · subst ea
      rw [if_neg (by omega), hnew, if_pos rfl]
      refine .inl ⟨rfl, fun s hs hpre => ?_⟩
      rcases h.edge at' k hat hk with ⟨_, h2⟩ | ⟨s', _, h2, _⟩ | ⟨b, h0, _, h2, _⟩
      · refine h2 s hs ?_
        rw [hp]
        exact (List.prefix_append _ _).trans hpre
      · rw [he] at h2; omega
      · rw [he] at h2; omega
    · simp only [if_neg ea]
      by_cases e : a = at' ∧ j = k
      · obtain ⟨rfl, rfl⟩ := e
        rw [if_pos ⟨rfl, rfl⟩]
        exact .inr (.inr ⟨T.length, h.pos, by omega, rfl, by rw [if_pos rfl]; exact hp.symm⟩)
      · rw [if_neg e]
        rcases h.edge a j (by omega) hj with h1 | h1 | ⟨b, h0, hb, h2, h3⟩
        · exact .inl h1
        · exact .inr (.inl h1)
        · exact .inr (.inr ⟨b, h0, by omega, h2, by rw [if_neg (by omega)]; exact h3⟩)
  · rw [hlen] at ha
    by_cases ea : a = T.length
    · simp only [if_pos ea]
      refine ⟨m, hn, List.take_prefix _ _, fun e => ?_⟩
      have := congrArg List.length e
      simp at this; omega
    · simp only [if_neg ea]
      exact h.proper a (by omega) h0
  · rw [hlen] at hb
    by_cases eb : b = T.length
    · subst eb
      refine ⟨at', k, by omega, hk, by rw [hg at' k hk, if_pos ⟨rfl, rfl⟩], ?_⟩
      simp only [if_true]
      rw [if_neg (by omega)]; exact hp.symm
    · obtain ⟨a, j, ha, hj, h1, h2⟩ := h.reach b h0 (by omega)
      refine ⟨a, j, by omega, hj, ?_, ?_⟩
      · rw [hg a j hj, if_neg]
        · exact h1
        · rintro ⟨rfl, rfl⟩
          rw [he] at h1; omega
      · simp only [if_neg eb]
        rw [if_neg (by omega)]; exact h2
  · rw [hlen] at ha
    rw [hg a k' hk']
    split
    · have := h.pos; omega
    · rename_i hne
      by_cases ea : a = T.length
      · subst ea
        simp only [if_true] at hPa
        have h1 := congrArg List.length hPa
        simp at h1
        have : j < (C m).length := (List.getElem?_eq_some_iff.1 hcj).1
        omega
      · simp only [if_neg ea] at hPa
        rcases Nat.lt_or_ge j i with hji | hji
        · exact h.path j hji a k' (by omega) hk' hPa hcj
        · obtain rfl : j = i := by omega
          obtain rfl : a = at' := h.inj a at' (by omega) hat (by rw [hPa, hP])
          rw [hc] at hcj
          have : k' = k := by have := Option.some.inj hcj; omega
          exact absurd ⟨rfl, this⟩ hne
/-- the last bit: the symbol -/
theorem Trie.last (h : Trie C n T P m i) (hn : m < n) (hf : Free C n) {k : Nat} (hat : at' < T.length) (hP : P at' = (C m).take i) (hk : k < 2) (hc : (C m)[i]? = some (48 + k)) (hi : i + 1 = (C m).length) :
    Trie C n (put T at' k (-1 - (m : Int))) P (m + 1) 0 := by
  have hg : ∀ a j, j < 2 → get (put T at' k (-1 - (m : Int))) a j = if a = at' ∧ j = k then -1 - (m : Int) else get T a j := fun a j hj => get_put hat a j hk hj
  have hp : P at' ++ [48 + k] = C m := by rw [hP, pre_take hc, hi, List.take_length]
  have hne : C m ≠ [] := fun e => by rw [e] at hi; simp at hi
  have hnn : ∀ b : Nat, 0 < b → b < T.length → get T at' k ≠ (b : Int) := fun b h0 hb e => by
    rcases h.edge at' k hat hk with ⟨h1, _⟩ | ⟨s, _, h2, _⟩ | ⟨b', h0', hb', h2, h3⟩
    · omega
    · omega
    · obtain rfl : b = b' := by omega
      rw [hp] at h3
      obtain ⟨s, hs, h4, h5⟩ := h.proper b hb h0
      rw [h3] at h4 h5
      by_cases es : s = m
      · subst es; exact h5 rfl
      · exact hf m s hn hs (fun e => es e.symm) hne h4
  refine ⟨by rw [put_len]; exact h.pos, h.root, by rw [put_len]; exact h.inj, fun a j ha hj => ?_, by rw [put_len]; exact h.proper, fun b h0 hb => ?_, fun j hj => by omega⟩
  · rw [put_len] at ha ⊢
    rw [hg a j hj]
    by_cases e : a = at' ∧ j = k
    · obtain ⟨rfl, rfl⟩ := e
      rw [if_pos ⟨rfl, rfl⟩]
      exact .inr (.inl ⟨m, by omega, rfl, hp.symm⟩)
    · rw [if_neg e]
      rcases h.edge a j ha hj with ⟨h1, h2⟩ | ⟨s, h1, h2⟩ | h2
      · refine .inl ⟨h1, fun s hs hpre => ?_⟩
        rcases Nat.lt_or_ge s m with hl | hl
        · exact h2 s hl hpre
        · obtain rfl : s = m := by omega
          have hle := hpre.length_le
          simp at hle
          have hPa : P a = (C s).take (P a).length := List.prefix_iff_eq_take.1 ((List.prefix_append _ _).trans hpre)
          have hcj : (C s)[(P a).length]? = some (48 + j) := by
            obtain ⟨r, hr⟩ := hpre
            rw [← hr]; simp
          rcases Nat.lt_or_ge (P a).length i with hji | hji
          · exact h.path _ hji a j ha hj hPa hcj h1
          · have el : (P a).length = i := by omega
            rw [el] at hPa hcj
            refine e ⟨h.inj a at' ha hat (by rw [hPa, hP]), ?_⟩
            rw [hc] at hcj
            have := Option.some.inj hcj; omega
      · exact .inr (.inl ⟨s, by omega, h2⟩)
      · exact .inr (.inr h2)
  · rw [put_len] at hb
    obtain ⟨a, j, ha, hj, h1, h2⟩ := h.reach b h0 hb
    refine ⟨a, j, by rw [put_len]; exact ha, hj, ?_, h2⟩
    rw [hg a j hj, if_neg]
    · exact h1
    · rintro ⟨rfl, rfl⟩
      exact hnn b h0 hb h1

/-- the first symbol whose code begins a text -/
def first (C : Nat → List Nat) (n : Nat) (t : List Nat) : Option Nat := (List.range n).find? fun s => decide (C s ≠ []) && (C s).isPrefixOf t
def decF (C : Nat → List Nat) (n : Nat) : Nat → List Nat → Option (List Nat)
  | _, [] => some []
  | 0, _ :: _ => none
  | f + 1, a :: t => (first C n (a :: t)).bind fun s => (decF C n f ((a :: t).drop (C s).length)).map (s :: ·)
/-- the symbols of a text -/
def dec (C : Nat → List Nat) (n : Nat) (t : List Nat) : Option (List Nat) := decF C n t.length t
theorem first_some {t : List Nat} {s : Nat} (h : first C n t = some s) : s < n ∧ C s ≠ [] ∧ C s <+: t := by
  have h1 := List.find?_some h
  have h2 := List.mem_of_find?_eq_some h
  simp only [Bool.and_eq_true, decide_eq_true_eq, List.isPrefixOf_iff_prefix] at h1
  exact ⟨List.mem_range.1 h2, h1⟩
theorem first_none {t : List Nat} : first C n t = none ↔ ∀ s, s < n → C s ≠ [] → ¬ C s <+: t := by
  unfold first
  rw [List.find?_eq_none]
  constructor
  · intro h s hs hne hp
    exact h s (List.mem_range.2 hs) (by simp only [Bool.and_eq_true, decide_eq_true_eq, List.isPrefixOf_iff_prefix]; exact ⟨hne, hp⟩)
  · intro h s hs h2
    simp only [Bool.and_eq_true, decide_eq_true_eq, List.isPrefixOf_iff_prefix] at h2
    exact h s (List.mem_range.1 hs) h2.1 h2.2
theorem decF_nil (f : Nat) : decF C n f [] = some [] := by cases f <;> rfl
theorem decF_two : ∀ (L : Nat) (t : List Nat) (f g : Nat), t.length ≤ L → t.length ≤ f → t.length ≤ g → decF C n f t = decF C n g t := by
  intro L
  induction L with
  | zero => intro t f g h _ _; rw [List.eq_nil_of_length_eq_zero (by omega : t.length = 0), decF_nil, decF_nil]
  | succ L ih =>
    intro t f g h1 h2 h3
    match t, f, g with
    | [], f, g => rw [decF_nil, decF_nil]
    | a :: t, 0, _ => simp at h2
    | a :: t, _, 0 => simp at h3
    | a :: t, f + 1, g + 1 =>
      unfold decF
      cases hf : first C n (a :: t) with
      | none => rfl
      | some s =>
        have hs := first_some hf
        have hl : 0 < (C s).length := List.length_pos_iff.2 hs.2.1
        simp only [Option.bind_some]
        simp only [List.length_cons] at h1 h2 h3
        rw [ih ((a :: t).drop (C s).length) f g (by simp; omega) (by simp; omega) (by simp; omega)]
theorem dec_nil : dec C n [] = some [] := rfl
theorem dec_step {t : List Nat} {s : Nat} (h : first C n t = some s) : dec C n t = (dec C n (t.drop (C s).length)).map (s :: ·) := by
  have hs := first_some h
  have hl : 0 < (C s).length := List.length_pos_iff.2 hs.2.1
  match t with
  | [] => exact absurd (List.prefix_nil.1 hs.2.2) hs.2.1
  | a :: t =>
    show decF C n (t.length + 1) (a :: t) = _
    unfold decF
    rw [h]
    simp only [Option.bind_some]
    rw [decF_two t.length ((a :: t).drop (C s).length) t.length ((a :: t).drop (C s).length).length (by simp; omega) (by simp; omega) (Nat.le_refl _)]
    rfl
theorem dec_none {t : List Nat} (h : t ≠ []) (h2 : ∀ s, s < n → C s ≠ [] → ¬ C s <+: t) : dec C n t = none := by
  match t with
  | [] => exact absurd rfl h
  | a :: t =>
    show decF C n (t.length + 1) (a :: t) = _
    unfold decF
    rw [first_none.2 h2]; rfl
theorem dec_code (hf : Free C n) {s : Nat} (hs : s < n) (hne : C s ≠ []) (t : List Nat) : dec C n (C s ++ t) = (dec C n t).map (s :: ·) := by
  have h : first C n (C s ++ t) = some s := by
    cases h : first C n (C s ++ t) with
    | none => exact absurd (List.prefix_append _ _) (first_none.1 h s hs hne)
    | some r =>
      obtain ⟨h1, h2, h3⟩ := first_some h
      by_cases e : r = s
      · rw [e]
      · exfalso
        rcases Nat.le_total (C r).length (C s).length with hl | hl
        · exact hf r s h1 hs e h2 (List.prefix_of_prefix_length_le h3 (List.prefix_append _ _) hl)
        · exact hf s r hs h1 (fun h => e h.symm) hne (List.prefix_of_prefix_length_le (List.prefix_append _ _) h3 hl)
  rw [dec_step h, List.drop_left]
theorem dec_some : ∀ (L : Nat) {t a : List Nat}, t.length ≤ L → dec C n t = some a → t = a.flatMap C ∧ ∀ x ∈ a, x < n ∧ C x ≠ [] := by
  intro L
  induction L with
  | zero => intro t a h h2; rw [List.eq_nil_of_length_eq_zero (by omega : t.length = 0)] at h2 ⊢; rw [dec_nil] at h2; obtain rfl := Option.some.inj h2; simp
  | succ L ih =>
    intro t a h h2
    match t with
    | [] => rw [dec_nil] at h2; obtain rfl := Option.some.inj h2; simp
    | b :: t =>
      cases hf : first C n (b :: t) with
      | none => rw [dec_none (by simp) (first_none.1 hf)] at h2; cases h2
      | some s =>
        rw [dec_step hf] at h2
        have hs := first_some hf
        have hl : 0 < (C s).length := List.length_pos_iff.2 hs.2.1
        cases hd : dec C n ((b :: t).drop (C s).length) with
        | none => rw [hd] at h2; cases h2
        | some r =>
          rw [hd] at h2
          obtain rfl := Option.some.inj h2
          simp only [List.length_cons] at h
          obtain ⟨h3, h4⟩ := ih (by simp; omega) hd
          obtain ⟨u, hu⟩ := hs.2.2
          rw [← hu, List.drop_left] at h3
          refine ⟨by rw [List.flatMap_cons, ← h3, hu], fun x hx => ?_⟩
          rcases List.mem_cons.1 hx with rfl | hx
          · exact ⟨hs.1, hs.2.1⟩
          · exact h4 x hx
theorem dec_all (hf : Free C n) : ∀ (a : List Nat) (t : List Nat), (∀ x ∈ a, x < n ∧ C x ≠ []) → dec C n (a.flatMap C ++ t) = (dec C n t).map (a ++ ·) := by
  intro a
  induction a with
  | nil => intro t _; simp
  | cons x a ih =>
    intro t h
    have hx := h x List.mem_cons_self
    rw [List.flatMap_cons, List.append_assoc, dec_code hf hx.1 hx.2, ih t fun y hy => h y (List.mem_cons_of_mem _ hy)]
    cases dec C n t <;> rfl
/-- no code begins what leads to a node -/
theorem Trie.nocode (h : Trie C n T P n 0) (hf : Free C n) {a : Nat} (ha : a < T.length) : ∀ s, s < n → C s ≠ [] → ¬ C s <+: P a := fun s hs hne hp => by
  rcases Nat.eq_zero_or_pos a with h0 | h0
  · subst h0; rw [h.root] at hp; exact hne (List.prefix_nil.1 hp)
  · obtain ⟨r, hr, h1, h2⟩ := h.proper a ha h0
    by_cases e : s = r
    · subst e
      exact h2 (List.IsPrefix.eq_of_length_le h1 hp.length_le)
    · exact hf s r hs hr e hne (hp.trans h1)
theorem pre_snoc {c p : List Nat} {k : Nat} {r : List Nat} (h : c <+: p ++ k :: r) : c <+: p ∨ (p ++ [k]) <+: c := by
  rcases Nat.le_total c.length p.length with hl | hl
  · exact .inl (List.prefix_of_prefix_length_le h (List.prefix_append _ _) hl)
  · rcases Nat.lt_or_eq_of_le hl with h1 | h1
    · right
      refine List.prefix_of_prefix_length_le (l₃ := p ++ k :: r) ⟨r, by simp⟩ h (by simp; omega)
    · exact .inl (List.prefix_of_prefix_length_le h (List.prefix_append _ _) (by omega))
theorem Trie.dead (h : Trie C n T P n 0) (hf : Free C n) {a k : Nat} (ha : a < T.length) (hk : k < 2) (r : List Nat) (he : get T a k = 0) : dec C n (P a ++ (48 + k) :: r) = none := by
  refine dec_none (by simp) fun s hs hne hp => ?_
  rcases pre_snoc hp with h1 | h1
  · exact h.nocode hf ha s hs hne h1
  · rcases h.edge a k ha hk with ⟨_, h2⟩ | ⟨s', h3, h2, _⟩ | ⟨b, h0, _, h2, _⟩
    · exact h2 s hs h1
    · omega
    · omega
theorem Trie.leaf (h : Trie C n T P n 0) (hf : Free C n) {a k : Nat} (ha : a < T.length) (hk : k < 2) (r : List Nat) (he : get T a k < 0) : ∃ s : Nat, s < n ∧ get T a k = -1 - (s : Int) ∧ C s ≠ [] ∧ dec C n (P a ++ (48 + k) :: r) = (dec C n r).map (s :: ·) := by
  rcases h.edge a k ha hk with ⟨h1, _⟩ | ⟨s, h1, h2, h3⟩ | ⟨b, h0, _, h2, _⟩
  · omega
  · have hne : C s ≠ [] := by rw [h3]; simp
    refine ⟨s, h1, h2, hne, ?_⟩
    rw [← dec_code hf h1 hne, h3]
    simp
  · omega
theorem Trie.on (h : Trie C n T P n 0) {a k : Nat} (ha : a < T.length) (hk : k < 2) (he : 0 < get T a k) : ∃ b : Nat, 0 < b ∧ b < T.length ∧ get T a k = (b : Int) ∧ P b = P a ++ [48 + k] := by
  rcases h.edge a k ha hk with ⟨h1, _⟩ | ⟨s, h1, h2, h3⟩ | h1
  · omega
  · omega
  · exact h1
theorem Trie.bad (h : Trie C n T P n 0) (hf : Free C n) (hb : Bits C n) {a c : Nat} (ha : a < T.length) (hc : c ≠ 48 ∧ c ≠ 49) (r : List Nat) : dec C n (P a ++ c :: r) = none := by
  refine dec_none (by simp) fun s hs hne hp => ?_
  rcases pre_snoc hp with h1 | h1
  · exact h.nocode hf ha s hs hne h1
  · have := hb s hs c (h1.subset (by simp))
    omega
theorem Trie.stop (h : Trie C n T P n 0) (hf : Free C n) {a : Nat} (ha : a < T.length) (h0 : a ≠ 0) : dec C n (P a) = none := by
  refine dec_none (fun e => h0 (h.inj a 0 ha h.pos (by rw [e, h.root]))) (h.nocode hf ha)
end Rk.Tri
namespace Rk.Code
variable {l : Nat → Nat} {n : Nat}
/-- the codes of lengths -/
def codeL (l : Nat → Nat) (n s : Nat) : List Nat := bits (val l n s) (l s)
theorem codeL_len (s : Nat) : (codeL l n s).length = l s := bits_len _ _
theorem codeL_bits : Tri.Bits (codeL l n) n := fun s _ b hb => by
  simp only [codeL, bits, List.mem_map, List.mem_range] at hb
  obtain ⟨p, _, rfl⟩ := hb
  omega
theorem codeL_free {M : Nat} (hM : ∀ k, k < n → l k ≤ M) (hr : room l n M ≤ 2 ^ M) : Tri.Free (codeL l n) n := fun s t hs ht hne h0 hp => by
  have h1 : 0 < l s := by
    rcases Nat.eq_zero_or_pos (l s) with h | h
    · exact absurd (List.eq_nil_of_length_eq_zero (by rw [codeL_len]; exact h)) h0
    · exact h
  have h2 := hp.length_le
  rw [codeL_len, codeL_len] at h2
  refine bits_free hs ht hne h1 h2 hM hr ?_
  have := List.prefix_iff_eq_take.1 hp
  rw [codeL_len] at this
  exact this.symm
end Rk.Code
