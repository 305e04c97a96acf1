/- The walk's own rules: slices of the call's own that begin anywhere in their block. -/
import Derived.Test.YtkkbmbkfjfdleaaDoorObj
import Derived.ArgAppend
namespace Rk
open Go Go.RowKit
def OwnO {α : Type} (enc : α → List Value) (k : Nat) (e : TypeId) (w : World) (B : Nat) (v : Value) (l : List α) : Prop :=
  (l = [] ∧ ∃ A, v = .slice A 0 0) ∨ ∃ g off cap cur, v = .slice (some ⟨g, off, none⟩) l.length cap ∧ B ≤ g ∧ Bk w g e cur ∧ off + cap * k ≤ cur.length ∧ l.length ≤ cap ∧ cap ≤ maxLen ∧
    ∀ i (h : i < l.length) j u, (enc l[i])[j]? = some u → cur[off + i * k + j]? = some u
section
variable {α : Type} {enc : α → List Value} {k : Nat} {e : TypeId} {w w' : World} {B : Nat} {v : Value} {l : List α} {row : Option Nat} {A : Option Addr} {n c : Nat} {F F' : Nat → Prop}
theorem OwnO.nil (enc : α → List Value) (k : Nat) (e : TypeId) (w : World) (B : Nat) (A : Option Addr) : OwnO enc k e w B (.slice A 0 0) [] := .inl ⟨rfl, A, rfl⟩
theorem OwnL.toO (hk : ∀ x, (enc x).length = k) (h : OwnL enc k e w B v l) : OwnO enc k e w B v l := by
  rcases h.2 with ⟨A, h1, h2⟩ | ⟨g, cap, cur, h1, h2, h3, h4, h5, h6, h7⟩
  · have hl := List.eq_nil_of_length_eq_zero h2
    subst hl
    exact .inl ⟨rfl, A, h1⟩
  · refine .inr ⟨g, 0, cap, cur.toList, h1, h2, by simpa [Bk] using h3, by simpa using Nat.le_of_eq h6.symm, h4, h5, fun i hi j u hu => ?_⟩
    have hj : j < k := by
      rcases Nat.lt_or_ge j k with hj | hj
      · exact hj
      · rw [List.getElem?_eq_none (by rw [hk]; exact hj)] at hu; cases hu
    rw [← flat_get hk l i j hi hj, ← h7, List.getElem?_take] at hu
    rw [Nat.zero_add]
    split at hu
    · exact hu
    · cases hu
theorem OwnO.form (h : OwnO enc k e w B v l) : ∃ A c, v = .slice A l.length c ∧ l.length ≤ c := by
  rcases h with ⟨rfl, A, rfl⟩ | ⟨g, off, cap, cur, rfl, _, _, _, hc, _⟩
  · exact ⟨A, 0, rfl, Nat.le_refl _⟩
  · exact ⟨_, _, rfl, hc⟩
theorem OwnO.other (h : OwnO enc k e w B v l) (hb : ∀ g, v.ownBlock = some g → w'.heap[g]? = w.heap[g]?) : OwnO enc k e w' B v l := by
  rcases h with hn | ⟨g, off, cap, cur, rfl, hB, hgg, rest⟩
  · exact .inl hn
  · exact .inr ⟨g, off, cap, cur, rfl, hB, (hb g (by simp [Value.ownBlock])).trans hgg, rest⟩
theorem OwnO.blk (h : OwnO enc k e w B v l) (hl : l ≠ []) : ∀ g, v.ownBlock = some g → B ≤ g ∧ g < w.heap.size := by
  intro g hg
  rcases h with ⟨rfl, _⟩ | ⟨g', off, cap, cur, rfl, hB, hgg, _⟩
  · exact absurd rfl hl
  · simp [Value.ownBlock] at hg; subst hg; exact ⟨hB, hgg.lt⟩
theorem OwnO.chg (h : OwnO enc k e w B v l) (hc : Chg w w' F F') (ha : Apart F (ownF v)) (hG : ∀ g, v.ownBlock = some g → g < w.heap.size) : OwnO enc k e w' B v l := h.other (hc.other ha hG)
theorem OwnO.below (h : OwnO enc k e w B v l) (hb : Below w.heap.size w w') : OwnO enc k e w' B v l := by
  rcases h with hn | ⟨g, off, cap, cur, rfl, hB, hgg, rest⟩
  · exact .inl hn
  · exact .inr ⟨g, off, cap, cur, rfl, hB, hgg.below hb, rest⟩
theorem OwnO.keep (h : OwnO enc k e w B v l) (hg : w.grownBy w' row) (hne : v.ownBlock = none ∨ v.ownBlock ≠ row) : OwnO enc k e w' B v l := by
  rcases h with hn | ⟨g, off, cap, cur, rfl, hB, hgg, rest⟩
  · exact .inl hn
  · exact .inr ⟨g, off, cap, cur, rfl, hB, hgg.keep hg (by simpa [Value.ownBlock, eq_comm] using hne), rest⟩
theorem OwnO.lower {B' : Nat} (h : OwnO enc k e w B' v l) (hB : B ≤ B') : OwnO enc k e w B v l := by
  rcases h with hn | ⟨g, off, cap, cur, rfl, hB', rest⟩
  · exact .inl hn
  · exact .inr ⟨g, off, cap, cur, rfl, Nat.le_trans hB hB', rest⟩
theorem OwnO.toRow [Inhabited α] (h : OwnO enc k e w B (.slice A n c) l) : n = l.length ∧ n ≤ c ∧ RowOf enc k w A n (lf l) := by
  rcases h with ⟨rfl, A', h1⟩ | ⟨g, off, cap, cur, h1, h2, h3, h4, h5, h6, h7⟩
  · injection h1 with _ h1 h2
    exact ⟨h1, by omega, fun hn => by omega⟩
  · injection h1 with h1 hn hc
    subst h1 hn hc
    refine ⟨rfl, h5, fun hn => ⟨g, off, rfl, h3.lt, fun i hi j u hu => ?_⟩⟩
    rw [lf_get hi] at hu
    exact h3.cell (h7 i hi j u hu)
/-- v[j:] -/
theorem OwnO.from_ (h : OwnO enc k e w B (.slice A n c) l) {j : Nat} (hj : j ≤ n) : OwnO enc k e w B (.slice (if c = j then A else A.map (·.add (j * k))) (n - j) (c - j)) (l.drop j) := by
  rcases h with ⟨rfl, A', h1⟩ | ⟨g, off, cap, cur, h1, h2, h3, h4, h5, h6, h7⟩
  · injection h1 with h0 h1 h2
    subst h1 h2
    exact .inl ⟨by simp, A, by
      obtain rfl : j = 0 := by omega
      simp⟩
  · injection h1 with h1 hn hc
    subst h1 hn hc
    by_cases e : c = j
    · subst e
      have : l.length = c := by omega
      exact .inl ⟨by simp [this], some ⟨g, off, none⟩, by rw [if_pos rfl, this]; simp⟩
    · rw [if_neg e]
      refine .inr ⟨g, off + j * k, c - j, cur, ?_, h2, h3, ?_, by simp; omega, by omega, fun i hi j' u hu => ?_⟩
      · have : ((⟨g, off, none⟩ : Addr).add (j * k)) = ⟨g, off + j * k, none⟩ := by
          unfold Addr.add; split
          · rename_i e; rw [e]; rfl
          · rfl
        simp [this]
      · have hle : j * k ≤ c * k := Nat.mul_le_mul_right _ (by omega)
        have : (c - j) * k = c * k - j * k := Nat.sub_mul _ _ _
        omega
      · simp only [List.length_drop] at hi
        rw [List.getElem_drop] at hu
        have := h7 (j + i) (by omega) j' u hu
        rw [Nat.add_mul] at this
        rw [← this]; congr 1; omega
/-- v[:j] -/
theorem OwnO.to_ (h : OwnO enc k e w B (.slice A n c) l) {j : Nat} (hj : j ≤ n) : OwnO enc k e w B (.slice A j c) (l.take j) := by
  rcases h with ⟨rfl, A', h1⟩ | ⟨g, off, cap, cur, h1, h2, h3, h4, h5, h6, h7⟩
  · injection h1 with h0 h1 h2
    subst h1 h2
    exact .inl ⟨by simp, A, by
      obtain rfl : j = 0 := by omega
      rfl⟩
  · injection h1 with h1 hn hc
    subst h1 hn hc
    have e : (l.take j).length = j := by rw [List.length_take]; omega
    refine .inr ⟨g, off, c, cur, by rw [e], h2, h3, h4, by rw [e]; omega, h6, fun i hi j' u hu => ?_⟩
    rw [List.getElem_take] at hu
    exact h7 i (by omega) j' u hu
end
section
variable {P : Program} {ops : Array Oper} {K : Env → World → Prop} {N : Nat} {E : Env} {rest : List Oper} {w w' : World} {op : Op} {t : TypeId} {pos : String} {after : Array Edge} {d d2 : Nat}
  {pos2 : String} {after2 : Array Edge} {t2 : TypeId} {x y s : Operand} {v u z av : Value} {e st xt : TypeId} {agg : Bool} {k bytes : Nat}
  {α : Type} {enc : α → List Value} {l : List α} {f : Nat → α} {m c B : Nat} {A : Option Addr} {a : α}
theorem WL.appendO (hk : ∀ x, (enc x).length = k) (h1 : ∀ x, ∀ u ∈ enc x, u.oneCell' = true) (hk0 : 0 < k) (ht : P.underlying st = some (.slice e)) (ty : Ty P e agg k bytes z) (hd : Nat.blt d N = true)
    (hs : evE E s = some v) (hx : evE E x = some (.slice A m c)) (ho : OwnO enc k e w B v l) (hr : RowOf enc k w A m f) (hb : (l.length + m) * bytes ≤ 140737488355328) (hlen : l.length + m ≤ maxLen) (hB : B ≤ w.heap.size)
    (h : ∀ v' w' row, OwnO enc k e w' B v' (l ++ segL f m) → w.grownBy w' row → (row = none ∨ row = v.ownBlock) → (∀ g, row = some g → B ≤ g) → (v'.ownBlock = v.ownBlock ∨ ∃ g, v'.ownBlock = some g ∧ w.heap.size ≤ g) → WL P ops K N ((d, v') :: E) rest w') :
    WL P ops K N E (⟨some d, .call { callee := .builtin .append, args := #[s, x], argTypes := #[st, st] }, t, pos, after, none⟩ :: rest) w := by
  rcases ho with ⟨rfl, A', rfl⟩ | ⟨g, off, cap, cur, rfl, hB', hbk, hcl, hlc, hcm, hc⟩
  · exact WL.append hk h1 hk0 ht ty hd hs hx (OwnL.nil enc k e w B A') hr hb hlen hB fun v' w' row ho' hg hrow hbase hv => h v' w' row (ho'.toO hk) hg hrow hbase (hv.imp id fun e => ⟨_, e, Nat.le_refl _⟩)
  · have hrun : ∃ v' w' row, (Builtin.append_ #[st, st] t #[.slice (some ⟨g, off, none⟩) l.length cap, .slice A m c]).run P w = .ok v' w' ∧ OwnO enc k e w' B v' (l ++ segL f m) ∧ w.grownBy w' row ∧ (row = none ∨ row = some g) ∧ (∀ g, row = some g → B ≤ g) ∧
        (v'.ownBlock = some g ∨ ∃ g, v'.ownBlock = some g ∧ w.heap.size ≤ g) := by
      obtain ⟨i, hi, hz, hsz, hbb⟩ := ty.info
      rcases Nat.eq_zero_or_pos m with h0 | h0
      · subst h0
        have hl0 : l ++ segL f 0 = l := by simp [segL]
        rw [hl0]
        refine ⟨_, w, none, ?_, .inr ⟨g, off, cap, cur, rfl, hB', hbk, hcl, hlc, hcm, hc⟩, World.grownBy.refl w _, .inl rfl, fun _ h => (by cases h), .inl rfl⟩
        cases A <;> simp [Builtin.append_, run_underlying ht, Go.sizeOf, typeInfo, hi, Builtin.lenOf, Builtin.firstCells, loadCells, loadCellsFrom, storeCells, hlc]
      · obtain ⟨b, o, rfl, hbl, hcell⟩ := hr h0
        have hnews := RowOf.news hk hcell
        have hn1 : ∀ u ∈ (segL f m).flatMap enc, u.oneCell' = true := by
          intro u hu
          obtain ⟨x, _, hx⟩ := List.mem_flatMap.1 hu
          exact h1 x u hx
        have hfl : ((segL f m).flatMap enc).length = m * k := by rw [flat_length hk, segL_length]
        by_cases hroom : l.length + m ≤ cap
        · have hfit : (l.length + m) * k ≤ cap * k := Nat.mul_le_mul_right _ hroom
          rw [Nat.add_mul] at hfit
          obtain ⟨w', a1, a2, a3, a4⟩ := run_storeCells_bk (P := P) ((segL f m).flatMap enc) 0 (off + l.length * k) cur w hbk hn1 (by rw [hfl]; omega)
          have hfc := run_firstCells_some (P := P) w k m ⟨b, o, none⟩ m c _ hfl hnews
          rw [Nat.add_zero] at a3
          refine ⟨.slice (some ⟨g, off, none⟩) (l.length + m) cap, w', some g, ?_, .inr ⟨g, off, cap, _, by rw [List.length_append, segL_length], hB', a3, by rw [putAt_length]; exact hcl, by rw [List.length_append, segL_length]; exact hroom, hcm, fun i' hi' j u hu => ?_⟩, a2, .inr rfl, fun g' hg' => by injection hg' with hg'; omega, .inl rfl⟩
          · have hadd : (⟨g, off, none⟩ : Addr).add (l.length * k) = ⟨g, off + l.length * k, none⟩ := by
              unfold Addr.add; split
              · rename_i e; rw [e]; rfl
              · rfl
            simp [Builtin.append_, run_underlying ht, Go.sizeOf, typeInfo, hi, Builtin.lenOf, hroom, hsz, hfc, hadd, a1]
          · have hj : j < k := by
              rcases Nat.lt_or_ge j k with hj | hj
              · exact hj
              · rw [List.getElem?_eq_none (by rw [hk]; exact hj)] at hu; cases hu
            rw [List.length_append, segL_length] at hi'
            rw [putAt_get _ _ _ _ (by rw [hfl]; omega), hfl]
            by_cases hlt : i' < l.length
            · have hle : (i' + 1) * k ≤ l.length * k := Nat.mul_le_mul_right _ hlt
              rw [Nat.add_mul, Nat.one_mul] at hle
              rw [if_neg (by omega)]
              rw [List.getElem_append_left hlt] at hu
              exact hc i' hlt j u hu
            · have hle : l.length * k ≤ i' * k := Nat.mul_le_mul_right _ (by omega)
              have hle2 : (i' + 1) * k ≤ (l.length + m) * k := Nat.mul_le_mul_right _ (by omega)
              rw [Nat.add_mul, Nat.one_mul, Nat.add_mul] at hle2
              rw [if_pos (by omega)]
              have hlen' : (l ++ segL f m).length = l.length + m := by simp [segL]
              rw [List.getElem_append_right (by omega)] at hu
              have := flat_get hk (segL f m) (i' - l.length) j (by rw [segL_length]; omega) hj
              rw [← this] at hu
              rw [← hu]
              congr 1
              have : (i' - l.length) * k = i' * k - l.length * k := Nat.sub_mul _ _ _
              omega
        · have holds : ∀ j u, (l.flatMap enc)[j]? = some u → w.cell? ((⟨g, off, none⟩ : Addr).add j) = some u := by
            intro j u hu
            have hlen' := flat_length hk l
            have hj : j < l.length * k := by
              rcases Nat.lt_or_ge j (l.length * k) with hj | hj
              · exact hj
              · rw [List.getElem?_eq_none (by rw [hlen']; exact hj)] at hu; cases hu
            have hdiv : j / k < l.length := by rw [Nat.div_lt_iff_lt_mul hk0]; exact hj
            have hmod := Nat.mod_lt j hk0
            have he : j = (j / k) * k + j % k := by have := Nat.div_add_mod j k; rw [Nat.mul_comm] at this; omega
            have hu' : (l.flatMap enc)[(j / k) * k + j % k]? = some u := by rw [← he]; exact hu
            rw [flat_get hk l (j / k) (j % k) hdiv hmod] at hu'
            have := hbk.cell (hc _ hdiv _ u hu')
            rw [show off + j / k * k + j % k = off + j from by omega] at this
            unfold Addr.add
            split
            · rename_i e; rw [e] at this; simpa using this
            · exact this
          obtain ⟨v', w', r1, r2, r3⟩ := run_append_arg_grows (P := P) w st t e i z k bytes ht hi hz hsz hbb ty.zsz hk0 ⟨g, off, none⟩ l.length cap (l.flatMap enc) (flat_length hk l) holds ⟨b, o, none⟩ m c _ hfl hnews (by omega) hlen hb
          have hO : OwnL enc k e w' w.heap.size v' (l ++ segL f m) := by
            have := Own.of_row r2
            unfold OwnL
            rw [List.flatMap_append, List.length_append, segL_length]; exact this
          have hne : l ++ segL f m ≠ [] := fun e => by have := congrArg List.length e; rw [List.length_append, segL_length] at this; simp at this; omega
          refine ⟨v', w', none, r1, (hO.lower hB).toO hk, r3, .inl rfl, fun _ h => (by cases h), .inr ?_⟩
          rcases r2.2 with ⟨_, h00⟩ | ⟨g', cap', cur', hv, hg', _⟩
          · omega
          · exact ⟨g', by rw [hv]; rfl, hg'⟩
    obtain ⟨v', w', row, r1, r2, r3, r3a, r3b, r4⟩ := hrun
    refine WL.step (w' := w') (v := v') (fun ρ hρ _ _ _ _ => ?_) hd (h v' w' row r2 r3 r3a r3b r4)
    simp [execOp, resolve, hρ _ _ hs, hρ _ _ hx, invoke, builtin, r1]
end
end Rk
