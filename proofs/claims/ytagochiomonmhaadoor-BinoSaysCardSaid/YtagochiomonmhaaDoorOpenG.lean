/- How the arguments of a law are opened: a slice of anything whose elements are known from their cells. -/
import Derived.Test.YtagochiomonmhaaDoorApp
import Derived.Deep.Slices
import Derived.ProofKit
import Derived.OpenShut
import Derived.ChangeOld
import Derived.Below
import Derived.Carry
namespace Rk
open Go Go.RowKit Go.ChangeShapes Go.WideShapes
theorem open_of {α : Type} [Inhabited α] {H : Type} {enc : TypeId × Value → H} {P : Program} {W : World} {base : Nat} {spare : Nat → Bool} {held : Bool} {t e : TypeId} {a0 : Option Addr} {len0 cap0 : Nat} {d : DataW H} {p : List MemPlace}
    (cc : α → List Value) {k : Nat} (Q : α → Prop) (hk : 0 < k) (ht : P.underlying t = some (.slice e)) (ce : P.cellsOf e = k)
    (hel : ∀ n cs D Pl, cs.length = k → DataW.trod enc P W base spare held n e cs = some (D, Pl) → ∃ x : α, cs = cc x ∧ Q x)
    (h : DataW.Trod enc P W base spare held t (.slice a0 len0 cap0) d p) : ∃ L : List α, RowOf cc k W a0 L.length (lf L) ∧ (∀ x ∈ L, Q x) ∧ len0 = L.length ∧ len0 ≤ cap0 ∧ cap0 ≤ maxLen := by
  obtain ⟨fuel, hf⟩ := h
  rcases Deep.open_slice ht hf with ⟨hcs, _⟩ | ⟨a, len, cap, m, n, D, Pl, hcs, _, hl, hm, hmm, _, hx⟩
  · simp [Value.cells] at hcs
    obtain ⟨rfl, rfl, rfl⟩ := hcs
    exact ⟨[], fun h => absurd h (by simp), fun x hx => (by cases hx), rfl, by omega, by simp [maxLen]⟩
  · simp [Value.cells] at hcs
    obtain ⟨rfl, rfl, rfl⟩ := hcs
    have hlm : len0 ≤ m := by rw [hmm]; split <;> omega
    have each : ∀ i, i < len0 → ∃ x : α, (∀ j, j < k → W.cell? (a.add (i * k + j)) = (cc x)[j]?) ∧ Q x ∧ (cc x).length = k := by
      intro i hi
      obtain ⟨cs', h1, h2⟩ := hx i (by omega)
      rw [ce] at h1
      obtain ⟨_, hlen, hcell⟩ := World.cells?_some h1
      obtain ⟨x, rfl, hq⟩ := hel _ _ _ _ hlen h2
      exact ⟨x, fun j hj => by rw [← hcell j hj, Deep.add_add], hq, hlen⟩
    obtain ⟨g, hg⟩ : ∃ g : Nat → α, ∀ i, i < len0 → (∀ j, j < k → W.cell? (a.add (i * k + j)) = (cc (g i))[j]?) ∧ Q (g i) ∧ (cc (g i)).length = k :=
      ⟨fun i => if h : i < len0 then (each i h).choose else default, fun i hi => by simp only [dif_pos hi]; exact (each i hi).choose_spec⟩
    refine ⟨(List.range len0).map g, ?_, ?_, by simp, hl, hm⟩
    · have hlen : ((List.range len0).map g).length = len0 := by simp
      intro hn
      rw [hlen] at hn ⊢
      obtain ⟨b, off, spot⟩ := a
      have h0 := (hg 0 hn).1 0 hk
      rw [List.getElem?_eq_getElem (by rw [(hg 0 hn).2.2]; exact hk)] at h0
      have hspot : spot = none := by simpa [Addr.add] using World.cell?_spot h0
      subst hspot
      refine ⟨b, off, rfl, ?_, fun i hil j u hu => ?_⟩
      · rcases Nat.lt_or_ge b W.heap.size with hb | hb
        · exact hb
        · rw [add_plain] at h0
          simp [World.cell?, Array.getElem?_eq_none hb] at h0
      · have he : lf ((List.range len0).map g) i = g i := by rw [lf_get (by rw [hlen]; exact hil)]; simp
        rw [he] at hu
        have hj : j < k := by
          have := (List.getElem?_eq_some_iff.1 hu).1
          rw [(hg i hil).2.2] at this
          exact this
        have := (hg i hil).1 j hj
        rw [add_plain, ← Nat.add_assoc] at this
        rw [this, hu]
    · intro x hx
      obtain ⟨i, hi, rfl⟩ := List.mem_map.1 hx
      exact (hg i (List.mem_range.1 hi)).2.1
end Rk
