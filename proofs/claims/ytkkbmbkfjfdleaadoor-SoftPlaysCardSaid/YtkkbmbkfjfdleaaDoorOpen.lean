/- How the arguments of a law are opened: a slice of items. -/
import Derived.Test.YtkkbmbkfjfdleaaDoorTypes
import Derived.Deep.SlicePairs
import Derived.ProofKit
import Derived.OpenShut
import Derived.ChangeOld
import Derived.Below
import Derived.Carry
namespace Rk
open Go Go.RowKit Go.Proofs Go.ChangeShapes Go.WideShapes

theorem open_items {H : Type} {enc : TypeId × Value → H} {W : World} {base : Nat} {spare : Nat → Bool} {held : Bool} {a0 : Option Addr} {len0 cap0 : Nat} {d : DataW H} {p : List MemPlace}
    (h : DataW.Trod enc Tryd.prog W base spare held 22 (.slice a0 len0 cap0) d p) : ∃ f : Nat → Int × Int, RowOf itC 2 W a0 len0 f ∧ len0 ≤ cap0 ∧ cap0 ≤ maxLen := by
  obtain ⟨fuel, hf⟩ := h
  rcases Deep.open_slice_pairs Tryd.underlying22 Tryd.underlying30 (by kernel_rfl) rfl rfl (by kernel_rfl) (by kernel_rfl) hf with ⟨hcs, _⟩ | ⟨a, len, cap, m, n, V0, V1, D0, D1, P0, P1, hcs, _, hl, hm, hmm, _, hi⟩
  · simp [Value.cells] at hcs
    obtain ⟨rfl, rfl, rfl⟩ := hcs
    exact ⟨fun _ => (0, 0), fun h => absurd h (by omega), by omega, by simp [maxLen]⟩
  · simp [Value.cells] at hcs
    obtain ⟨rfl, rfl, rfl⟩ := hcs
    have hlm : len0 ≤ m := by rw [hmm]; split <;> omega
    have each : ∀ i, i < len0 → ∃ q : Int × Int, W.cell? (a.add (i * 2)) = some (.int .i64 q.1) ∧ W.cell? (a.add (i * 2 + 1)) = some (.int .i64 q.2) := by
      intro i hil
      obtain ⟨h1, h2, h3, h4⟩ := hi i (by omega)
      obtain ⟨x, hx, _⟩ := DataW.trod_int Tryd.underlying3 h3
      obtain ⟨y, hy, _⟩ := DataW.trod_int Tryd.underlying3 h4
      simp at hx hy
      exact ⟨(x, y), by rw [h1, hx], by rw [h2, hy]⟩
    obtain ⟨f, hf⟩ : ∃ f : Nat → Int × Int, ∀ i, i < len0 → W.cell? (a.add (i * 2)) = some (.int .i64 (f i).1) ∧ W.cell? (a.add (i * 2 + 1)) = some (.int .i64 (f i).2) :=
      ⟨fun i => if h : i < len0 then (each i h).choose else (0, 0), fun i hi => by simp only [dif_pos hi]; exact (each i hi).choose_spec⟩
    refine ⟨f, ?_, hl, hm⟩
    intro hn
    obtain ⟨b, off, spot⟩ := a
    have hc := (hf 0 hn).1
    have hspot : spot = none := by simpa [Addr.add] using World.cell?_spot hc
    subst hspot
    have hadd : ∀ k, (⟨b, off, none⟩ : Addr).add k = ⟨b, off + k, none⟩ := by
      intro k; unfold Addr.add; split
      · rename_i h0; subst h0; simp
      · simp
    refine ⟨b, off, rfl, ?_, fun i hil j u hu => ?_⟩
    · rcases Nat.lt_or_ge b W.heap.size with hb | hb
      · exact hb
      · rw [hadd] at hc
        simp [World.cell?, Array.getElem?_eq_none hb] at hc
    · have hq := hf i hil
      rw [hadd, hadd] at hq
      match j, hu with
      | 0, hu => simp [itC] at hu; subst hu; exact hq.1
      | 1, hu => simp [itC] at hu; subst hu; exact hq.2
end Rk
