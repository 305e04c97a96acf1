/- How the arguments of a law are opened: a slice of numbers. -/
import Derived.Test.YthdiheblgmddhaaDoorInts
import Derived.ProofKit
import Derived.OpenShut
import Derived.ChangeOld
import Derived.ChangeSlices
import Derived.Below
import Derived.Carry
namespace Rk
open Go Go.RowKit Go.Proofs Go.ChangeShapes Go.WideShapes
theorem open_nums {H : Type} {enc : TypeId × Value → H} {W : World} {base : Nat} {spare : Nat → Bool} {held : Bool} {a0 : Option Addr} {len0 cap0 : Nat} {d : DataW H} {p : List MemPlace}
    (h : DataW.Trod enc Tryd.prog W base spare held 22 (.slice a0 len0 cap0) d p) : ∃ f : Nat → Int, RowOf inC 1 W a0 len0 f ∧ len0 ≤ cap0 ∧ cap0 ≤ maxLen := by
  obtain ⟨fuel, hf⟩ := h
  rcases Go.ChangeShapes.open_ints Tryd.underlying22 Tryd.underlying3 (by kernel_rfl) hf with ⟨hcs, _⟩ | ⟨a, len, cap, zs, hcs, _, hl, hm, hlen, _, hi, _⟩
  · simp [Value.cells] at hcs
    obtain ⟨rfl, rfl, rfl⟩ := hcs
    exact ⟨fun _ => 0, fun h => absurd h (by omega), by omega, by simp [maxLen]⟩
  · simp [Value.cells] at hcs
    obtain ⟨rfl, rfl, rfl⟩ := hcs
    have hlm : len0 ≤ zs.length := by rw [hlen]; split <;> omega
    refine ⟨fun i => zs.getD i 0, fun hn => ?_, hl, hm⟩
    obtain ⟨b, off, spot⟩ := a
    have hc := hi 0 (by omega)
    have hspot : spot = none := by simpa [Addr.add] using World.cell?_spot hc
    subst hspot
    have hadd : ∀ k, (⟨b, off, none⟩ : Addr).add k = ⟨b, off + k, none⟩ := by
      intro k; unfold Addr.add; split
      · rename_i h0; subst h0; simp
      · simp
    refine ⟨b, off, rfl, ?_, fun i hil j u hu => ?_⟩
    · rcases Nat.lt_or_ge b W.heap.size with hb | hb
      · exact hb
      · rw [hadd] at hc
        simp [World.cell?, Array.getElem?_eq_none hb] at hc
    · have hq := hi i (by omega)
      rw [hadd] at hq
      match j, hu with
      | 0, hu => simp [inC] at hu; subst hu; simpa using hq
end Rk
