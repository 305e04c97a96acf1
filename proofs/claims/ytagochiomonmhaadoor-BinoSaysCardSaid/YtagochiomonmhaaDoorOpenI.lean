/- How the arguments of a law are opened: an item. -/
import Derived.Test.YtagochiomonmhaaDoorOpen
import Derived.Test.YtagochiomonmhaaDoorItV
namespace Rk
open Go Go.RowKit Go.Proofs Go.ChangeShapes Go.WideShapes
theorem cellsInt : Tryd.prog.cellsOf 3 = 1 := by kernel_rfl
theorem sizeItem : (Tryd.prog.fieldsOf 24).size = 2 := by kernel_rfl
theorem cellsItem : Tryd.prog.cellsOf 24 = 2 := by kernel_rfl
set_option maxRecDepth 100000 in
theorem open_item {H : Type} {enc : TypeId × Value → H} {W : World} {base b0 : Nat} {r : Reach} {spare : Nat → Bool} {held : Bool} {v : Value} {d : DataW H} {p : List MemPlace}
    (hv : Value.okWide Tryd.prog W r b0 24 v) (h : DataW.Trod enc Tryd.prog W base spare held 24 v d p) : ∃ x : It, v = itV x := by
  obtain ⟨cs, rfl, hsz⟩ := okWide_struct unItem hv
  obtain ⟨fuel, hf⟩ := h
  obtain ⟨xs, n, _, hx, hl, hlen, hg⟩ := DataW.trod_struct unItem hf
  rw [sizeItem] at hlen
  rw [cellsItem] at hsz
  obtain ⟨f0, h0, o0, t0⟩ := fld fdKey
  obtain ⟨f1, h1, o1, t1⟩ := fld fdId
  have g0 := hg 0 f0 h0
  have g1 := hg 1 f1 h1
  rw [o0, t0, cellsInt] at g0
  rw [o1, t1, cellsInt] at g1
  rcases xs with _ | ⟨x0, _ | ⟨x1, xs⟩⟩
  · simp at hlen
  · simp at hlen
  · simp at g0 g1
    obtain ⟨a, ha, _⟩ := DataW.trod_int Tryd.underlying3 g0
    obtain ⟨b, hb, _⟩ := DataW.trod_int Tryd.underlying3 g1
    refine ⟨(a, b), ?_⟩
    obtain ⟨l⟩ := cs
    simp [Value.cells] at ha hb hsz
    rcases l with _ | ⟨u0, _ | ⟨u1, _ | ⟨u2, l⟩⟩⟩
    · simp at hsz
    · simp at hsz
    · simp at ha hb
      rw [ha, hb]; rfl
    · simp at hsz
end Rk
