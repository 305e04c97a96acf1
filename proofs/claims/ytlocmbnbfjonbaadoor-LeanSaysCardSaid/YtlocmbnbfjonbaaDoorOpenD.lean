/- How the arguments of a law are opened: a slice of nodes. -/
import Derived.Test.YtlocmbnbfjonbaaDoorOpenG
import Derived.Test.YtlocmbnbfjonbaaDoorOpenI
import Derived.Test.YtlocmbnbfjonbaaDoorLn0
namespace Rk
open Go Go.RowKit Go.Proofs Go.ChangeShapes Go.WideShapes
theorem sizeNd : (Tryd.prog.fieldsOf 35).size = 4 := by kernel_rfl
theorem cellsNd : Tryd.prog.cellsOf 35 = 4 := by kernel_rfl
set_option maxRecDepth 100000 in
theorem open_nodes {H : Type} {enc : TypeId × Value → H} {W : World} {base : Nat} {spare : Nat → Bool} {held : Bool} {a0 : Option Addr} {len0 cap0 : Nat} {d : DataW H} {p : List MemPlace}
    (h : DataW.Trod enc Tryd.prog W base spare held 24 (.slice a0 len0 cap0) d p) : ∃ L : List Nd, RowOf ndC 4 W a0 L.length (lf L) ∧ len0 = L.length ∧ len0 ≤ cap0 ∧ cap0 ≤ maxLen := by
  obtain ⟨L, h1, _, h2, h3⟩ := open_of ndC (fun _ => True) (by omega) unNds cellsNd (fun n cs D Pl hl hf => by
    obtain ⟨xs, _, _, hx, _, hlen, hg⟩ := DataW.trod_struct unNd hf
    rw [sizeNd] at hlen
    obtain ⟨f0, e0, o0, t0⟩ := fld d0
    obtain ⟨f1, e1, o1, t1⟩ := fld d1
    obtain ⟨f2, e2, o2, t2⟩ := fld d2
    obtain ⟨f3, e3, o3, t3⟩ := fld d3
    have g0 := hg 0 f0 e0
    have g1 := hg 1 f1 e1
    have g2 := hg 2 f2 e2
    have g3 := hg 3 f3 e3
    rw [o0, t0, cellsInt] at g0
    rw [o1, t1, cellsInt] at g1
    rw [o2, t2, cellsInt] at g2
    rw [o3, t3, cellsInt] at g3
    match xs, hlen, cs, hl with
    | [x0, x1, x2, x3], _, [v0, v1, v2, v3], _ =>
      simp at g0 g1 g2 g3
      obtain ⟨a, ha, _⟩ := DataW.trod_int Tryd.underlying3 g0
      obtain ⟨b, hb, _⟩ := DataW.trod_int Tryd.underlying3 g1
      obtain ⟨c, hc, _⟩ := DataW.trod_int Tryd.underlying3 g2
      obtain ⟨e, he, _⟩ := DataW.trod_int Tryd.underlying3 g3
      simp at ha hb hc he
      exact ⟨(a, b, c, e), by rw [ha, hb, hc, he]; rfl, trivial⟩) h
  exact ⟨L, h1, h2, h3⟩
end Rk
