/- How the arguments of a law are opened: a slice of trees. -/
import Derived.Test.YtagochiomonmhaaDoorOpenG
import Derived.Test.YtagochiomonmhaaDoorOpenI
import Derived.Test.YtagochiomonmhaaDoorOpen
import Derived.Test.YtagochiomonmhaaDoorBin0
namespace Rk
open Go Go.RowKit Go.Proofs Go.ChangeShapes Go.WideShapes
theorem sizeTr : (Tryd.prog.fieldsOf 37).size = 2 := by kernel_rfl
theorem cellsTr : Tryd.prog.cellsOf 37 = 2 := by kernel_rfl
theorem cellsIts : Tryd.prog.cellsOf 35 = 1 := by kernel_rfl
set_option maxRecDepth 100000 in
theorem open_trees {H : Type} {enc : TypeId × Value → H} {W : World} {base : Nat} {spare : Nat → Bool} {held : Bool} {a0 : Option Addr} {len0 cap0 : Nat} {d : DataW H} {p : List MemPlace}
    (h : DataW.Trod enc Tryd.prog W base spare held 22 (.slice a0 len0 cap0) d p) : ∃ L : List BTr, RowOf trC 2 W a0 L.length (lf L) ∧ OkT W L ∧ len0 = L.length ∧ len0 ≤ cap0 ∧ cap0 ≤ maxLen := by
  obtain ⟨L, h1, hq, h2, h3⟩ := open_of trC (fun t => RowOf itC 2 W t.2.1.1 t.2.2.length (lf t.2.2) ∧ t.2.2.length ≤ t.2.1.2) (by omega) unTrs cellsTr (fun n cs D Pl hl hf => by
    obtain ⟨xs, _, _, hx, _, hlen, hg⟩ := DataW.trod_struct unTr hf
    rw [sizeTr] at hlen
    obtain ⟨f0, e0, o0, t0⟩ := fld b0
    obtain ⟨f1, e1, o1, t1⟩ := fld b1
    have g0 := hg 0 f0 e0
    have g1 := hg 1 f1 e1
    rw [o0, t0, cellsInt] at g0
    rw [o1, t1, cellsIts] at g1
    match xs, hlen, cs, hl with
    | [x0, x1], _, [v0, v1], _ =>
      simp at g0 g1
      obtain ⟨r, hr, _⟩ := DataW.trod_int Tryd.underlying3 g0
      simp at hr
      obtain ⟨a, len, cap, rfl⟩ : ∃ a len cap, v1 = .slice a len cap := by
        rcases Deep.open_slice unItems g1 with ⟨hcs, _⟩ | ⟨a, len, cap, m, n, D, Pl, hcs, _⟩
        · simp at hcs; exact ⟨_, _, _, hcs⟩
        · simp at hcs; exact ⟨_, _, _, hcs⟩
      obtain ⟨z, hz, hlc, hlm⟩ := open_items ⟨_, g1⟩
      refine ⟨(r, (a, cap), segL z len), ?_, ?_, ?_⟩
      · rw [hr]; simp only [trC, trS, segL_length]
      · simp only [segL_length]
        exact hz.congr fun i hi => lf_segL z hi
      · simp only [segL_length]; exact hlc) h
  exact ⟨L, h1, fun t ht => hq t ht, h2, h3⟩
end Rk
