/- How the arguments of a law are opened: a slice of slices of numbers, with the bound of their sizes. -/
import Derived.Test.YtifkfbcckkakgaaDoorRowL
import Derived.Deep.Slices
import Derived.ProofKit
import Derived.OpenShut
import Derived.ChangeOld
import Derived.SizedLaws
import Derived.Below
import Derived.Carry
namespace Rk
open Go Go.RowKit Go.Proofs Go.ChangeShapes Go.WideShapes
theorem open_ofD {α : Type} [Inhabited α] {H : Type} {enc : TypeId × Value → H} {P : Program} {W : World} {base : Nat} {spare : Nat → Bool} {held : Bool} {t e : TypeId} {a0 : Option Addr} {len0 cap0 : Nat} {d : DataW H} {p : List MemPlace}
    (cc : α → List Value) {k : Nat} (Q : α → DataW H → Prop) (hk : 0 < k) (ht : P.underlying t = some (.slice e)) (ce : P.cellsOf e = k)
    (hel : ∀ n cs D Pl, cs.length = k → DataW.trod enc P W base spare held n e cs = some (D, Pl) → ∃ x : α, cs = cc x ∧ Q x D)
    (h : DataW.Trod enc P W base spare held t (.slice a0 len0 cap0) d p) : ∃ L : List α, RowOf cc k W a0 L.length (lf L) ∧ (L = [] ∨ ∃ es sp, d = .slice es sp ∧ es.length = L.length ∧ ∀ x ∈ L, ∃ D ∈ es, Q x D) ∧ len0 = L.length ∧ len0 ≤ cap0 ∧ cap0 ≤ maxLen := by
  obtain ⟨fuel, hf⟩ := h
  rcases Deep.open_slice ht hf with ⟨hcs, _⟩ | ⟨a, len, cap, m, n, D, Pl, hcs, _, hl, hm, hmm, hd, hx⟩
  · simp [Value.cells] at hcs
    obtain ⟨rfl, rfl, rfl⟩ := hcs
    exact ⟨[], fun h => absurd h (by simp), .inl rfl, rfl, by omega, by simp [maxLen]⟩
  · simp [Value.cells] at hcs
    obtain ⟨rfl, rfl, rfl⟩ := hcs
    have hlm : len0 ≤ m := by rw [hmm]; split <;> omega
    have each : ∀ i, i < len0 → ∃ x : α, (∀ j, j < k → W.cell? (a.add (i * k + j)) = (cc x)[j]?) ∧ Q x (D i) ∧ (cc x).length = k := by
      intro i hi
      obtain ⟨cs', h1, h2⟩ := hx i (by omega)
      rw [ce] at h1
      obtain ⟨_, hlen, hcell⟩ := World.cells?_some h1
      obtain ⟨x, rfl, hq⟩ := hel _ _ _ _ hlen h2
      exact ⟨x, fun j hj => by rw [← hcell j hj, Deep.add_add], hq, hlen⟩
    obtain ⟨g, hg⟩ : ∃ g : Nat → α, ∀ i, i < len0 → (∀ j, j < k → W.cell? (a.add (i * k + j)) = (cc (g i))[j]?) ∧ Q (g i) (D i) ∧ (cc (g i)).length = k :=
      ⟨fun i => if h : i < len0 then (each i h).choose else default, fun i hi => by simp only [dif_pos hi]; exact (each i hi).choose_spec⟩
    refine ⟨(List.range len0).map g, ?_, ?_, by simp, hl, hm⟩
    · have hlen : ((List.range len0).map g).length = len0 := by simp
      intro hn
      rw [hlen] at hn ⊢
      obtain ⟨b, off, spot⟩ := a
      have h0 := (hg 0 hn).1 0 hk
      rw [List.getElem?_eq_getElem (by rw [(hg 0 hn).2.2]; exact hk)] at h0
      have hspot : spot = none := by simpa [Addr.add] using World.cell?_spot h0
      subst hspot
      refine ⟨b, off, rfl, ?_, fun i hil j u hu => ?_⟩
      · rcases Nat.lt_or_ge b W.heap.size with hb | hb
        · exact hb
        · rw [add_plain] at h0
          simp [World.cell?, Array.getElem?_eq_none hb] at h0
      · have he : lf ((List.range len0).map g) i = g i := by rw [lf_get (by rw [hlen]; exact hil)]; simp
        rw [he] at hu
        have hj : j < k := by
          have := (List.getElem?_eq_some_iff.1 hu).1
          rw [(hg i hil).2.2] at this
          exact this
        have := (hg i hil).1 j hj
        rw [add_plain, ← Nat.add_assoc] at this
        rw [this, hu]
    · right
      injection hd with hd _
      exact ⟨_, _, hd, by simp, fun x hx => by
        obtain ⟨i, hi, rfl⟩ := List.mem_map.1 hx
        exact ⟨D i, List.mem_map.2 ⟨i, hi, rfl⟩, (hg i (List.mem_range.1 hi)).2.1⟩⟩
theorem weightsAll_mem {H : Type} {P : Program} {e : TypeId} : ∀ {l : List (DataW H)} {d : DataW H}, d ∈ l → ∀ n ∈ d.weights P e, n ∈ DataW.weightsAll P e l
  | d0 :: l, d, hd, n, hn => by
    simp only [DataW.weightsAll, List.mem_append]
    rcases List.mem_cons.1 hd with rfl | hd
    · exact .inl hn
    · exact .inr (weightsAll_mem hd n hn)
theorem cellsInts : Tryd.prog.cellsOf 22 = 1 := by kernel_rfl
theorem cellsInt1 : Tryd.prog.cellsOf 3 = 1 := by kernel_rfl
theorem bytesInt : Tryd.prog.bytesOf 3 = 8 := by kernel_rfl
theorem bytesInts : Tryd.prog.bytesOf 22 = 24 := by kernel_rfl
theorem reach_is : reachBytes = 140737488351232 := by rfl
/-- one row, opened -/
theorem open_row {H : Type} {enc : TypeId × Value → H} {W : World} {base : Nat} {spare : Nat → Bool} {held : Bool} {a0 : Option Addr} {len0 cap0 : Nat} {d : DataW H} {p : List MemPlace}
    (h : DataW.Trod enc Tryd.prog W base spare held 22 (.slice a0 len0 cap0) d p) : ∃ L : List Int, RowOf inC 1 W a0 L.length (lf L) ∧ len0 = L.length ∧ ((∀ n ∈ d.weights Tryd.prog 22, n ≤ reachBytes) → L.length ≤ 1000000000000000) := by
  obtain ⟨L, h1, h2, h3, _⟩ := open_ofD inC (fun _ _ => True) (by omega) unInts cellsInt1 (fun n cs D Pl hl hf => by
    match cs, hl with
    | [v], _ =>
      obtain ⟨a, ha, _⟩ := DataW.trod_int Tryd.underlying3 hf
      exact ⟨a, by simpa [inC] using ha, trivial⟩) h
  refine ⟨L, h1, h3, fun hw => ?_⟩
  rcases h2 with rfl | ⟨es, sp, rfl, he, _⟩
  · simp
  · have h4 := hw ((es.length + sp.length) * Tryd.prog.bytesOf 3) (by simp [DataW.weights, unInts])
    rw [bytesInt, reach_is] at h4
    omega
theorem open_rows {H : Type} {enc : TypeId × Value → H} {W : World} {base : Nat} {spare : Nat → Bool} {held : Bool} {a0 : Option Addr} {len0 cap0 : Nat} {d : DataW H} {p : List MemPlace}
    (h : DataW.Trod enc Tryd.prog W base spare held 31 (.slice a0 len0 cap0) d p) (hw : ∀ n ∈ d.weights Tryd.prog 31, n ≤ reachBytes) :
    ∃ (uf : Nat → Sl) (rf : Nat → List Int), RowsR W a0 len0 uf rf ∧ len0 ≤ 1000000000000000 ∧ (∀ i, i < len0 → (rf i).length ≤ 1000000000000000) := by
  obtain ⟨L, h1, h2, h3, _⟩ := open_ofD (α := Sl × List Int) (fun x => encS x.1) (fun x D => x.1.2.1 = x.2.length ∧ RowOf inC 1 W x.1.1 x.2.length (lf x.2) ∧ ((∀ n ∈ D.weights Tryd.prog 22, n ≤ reachBytes) → x.2.length ≤ 1000000000000000)) (by omega) unRows cellsInts (fun n cs D Pl hl hf => by
    match cs, hl with
    | [v], _ =>
      obtain ⟨a, len, cap, rfl⟩ : ∃ a len cap, v = .slice a len cap := by
        rcases Deep.open_slice unInts hf with ⟨hcs, _⟩ | ⟨a, len, cap, m, n, D, Pl, hcs, _⟩
        · simp at hcs; exact ⟨_, _, _, hcs⟩
        · simp at hcs; exact ⟨_, _, _, hcs⟩
      obtain ⟨L, e1, e2, e3⟩ := open_row ⟨_, hf⟩
      exact ⟨((a, len, cap), L), rfl, e2, e1, e3⟩) h
  subst h3
  refine ⟨fun i => (lf L i).1, fun i => (lf L i).2, ⟨?_, fun i hi => ?_⟩, ?_, fun i hi => ?_⟩
  · intro hn
    obtain ⟨b, o, e, hb, hc⟩ := h1 hn
    exact ⟨b, o, e, hb, hc⟩
  · rcases h2 with rfl | ⟨es, sp, rfl, he, hq⟩
    · simp at hi
    · obtain ⟨D, hD, q1, q2, q3⟩ := hq (lf L i) (by rw [lf_get hi]; exact List.getElem_mem _)
      exact ⟨q1, q2⟩
  · rcases h2 with rfl | ⟨es, sp, rfl, he, hq⟩
    · simp
    · have h4 := hw ((es.length + sp.length) * Tryd.prog.bytesOf 22) (by simp [DataW.weights, unRows])
      rw [bytesInts, reach_is] at h4
      omega
  · rcases h2 with rfl | ⟨es, sp, rfl, he, hq⟩
    · simp at hi
    · obtain ⟨D, hD, q1, q2, q3⟩ := hq (lf L i) (by rw [lf_get hi]; exact List.getElem_mem _)
      refine q3 fun n hn => hw n ?_
      simp only [DataW.weights, unRows, List.mem_cons, List.mem_append]
      exact .inr (.inl (weightsAll_mem hD n hn))
end Rk
