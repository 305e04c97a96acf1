/- The walk's own rules: three results, the first one from a box. -/
import Derived.Test.YtkkbmbkfjfdleaaDoorEx
namespace Rk
open Go Go.RowKit
attribute [local irreducible] OpV OpU OpC WL QL WC WX OL RL TL
theorem loadVar_bk {P : Program} {T : TypeId} {k bytes : Nat} {z : Value} (ty : Ty P T true k bytes z) {g : Nat} {te : TypeId} {cs : List Value} {w : World} (hb : Bk w g te cs) (hl : cs.length = k) :
    (loadVar T ⟨g, 0, none⟩).run P w = .ok (.agg cs.toArray) w := by
  have h := run_loadCells_list (P := P) (w := w) ⟨g, 0, none⟩ cs (fun j u hj => by
    have := hb.cell hj
    unfold Addr.add
    split
    · rename_i h0; subst h0; simpa using this
    · simpa using this)
  rw [hl] at h
  simp only [loadCells] at h
  simp [go_sem, loadVar, ty.aggr, ty.size, h]
theorem WX.ret3b {P : Program} {fn : Func} {S : Value → World → Prop} {N : Nat} {E : Env} {w : World} {s1 s2 s3 : Nat} {T : TypeId} {v2 v3 : Value} {k bytes : Nat} {z : Value} {g : Nat} {te : TypeId} {cs : List Value} (ty : Ty P T true k bytes z)
    (hr : fn.results = #[.cell s1 T, .tmp s2, .tmp s3]) (h1 : look E s1 = some (.pointer (some ⟨g, 0, none⟩))) (h2 : look E s2 = some v2) (h3 : look E s3 = some v3)
    (hb : Bk w g te cs) (hl : cs.length = k) (h : S (.tuple #[.agg cs.toArray, v2, v3]) w) : WX (bodyPost P fn (Ret S)) .ret N E w := WX.ret3c hr h1 h2 h3 (loadVar_bk ty hb hl) h
end Rk
