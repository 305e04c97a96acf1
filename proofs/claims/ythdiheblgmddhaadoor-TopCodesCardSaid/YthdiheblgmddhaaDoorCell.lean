/- The walk's own rules, shorter: cells of blocks that are known whole: boxes of structs, objects. -/
import Derived.Test.YthdiheblgmddhaaDoorExN
import Derived.Test.YthdiheblgmddhaaDoorObj
import Derived.Test.YthdiheblgmddhaaDoorTree2
namespace Rk
open Go Go.RowKit Go.Proofs
section
variable {E : Env} {w : World} {t : TypeId} {x y : Operand} {p : Addr}
theorem OpV.nilP (hx : evE E x = some (.pointer (some p))) : OpV Tryd.prog (.nilCheck x) t E w (.pointer (some p)) w := OpV.nilCheckP hx
section
variable {ops : Array Oper} {K : Env → World → Prop} {N d_ : Nat} {rest : List Oper} {pos : String} {after : Array Edge} {C : World → Prop} {R : Env → Prop}
theorem WL.nilP  (h_ : WL Tryd.prog ops K N ((d_, (.pointer (some p))) :: E) rest w) (hx : evE E x = some (.pointer (some p)) := by with_unfolding_all exact rfl) (hd_ : Nat.blt d_ N = true := by with_unfolding_all exact rfl) :
    WL Tryd.prog ops K N E (⟨some d_, .nilCheck x, t, pos, after, none⟩ :: rest) w := WL.step (OpV.nilP hx) hd_ h_
theorem QL.nilP  (h_ : QL Tryd.prog ops C R N ((d_, (.pointer (some p))) :: E) rest) (hx : evE E x = some (.pointer (some p)) := by with_unfolding_all exact rfl) (hd_ : Nat.blt d_ N = true := by with_unfolding_all exact rfl) :
    QL Tryd.prog ops C R N E (⟨some d_, .nilCheck x, t, pos, after, none⟩ :: rest) := QL.step (fun _ _ => OpV.nilP hx) hd_ h_
theorem RL.nilP  (h_ : R ((d_, (.pointer (some p))) :: E)) (hx : evE E x = some (.pointer (some p)) := by with_unfolding_all exact rfl) (hd_ : Nat.blt d_ N = true := by with_unfolding_all exact rfl) :
    RL Tryd.prog ops C R N E ⟨some d_, .nilCheck x, t, pos, after, none⟩ := RL.step (fun _ _ => OpV.nilP hx) hd_ h_
end
end
section
variable {ops : Array Oper} {K : Env → World → Prop} {R : Env → Prop} {N : Nat} {E : Env} {rest : List Oper} {w : World} {t : TypeId} {pos : String} {after : Array Edge} {d : Nat} {x : Operand} {g j : Nat} {te : TypeId} {cs : List Value} {u : Value}
theorem WL.ldCI (h : WL Tryd.prog ops K N ((d, u) :: E) rest w) (hx : evE E x = some (.pointer (some ⟨g, j, none⟩)) := by with_unfolding_all exact rfl) (hb : Bk w g te cs := by assumption) (hu : cs[j]? = some u := by with_unfolding_all exact rfl) (hd : Nat.blt d N = true := by with_unfolding_all exact rfl) : WL Tryd.prog ops K N E (⟨some d, .load 3 x, t, pos, after, none⟩ :: rest) w := WL.step (OpV.load1 tyInt hx (hb.cell hu)) hd h
theorem QL.ldCI (h : QL Tryd.prog ops (fun w' => Below w.heap.size w w') R N ((d, u) :: E) rest) (hx : evE E x = some (.pointer (some ⟨g, j, none⟩)) := by with_unfolding_all exact rfl) (hb : Bk w g te cs := by assumption) (hu : cs[j]? = some u := by with_unfolding_all exact rfl) (hd : Nat.blt d N = true := by with_unfolding_all exact rfl) : QL Tryd.prog ops (fun w' => Below w.heap.size w w') R N E (⟨some d, .load 3 x, t, pos, after, none⟩ :: rest) := QL.step (fun _ hw => OpV.load1 tyInt hx ((hb.below hw).cell hu)) hd h
theorem RL.ldCIB (h : R ((d, u) :: E)) (hx : evE E x = some (.pointer (some ⟨g, j, none⟩)) := by with_unfolding_all exact rfl) (hb : Bk w g te cs := by assumption) (hu : cs[j]? = some u := by with_unfolding_all exact rfl) (hd : Nat.blt d N = true := by with_unfolding_all exact rfl) : RL Tryd.prog ops (fun w' => Below w.heap.size w w') R N E ⟨some d, .load 3 x, t, pos, after, none⟩ := RL.step (fun _ hw => OpV.load1 tyInt hx ((hb.below hw).cell hu)) hd h
theorem RL.ldCIH (h : R ((d, u) :: E)) (hx : evE E x = some (.pointer (some ⟨g, j, none⟩)) := by with_unfolding_all exact rfl) (hb : Bk w g te cs := by assumption) (hu : cs[j]? = some u := by with_unfolding_all exact rfl) (hd : Nat.blt d N = true := by with_unfolding_all exact rfl) : RL Tryd.prog ops (fun w' => w'.heap = w.heap) R N E ⟨some d, .load 3 x, t, pos, after, none⟩ := RL.step (fun _ hw => OpV.load1 tyInt hx ((hb.heap hw).cell hu)) hd h
end
/-- what a heap object owns: its own block, and its list's -/
def hF (hp : Nat) (v : Value) : Nat → Prop := fun k => k = hp ∨ v.ownBlock = some k
section
variable {w w' : World} {hp : Nat} {v v' : Value} {F : Nat → Prop} {row : Option Nat}
theorem Chg.of_grown {g : Nat} (hg : w.grownBy w' (some g)) (hF : F g) (hl : ∀ k, F k → k < w.heap.size) : Chg w w' F F :=
  ⟨hg.os, hg.tape, hg.output, hg.size, fun k hk hn => hg.block k hk (fun e => hn (by injection e with e; subst e; exact hF)), fun k hk => ⟨.inl hk, Nat.lt_of_lt_of_le (hl k hk) hg.size⟩⟩
theorem Chg.app (hg : w.grownBy w' row) (hrow : row = none ∨ row = v.ownBlock) (hv' : v'.ownBlock = v.ownBlock ∨ v'.ownBlock = some w.heap.size) (hl : hp < w.heap.size) (hlt : ∀ g, v'.ownBlock = some g → g < w'.heap.size) : Chg w w' (hF hp v) (hF hp v') :=
  ⟨hg.os, hg.tape, hg.output, hg.size, fun k hk hn => hg.block k hk (by
    rcases hrow with e | e
    · rw [e]; simp
    · rw [e]; exact fun e2 => hn (.inr e2.symm)), fun g hf => by
    rcases hf with rfl | hf
    · exact ⟨.inl (.inl rfl), Nat.lt_of_lt_of_le hl hg.size⟩
    · refine ⟨?_, hlt g hf⟩
      rcases hv' with e | e
      · exact .inl (.inr (e ▸ hf))
      · rw [e] at hf; injection hf with hf; exact .inr (by omega)⟩
theorem Chg.fresh {w0 : World} {F' : Nat → Prop} {r : Nat} (h : Chg w0 w F F') (hg : w.grownBy w' (some r)) (hr : w0.heap.size ≤ r) : Chg w0 w' F F' :=
  ⟨hg.os.trans h.os, hg.tape.trans h.tape, hg.output.trans h.output, Nat.le_trans h.size hg.size, fun k hk hn => (hg.block k (Nat.lt_of_lt_of_le hk h.size) (by simp; omega)).trans (h.block k hk hn), fun g hf => ⟨(h.next g hf).1, Nat.lt_of_lt_of_le (h.next g hf).2 hg.size⟩⟩
theorem Chg.more {w0 : World} {F' : Nat → Prop} (h : Chg w0 w F F') (hb : Below w.heap.size w w') : Chg w0 w' F F' := h.trans (Chg.of_below hb fun k hk => (h.next k hk).2)
theorem OwnS.chg {α : Type} {enc : α → List Value} {k : Nat} {e : TypeId} {B g n cap : Nat} {f : Nat → α} {F' : Nat → Prop} (h : OwnS enc k e w B g n cap f) (hc : Chg w w' F F') (ha : ¬ F g) : OwnS enc k e w' B g n cap f := by
  obtain ⟨cur, hb, hr⟩ := h.blk
  exact ⟨h.base, h.le, h.max, cur, hb.chg hc ha, hr⟩
theorem Chg.stay {F' : Nat → Prop} {g : Nat} (hc : Chg w w' F F') (ha : ¬ F g) (hg : g < w.heap.size) : ¬ F' g := fun hf => by
  rcases (hc.next g hf).1 with h1 | h1
  · exact ha h1
  · omega
theorem hF_slice (hp g n n' c c' : Nat) : hF hp (.slice (some ⟨g, 0, none⟩) n c) = hF hp (.slice (some ⟨g, 0, none⟩) n' c') := rfl
end
section
variable {P : Program} {fn : Func} {S : Value → World → Prop} {N : Nat} {E : Env} {w : World}
theorem cellVar {T : TypeId} {k bytes : Nat} {z : Value} (ty : Ty P T true k bytes z) {g : Nat} {te : TypeId} {cs : List Value} (hb : Bk w g te cs) (hl : cs.length = k) :
    (loadVar T ⟨g, 0, none⟩).run P w = .ok (.agg cs.toArray) w := by
  have h := run_loadCells_list (P := P) (w := w) ⟨g, 0, none⟩ cs (fun j u hj => by
    have := hb.cell hj
    unfold Addr.add
    split
    · rename_i h0; subst h0; simpa using this
    · simpa using this)
  rw [hl] at h
  simp only [loadCells] at h
  simp [go_sem, loadVar, ty.aggr, ty.size, h]
theorem WX.ret1b {s1 : Nat} {T : TypeId} {k bytes : Nat} {z : Value} {g : Nat} {te : TypeId} {cs : List Value} (ty : Ty P T true k bytes z) (hr : fn.results = #[.cell s1 T]) (h1 : look E s1 = some (.pointer (some ⟨g, 0, none⟩)))
    (hb : Bk w g te cs) (hl : cs.length = k) (h : S (.agg cs.toArray) w) : WX (bodyPost P fn (Ret S)) .ret N E w := by
  intro a ha
  have e : (results fn a.tmps).run P w = .ok (.agg cs.toArray) w := by simp [results, hr, ha.at_ _ _ h1, asAddr, cellVar ty hb hl]
  exact bodyPost_ret e ha.defers h
end
end Rk
