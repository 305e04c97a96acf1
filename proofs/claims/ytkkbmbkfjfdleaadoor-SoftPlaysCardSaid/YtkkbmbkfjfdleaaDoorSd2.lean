/- The document's soft heap in memory: its state, and pushing. -/
import Derived.Test.YtkkbmbkfjfdleaaDoorSd1
namespace Rk
open Go Go.RowKit Go.Proofs
abbrev TD : TypeId := 40
theorem tyIs : Ty Tryd.prog 38 false 1 24 (.slice none 0 0) := Ty.mk' (by kernel_rfl) (fun _ => by kernel_rfl) rfl
theorem unD : Tryd.prog.underlying 40 = some (.struct (Tryd.prog.fieldsOf 40)) := by kernel_rfl
theorem tyD : Ty Tryd.prog 40 true 4 64 (.agg #[.int .i64 0, .int .i64 0, .slice none 0 0, .slice none 0 0]) := Ty.mk' (by kernel_rfl) (fun _ => by kernel_rfl) rfl
theorem sdn0 : ((Tryd.prog.fieldsOf 40)[0]?).map (fun f => (f.offset, f.type)) = some (0, 3) := by kernel_rfl
theorem sdn1 : ((Tryd.prog.fieldsOf 40)[1]?).map (fun f => (f.offset, f.type)) = some (1, 3) := by kernel_rfl
theorem sdn2 : ((Tryd.prog.fieldsOf 40)[2]?).map (fun f => (f.offset, f.type)) = some (2, 37) := by kernel_rfl
theorem sdn3 : ((Tryd.prog.fieldsOf 40)[3]?).map (fun f => (f.offset, f.type)) = some (3, 38) := by kernel_rfl
section
variable {E : Env} {w : World} {t : TypeId} {x y z u : Operand} {bk o n c j : Nat}
theorem OpV.st_d0 (hx : evE E x = some (.pointer (some ⟨bk, o, none⟩))) : OpV Tryd.prog (.fieldAddr 40 x 0) t E w (.pointer (some ⟨bk, o, none⟩)) w := OpV.fieldAddr (off := 0) unD sdn0 tyInt (by omega) hx
theorem OpV.st_d1 (hx : evE E x = some (.pointer (some ⟨bk, o, none⟩))) : OpV Tryd.prog (.fieldAddr 40 x 1) t E w (.pointer (some ⟨bk, o + 1, none⟩)) w := OpV.fieldAddr unD sdn1 tyInt (by omega) hx
theorem OpV.st_d2 (hx : evE E x = some (.pointer (some ⟨bk, o, none⟩))) : OpV Tryd.prog (.fieldAddr 40 x 2) t E w (.pointer (some ⟨bk, o + 2, none⟩)) w := OpV.fieldAddr unD sdn2 tyCs (by omega) hx
theorem OpV.st_d3 (hx : evE E x = some (.pointer (some ⟨bk, o, none⟩))) : OpV Tryd.prog (.fieldAddr 40 x 3) t E w (.pointer (some ⟨bk, o + 3, none⟩)) w := OpV.fieldAddr unD sdn3 tyIs (by omega) hx
section
variable {ops : Array Oper} {K : Env → World → Prop} {N d_ : Nat} {rest : List Oper} {pos : String} {after : Array Edge} {C : World → Prop} {R : Env → Prop}
theorem WL.st_d0  (h_ : WL Tryd.prog ops K N ((d_, (.pointer (some ⟨bk, o, none⟩))) :: E) rest w) (hx : evE E x = some (.pointer (some ⟨bk, o, none⟩)) := by with_unfolding_all exact rfl) (hd_ : Nat.blt d_ N = true := by with_unfolding_all exact rfl) :
    WL Tryd.prog ops K N E (⟨some d_, .fieldAddr 40 x 0, t, pos, after, none⟩ :: rest) w := WL.step (OpV.st_d0 hx) hd_ h_
theorem QL.st_d0  (h_ : QL Tryd.prog ops C R N ((d_, (.pointer (some ⟨bk, o, none⟩))) :: E) rest) (hx : evE E x = some (.pointer (some ⟨bk, o, none⟩)) := by with_unfolding_all exact rfl) (hd_ : Nat.blt d_ N = true := by with_unfolding_all exact rfl) :
    QL Tryd.prog ops C R N E (⟨some d_, .fieldAddr 40 x 0, t, pos, after, none⟩ :: rest) := QL.step (fun _ _ => OpV.st_d0 hx) hd_ h_
theorem RL.st_d0  (h_ : R ((d_, (.pointer (some ⟨bk, o, none⟩))) :: E)) (hx : evE E x = some (.pointer (some ⟨bk, o, none⟩)) := by with_unfolding_all exact rfl) (hd_ : Nat.blt d_ N = true := by with_unfolding_all exact rfl) :
    RL Tryd.prog ops C R N E ⟨some d_, .fieldAddr 40 x 0, t, pos, after, none⟩ := RL.step (fun _ _ => OpV.st_d0 hx) hd_ h_
theorem WL.st_d1  (h_ : WL Tryd.prog ops K N ((d_, (.pointer (some ⟨bk, o + 1, none⟩))) :: E) rest w) (hx : evE E x = some (.pointer (some ⟨bk, o, none⟩)) := by with_unfolding_all exact rfl) (hd_ : Nat.blt d_ N = true := by with_unfolding_all exact rfl) :
    WL Tryd.prog ops K N E (⟨some d_, .fieldAddr 40 x 1, t, pos, after, none⟩ :: rest) w := WL.step (OpV.st_d1 hx) hd_ h_
theorem QL.st_d1  (h_ : QL Tryd.prog ops C R N ((d_, (.pointer (some ⟨bk, o + 1, none⟩))) :: E) rest) (hx : evE E x = some (.pointer (some ⟨bk, o, none⟩)) := by with_unfolding_all exact rfl) (hd_ : Nat.blt d_ N = true := by with_unfolding_all exact rfl) :
    QL Tryd.prog ops C R N E (⟨some d_, .fieldAddr 40 x 1, t, pos, after, none⟩ :: rest) := QL.step (fun _ _ => OpV.st_d1 hx) hd_ h_
theorem RL.st_d1  (h_ : R ((d_, (.pointer (some ⟨bk, o + 1, none⟩))) :: E)) (hx : evE E x = some (.pointer (some ⟨bk, o, none⟩)) := by with_unfolding_all exact rfl) (hd_ : Nat.blt d_ N = true := by with_unfolding_all exact rfl) :
    RL Tryd.prog ops C R N E ⟨some d_, .fieldAddr 40 x 1, t, pos, after, none⟩ := RL.step (fun _ _ => OpV.st_d1 hx) hd_ h_
theorem WL.st_d2  (h_ : WL Tryd.prog ops K N ((d_, (.pointer (some ⟨bk, o + 2, none⟩))) :: E) rest w) (hx : evE E x = some (.pointer (some ⟨bk, o, none⟩)) := by with_unfolding_all exact rfl) (hd_ : Nat.blt d_ N = true := by with_unfolding_all exact rfl) :
    WL Tryd.prog ops K N E (⟨some d_, .fieldAddr 40 x 2, t, pos, after, none⟩ :: rest) w := WL.step (OpV.st_d2 hx) hd_ h_
theorem QL.st_d2  (h_ : QL Tryd.prog ops C R N ((d_, (.pointer (some ⟨bk, o + 2, none⟩))) :: E) rest) (hx : evE E x = some (.pointer (some ⟨bk, o, none⟩)) := by with_unfolding_all exact rfl) (hd_ : Nat.blt d_ N = true := by with_unfolding_all exact rfl) :
    QL Tryd.prog ops C R N E (⟨some d_, .fieldAddr 40 x 2, t, pos, after, none⟩ :: rest) := QL.step (fun _ _ => OpV.st_d2 hx) hd_ h_
theorem RL.st_d2  (h_ : R ((d_, (.pointer (some ⟨bk, o + 2, none⟩))) :: E)) (hx : evE E x = some (.pointer (some ⟨bk, o, none⟩)) := by with_unfolding_all exact rfl) (hd_ : Nat.blt d_ N = true := by with_unfolding_all exact rfl) :
    RL Tryd.prog ops C R N E ⟨some d_, .fieldAddr 40 x 2, t, pos, after, none⟩ := RL.step (fun _ _ => OpV.st_d2 hx) hd_ h_
theorem WL.st_d3  (h_ : WL Tryd.prog ops K N ((d_, (.pointer (some ⟨bk, o + 3, none⟩))) :: E) rest w) (hx : evE E x = some (.pointer (some ⟨bk, o, none⟩)) := by with_unfolding_all exact rfl) (hd_ : Nat.blt d_ N = true := by with_unfolding_all exact rfl) :
    WL Tryd.prog ops K N E (⟨some d_, .fieldAddr 40 x 3, t, pos, after, none⟩ :: rest) w := WL.step (OpV.st_d3 hx) hd_ h_
theorem QL.st_d3  (h_ : QL Tryd.prog ops C R N ((d_, (.pointer (some ⟨bk, o + 3, none⟩))) :: E) rest) (hx : evE E x = some (.pointer (some ⟨bk, o, none⟩)) := by with_unfolding_all exact rfl) (hd_ : Nat.blt d_ N = true := by with_unfolding_all exact rfl) :
    QL Tryd.prog ops C R N E (⟨some d_, .fieldAddr 40 x 3, t, pos, after, none⟩ :: rest) := QL.step (fun _ _ => OpV.st_d3 hx) hd_ h_
theorem RL.st_d3  (h_ : R ((d_, (.pointer (some ⟨bk, o + 3, none⟩))) :: E)) (hx : evE E x = some (.pointer (some ⟨bk, o, none⟩)) := by with_unfolding_all exact rfl) (hd_ : Nat.blt d_ N = true := by with_unfolding_all exact rfl) :
    RL Tryd.prog ops C R N E ⟨some d_, .fieldAddr 40 x 3, t, pos, after, none⟩ := RL.step (fun _ _ => OpV.st_d3 hx) hd_ h_
end
end
/-- the state's cells -/
def sdC (R0 n0 : Nat) (cv tv : Value) : List Value := [.int .i64 R0, .int .i64 n0, cv, tv]
section
variable {ops : Array Oper} {K : Env → World → Prop} {R : Env → Prop} {N : Nat} {E : Env} {rest : List Oper} {w : World} {t : TypeId} {pos : String} {after : Array Edge} {d : Nat} {x : Operand} {gg : Nat} {R0 n0 : Nat} {cv tv : Value}
theorem WL.ldd_r (h : WL Tryd.prog ops K N ((d, .int .i64 (R0 : Nat)) :: E) rest w) (hx : evE E x = some (.pointer (some ⟨gg, 0, none⟩)) := by with_unfolding_all exact rfl) (hb : Bk w gg TD (sdC R0 n0 cv tv) := by assumption) (hd : Nat.blt d N = true := by with_unfolding_all exact rfl) : WL Tryd.prog ops K N E (⟨some d, .load 3 x, t, pos, after, none⟩ :: rest) w := WL.step (OpV.load1 tyInt hx (hb.cell rfl)) hd h
theorem QL.ldd_r (h : QL Tryd.prog ops (fun w' => Below w.heap.size w w') R N ((d, .int .i64 (R0 : Nat)) :: E) rest) (hx : evE E x = some (.pointer (some ⟨gg, 0, none⟩)) := by with_unfolding_all exact rfl) (hb : Bk w gg TD (sdC R0 n0 cv tv) := by assumption) (hd : Nat.blt d N = true := by with_unfolding_all exact rfl) : QL Tryd.prog ops (fun w' => Below w.heap.size w w') R N E (⟨some d, .load 3 x, t, pos, after, none⟩ :: rest) := QL.step (fun _ hw => (OpV.load1 tyInt hx ((hb.below hw).cell rfl))) hd h
theorem RL.ldd_r (h : R ((d, .int .i64 (R0 : Nat)) :: E)) (hx : evE E x = some (.pointer (some ⟨gg, 0, none⟩)) := by with_unfolding_all exact rfl) (hb : Bk w gg TD (sdC R0 n0 cv tv) := by assumption) (hd : Nat.blt d N = true := by with_unfolding_all exact rfl) : RL Tryd.prog ops (fun w' => Below w.heap.size w w') R N E ⟨some d, .load 3 x, t, pos, after, none⟩ := RL.step (fun _ hw => (OpV.load1 tyInt hx ((hb.below hw).cell rfl))) hd h
end
section
variable {ops : Array Oper} {K : Env → World → Prop} {R : Env → Prop} {N : Nat} {E : Env} {rest : List Oper} {w : World} {t : TypeId} {pos : String} {after : Array Edge} {d : Nat} {x : Operand} {gg : Nat} {R0 n0 : Nat} {cv tv : Value}
theorem WL.ldd_p (h : WL Tryd.prog ops K N ((d, .int .i64 (n0 : Nat)) :: E) rest w) (hx : evE E x = some (.pointer (some ⟨gg, 1, none⟩)) := by with_unfolding_all exact rfl) (hb : Bk w gg TD (sdC R0 n0 cv tv) := by assumption) (hd : Nat.blt d N = true := by with_unfolding_all exact rfl) : WL Tryd.prog ops K N E (⟨some d, .load 3 x, t, pos, after, none⟩ :: rest) w := WL.step (OpV.load1 tyInt hx (hb.cell rfl)) hd h
theorem QL.ldd_p (h : QL Tryd.prog ops (fun w' => Below w.heap.size w w') R N ((d, .int .i64 (n0 : Nat)) :: E) rest) (hx : evE E x = some (.pointer (some ⟨gg, 1, none⟩)) := by with_unfolding_all exact rfl) (hb : Bk w gg TD (sdC R0 n0 cv tv) := by assumption) (hd : Nat.blt d N = true := by with_unfolding_all exact rfl) : QL Tryd.prog ops (fun w' => Below w.heap.size w w') R N E (⟨some d, .load 3 x, t, pos, after, none⟩ :: rest) := QL.step (fun _ hw => (OpV.load1 tyInt hx ((hb.below hw).cell rfl))) hd h
theorem RL.ldd_p (h : R ((d, .int .i64 (n0 : Nat)) :: E)) (hx : evE E x = some (.pointer (some ⟨gg, 1, none⟩)) := by with_unfolding_all exact rfl) (hb : Bk w gg TD (sdC R0 n0 cv tv) := by assumption) (hd : Nat.blt d N = true := by with_unfolding_all exact rfl) : RL Tryd.prog ops (fun w' => Below w.heap.size w w') R N E ⟨some d, .load 3 x, t, pos, after, none⟩ := RL.step (fun _ hw => (OpV.load1 tyInt hx ((hb.below hw).cell rfl))) hd h
end
section
variable {ops : Array Oper} {K : Env → World → Prop} {R : Env → Prop} {N : Nat} {E : Env} {rest : List Oper} {w : World} {t : TypeId} {pos : String} {after : Array Edge} {d : Nat} {x : Operand} {gg : Nat} {R0 n0 : Nat} {cv tv : Value}
theorem WL.ldd_c (h : WL Tryd.prog ops K N ((d, cv) :: E) rest w) (hx : evE E x = some (.pointer (some ⟨gg, 2, none⟩)) := by with_unfolding_all exact rfl) (hb : Bk w gg TD (sdC R0 n0 cv tv) := by assumption) (hd : Nat.blt d N = true := by with_unfolding_all exact rfl) : WL Tryd.prog ops K N E (⟨some d, .load 37 x, t, pos, after, none⟩ :: rest) w := WL.step (OpV.load1 tyCs hx (hb.cell rfl)) hd h
theorem QL.ldd_c (h : QL Tryd.prog ops (fun w' => Below w.heap.size w w') R N ((d, cv) :: E) rest) (hx : evE E x = some (.pointer (some ⟨gg, 2, none⟩)) := by with_unfolding_all exact rfl) (hb : Bk w gg TD (sdC R0 n0 cv tv) := by assumption) (hd : Nat.blt d N = true := by with_unfolding_all exact rfl) : QL Tryd.prog ops (fun w' => Below w.heap.size w w') R N E (⟨some d, .load 37 x, t, pos, after, none⟩ :: rest) := QL.step (fun _ hw => (OpV.load1 tyCs hx ((hb.below hw).cell rfl))) hd h
theorem RL.ldd_c (h : R ((d, cv) :: E)) (hx : evE E x = some (.pointer (some ⟨gg, 2, none⟩)) := by with_unfolding_all exact rfl) (hb : Bk w gg TD (sdC R0 n0 cv tv) := by assumption) (hd : Nat.blt d N = true := by with_unfolding_all exact rfl) : RL Tryd.prog ops (fun w' => Below w.heap.size w w') R N E ⟨some d, .load 37 x, t, pos, after, none⟩ := RL.step (fun _ hw => (OpV.load1 tyCs hx ((hb.below hw).cell rfl))) hd h
end
section
variable {ops : Array Oper} {K : Env → World → Prop} {R : Env → Prop} {N : Nat} {E : Env} {rest : List Oper} {w : World} {t : TypeId} {pos : String} {after : Array Edge} {d : Nat} {x : Operand} {gg : Nat} {R0 n0 : Nat} {cv tv : Value}
theorem WL.ldd_t (h : WL Tryd.prog ops K N ((d, tv) :: E) rest w) (hx : evE E x = some (.pointer (some ⟨gg, 3, none⟩)) := by with_unfolding_all exact rfl) (hb : Bk w gg TD (sdC R0 n0 cv tv) := by assumption) (hd : Nat.blt d N = true := by with_unfolding_all exact rfl) : WL Tryd.prog ops K N E (⟨some d, .load 38 x, t, pos, after, none⟩ :: rest) w := WL.step (OpV.load1 tyIs hx (hb.cell rfl)) hd h
theorem QL.ldd_t (h : QL Tryd.prog ops (fun w' => Below w.heap.size w w') R N ((d, tv) :: E) rest) (hx : evE E x = some (.pointer (some ⟨gg, 3, none⟩)) := by with_unfolding_all exact rfl) (hb : Bk w gg TD (sdC R0 n0 cv tv) := by assumption) (hd : Nat.blt d N = true := by with_unfolding_all exact rfl) : QL Tryd.prog ops (fun w' => Below w.heap.size w w') R N E (⟨some d, .load 38 x, t, pos, after, none⟩ :: rest) := QL.step (fun _ hw => (OpV.load1 tyIs hx ((hb.below hw).cell rfl))) hd h
theorem RL.ldd_t (h : R ((d, tv) :: E)) (hx : evE E x = some (.pointer (some ⟨gg, 3, none⟩)) := by with_unfolding_all exact rfl) (hb : Bk w gg TD (sdC R0 n0 cv tv) := by assumption) (hd : Nat.blt d N = true := by with_unfolding_all exact rfl) : RL Tryd.prog ops (fun w' => Below w.heap.size w w') R N E ⟨some d, .load 38 x, t, pos, after, none⟩ := RL.step (fun _ hw => (OpV.load1 tyIs hx ((hb.below hw).cell rfl))) hd h
end
theorem evE_cd {E : Env} {v : Value} : evE E (.const v) = some v := rfl
theorem OpV.mkN_d {E : Env} {w : World} {t : TypeId} {x y : Operand} {a : Int} {A : Option Addr} {n c : Nat} (hx : evE E x = some (.int .i64 a)) (hy : evE E y = some (.slice A n c)) :
    OpV Tryd.prog (.build 60 #[(0, x), (2, .const (.int .i64 1)), (3, .const (.int .i64 (-1))), (4, .const (.int .i64 (-1))), (5, y)]) t E w (.agg #[.int .i64 a, .int .i64 0, .int .i64 1, .int .i64 (-1), .int .i64 (-1), .slice A n c]) w :=
  OpV.build (parts := [(0, x), (2, .const (.int .i64 1)), (3, .const (.int .i64 (-1))), (4, .const (.int .i64 (-1))), (5, y)]) (ps := [(0, .int .i64 a), (2, .int .i64 1), (3, .int .i64 (-1)), (4, .int .i64 (-1)), (5, .slice A n c)]) (by simp [evp, hx, hy, evE_cd]) (by kernel_rfl)
theorem OpV.mkP_d {E : Env} {w : World} {t : TypeId} {x y z : Operand} {a b d : Int} (hx : evE E x = some (.int .i64 a)) (hy : evE E y = some (.int .i64 b)) (hz : evE E z = some (.int .i64 d)) :
    OpV Tryd.prog (.build 60 #[(1, x), (2, .const (.int .i64 1)), (3, y), (4, z)]) t E w (.agg #[.int .i64 0, .int .i64 a, .int .i64 1, .int .i64 b, .int .i64 d, .slice none 0 0]) w :=
  OpV.build (parts := [(1, x), (2, .const (.int .i64 1)), (3, y), (4, z)]) (ps := [(1, .int .i64 a), (2, .int .i64 1), (3, .int .i64 b), (4, .int .i64 d)]) (by simp [evp, hx, hy, hz, evE_cd]) (by kernel_rfl)
attribute [local irreducible] OpV OpU OpC WL QL WC WX OL RL TL TM
/-- trees among the cells -/
def RT (C : Nat → RC) : List Sf.T → List Int → List Nat → Prop
  | [], ix, L => ix = [] ∧ L = []
  | t :: ts, ix, L => ∃ i ix' Lt Lr, ix = i :: ix' ∧ L = Lt ++ Lr ∧ CT C t i Lt ∧ RT C ts ix' Lr
theorem RT.congr {C C' : Nat → RC} : ∀ {ts : List Sf.T} {ix : List Int} {L : List Nat}, RT C ts ix L → (∀ j ∈ L, C' j = C j) → RT C' ts ix L := by
  intro ts
  induction ts with
  | nil => intro ix L h _; exact h
  | cons t ts ih =>
    intro ix L h hc
    obtain ⟨i, ix', Lt, Lr, rfl, rfl, h1, h2⟩ := h
    exact ⟨i, ix', Lt, Lr, rfl, rfl, h1.congr fun x hx => hc x (by simp [hx]), ih h2 fun x hx => hc x (by simp [hx])⟩
theorem RT.len {C : Nat → RC} : ∀ {ts : List Sf.T} {ix : List Int} {L : List Nat}, RT C ts ix L → ix.length = ts.length := by
  intro ts
  induction ts with
  | nil => intro ix L h; obtain ⟨rfl, _⟩ := h; rfl
  | cons t ts ih => intro ix L h; obtain ⟨i, ix', Lt, Lr, rfl, rfl, _, h2⟩ := h; simp [ih h2]
/-- the node of a tree -/
theorem CT.bk {C : Nat → RC} {t : Sf.T} {i : Int} {L : List Nat} (h : CT C t i L) (hn : t ≠ .nil) : ∃ j : Nat, i = (j : Int) ∧ j ∈ L ∧ (C j).1.1 = t.key ∧ (C j).1.2.1 = (t.rank : Int) ∧ (C j).1.2.2.1 = (t.want : Int) ∧ (C j).2.2 = t.items ∧ decide (0 ≤ (C j).1.2.2.2.1) = !t.left.isNil ∧ decide (0 ≤ (C j).1.2.2.2.2) = !t.right.isNil := by
  cases t with
  | nil => exact absurd rfl hn
  | node k rk wt its l r =>
    obtain ⟨j, il, ir, Ll, Lr, rfl, rfl, h1, h2, h3, h4⟩ := h
    exact ⟨j, rfl, by simp, by rw [h1]; rfl, by rw [h1]; rfl, by rw [h1]; rfl, h2, by rw [h1]; exact h3.neg, by rw [h1]; exact h4.neg⟩
/-- what is new, and what was G's -/
def NG (w wr : World) (G : Nat → Prop) : Nat → Prop := fun x => G x ∨ (w.heap.size ≤ x ∧ x < wr.heap.size)
theorem NG.lt {w wr : World} {G : Nat → Prop} (h : Chg w wr G (NG w wr G)) : ∀ x, NG w wr G x → x < wr.heap.size := fun x hx => (h.next x hx).2
theorem NG.refl {w : World} {G : Nat → Prop} (hl : ∀ x, G x → x < w.heap.size) : Chg w w G (NG w w G) := ⟨rfl, rfl, rfl, Nat.le_refl _, fun _ _ _ => rfl, fun x hx => by
  rcases hx with h | h
  · exact ⟨.inl h, hl x h⟩
  · omega⟩
theorem NG.step {w wr w' : World} {G S S' : Nat → Prop} (h : Chg w wr G (NG w wr G)) (hc : Chg wr w' S S') (hs : ∀ x, S x → NG w wr G x) : Chg w w' G (NG w w' G) := by
  have h1 := h.size
  have h2 := hc.size
  refine ⟨hc.os.trans h.os, hc.tape.trans h.tape, hc.output.trans h.output, by omega, fun x hx hn => ?_, fun x hx => ?_⟩
  · rw [hc.block x (by omega) (fun e => ?_), h.block x hx hn]
    rcases hs x e with h3 | h3
    · exact hn h3
    · omega
  · rcases hx with h3 | h3
    · exact ⟨.inl h3, by have := (h.next x (.inl h3)).2; omega⟩
    · exact ⟨.inr h3.1, h3.2⟩
theorem NG.below {w wr w' : World} {G : Nat → Prop} (h : Chg w wr G (NG w wr G)) (hb : Below wr.heap.size wr w') : Chg w w' G (NG w w' G) := NG.step h (Chg.of_below (F := fun _ => False) hb fun _ h => h.elim) fun _ h => h.elim
theorem NG.row {w wr w' : World} {G : Nat → Prop} {row : Option Nat} (h : Chg w wr G (NG w wr G)) (hg : wr.grownBy w' row) (hr : ∀ x, row = some x → NG w wr G x) : Chg w w' G (NG w w' G) :=
  NG.step (S := fun x => row = some x) (S' := fun _ => False) h ⟨hg.os, hg.tape, hg.output, hg.size, fun k hk hn => hg.block k hk (fun e => hn e.symm), fun _ h => h.elim⟩ hr
theorem NG.up {w wr w' : World} {G : Nat → Prop} (hs : wr.heap.size ≤ w'.heap.size) {x : Nat} (h : NG w wr G x) : NG w w' G x := h.imp id fun h => ⟨h.1, by omega⟩
/-- the document's heap: what it is made of -/
structure RS (w : World) (G : Nat → Prop) (cv tv : Value) (cs : List RC) (ix : List Int) (ts : List Sf.T) (L : List Nat) : Prop where
  cells : OwnL rcC 6 TC w 0 cv cs
  trees : OwnL inC 1 3 w 0 tv ix
  lt : ∀ x, G x → x < w.heap.size
  gc : ∀ g, cv.ownBlock = some g → G g
  gt : ∀ g, tv.ownBlock = some g → G g
  ct : ∀ g, cv.ownBlock = some g → tv.ownBlock ≠ some g
  items : OkC w (fun x => G x ∧ cv.ownBlock ≠ some x) cs.length (lf cs)
  rel : RT (lf cs) ts ix L
  nodup : L.Nodup
  inn : ∀ x ∈ L, x < cs.length
  dead : ∀ x, x < cs.length → x ∉ L → (lf cs x).2.2 = []
end Rk
