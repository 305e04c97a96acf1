/- What runs.Make holds, as the walk wants it: a run, a number. -/
import Derived.Test.YtifkfbcckkakgaaDoorCell
import Derived.Test.YtifkfbcckkakgaaDoorInts
import Derived.Test.YtifkfbcckkakgaaDoorGH2
namespace Rk
open Go Go.RowKit Go.Proofs
abbrev El_held := Int × Int
def enc_held (x : El_held) : List Value := [.int .i64 x.1, .int .i64 x.2]
abbrev val_held (x : El_held) : Value := .agg (enc_held x).toArray
theorem enc_len_held (x : El_held) : (enc_held x).length = 2 := rfl
theorem enc_one_held (x : El_held) : ∀ u ∈ enc_held x, u.oneCell' = true := by simp [enc_held, Value.oneCell']
theorem val_cells_held (x : El_held) : (val_held x).cells.toList = enc_held x := rfl
def z_held : Value := .agg #[.int .i64 0, .int .i64 0]
theorem tyT_held : Ty Tryd.prog 86 true 2 16 z_held := Ty.mk' (by kernel_rfl) (fun _ => by kernel_rfl) rfl
theorem unT_held : Tryd.prog.underlying 86 = some (.struct (Tryd.prog.fieldsOf 86)) := by kernel_rfl
theorem f0_held : ((Tryd.prog.fieldsOf 86)[0]?).map (fun f => (f.offset, f.type)) = some (0, 3) := by kernel_rfl
theorem f1_held : ((Tryd.prog.fieldsOf 86)[1]?).map (fun f => (f.offset, f.type)) = some (1, 3) := by kernel_rfl
def okE_held (x : El_held) : Prop := 0 ≤ x.1 ∧ x.1 ≤ 1000 ∧ -1000000 ≤ x.2 ∧ x.2 ≤ 1000000
instance : G.Key El_held := ⟨fun x => x.1 * 4000000 + x.2⟩
theorem key_lt_held {a b : El_held} (ha : okE_held a) (hb : okE_held b) : G.Key.key a < G.Key.key b ↔ a.1 < b.1 ∨ a.1 = b.1 ∧ a.2 < b.2 := by
  simp only [G.Key.key, okE_held] at *
  omega
section
variable {E : Env} {w : World} {t : TypeId} {x y : Operand} {bk o : Nat} {a b : Int}
theorem OpV.fd_held0 (hx : evE E x = some (.pointer (some ⟨bk, o, none⟩))) : OpV Tryd.prog (.fieldAddr 86 x 0) t E w (.pointer (some ⟨bk, o, none⟩)) w := OpV.fieldAddr (off := 0) unT_held f0_held tyInt (by omega) hx
theorem OpV.fd_held1 (hx : evE E x = some (.pointer (some ⟨bk, o, none⟩))) : OpV Tryd.prog (.fieldAddr 86 x 1) t E w (.pointer (some ⟨bk, o + 1, none⟩)) w := OpV.fieldAddr unT_held f1_held tyInt (by omega) hx
theorem OpV.mk2_held (hx : evE E x = some (.int .i64 a)) (hy : evE E y = some (.int .i64 b)) : OpV Tryd.prog (.build 86 #[(0, x), (1, y)]) t E w (val_held (a, b)) w :=
  OpV.build (parts := [(0, x), (1, y)]) (ps := [(0, .int .i64 a), (1, .int .i64 b)]) (by simp [evp, hx, hy]) (by kernel_rfl)
section
variable {ops : Array Oper} {K : Env → World → Prop} {N d_ : Nat} {rest : List Oper} {pos : String} {after : Array Edge} {C : World → Prop} {R : Env → Prop}
theorem WL.fd_held0  (h_ : WL Tryd.prog ops K N ((d_, (.pointer (some ⟨bk, o, none⟩))) :: E) rest w) (hx : evE E x = some (.pointer (some ⟨bk, o, none⟩)) := by with_unfolding_all exact rfl) (hd_ : Nat.blt d_ N = true := by with_unfolding_all exact rfl) :
    WL Tryd.prog ops K N E (⟨some d_, .fieldAddr 86 x 0, t, pos, after, none⟩ :: rest) w := WL.step (OpV.fd_held0 hx) hd_ h_
theorem QL.fd_held0  (h_ : QL Tryd.prog ops C R N ((d_, (.pointer (some ⟨bk, o, none⟩))) :: E) rest) (hx : evE E x = some (.pointer (some ⟨bk, o, none⟩)) := by with_unfolding_all exact rfl) (hd_ : Nat.blt d_ N = true := by with_unfolding_all exact rfl) :
    QL Tryd.prog ops C R N E (⟨some d_, .fieldAddr 86 x 0, t, pos, after, none⟩ :: rest) := QL.step (fun _ _ => OpV.fd_held0 hx) hd_ h_
theorem RL.fd_held0  (h_ : R ((d_, (.pointer (some ⟨bk, o, none⟩))) :: E)) (hx : evE E x = some (.pointer (some ⟨bk, o, none⟩)) := by with_unfolding_all exact rfl) (hd_ : Nat.blt d_ N = true := by with_unfolding_all exact rfl) :
    RL Tryd.prog ops C R N E ⟨some d_, .fieldAddr 86 x 0, t, pos, after, none⟩ := RL.step (fun _ _ => OpV.fd_held0 hx) hd_ h_
theorem WL.fd_held1  (h_ : WL Tryd.prog ops K N ((d_, (.pointer (some ⟨bk, o + 1, none⟩))) :: E) rest w) (hx : evE E x = some (.pointer (some ⟨bk, o, none⟩)) := by with_unfolding_all exact rfl) (hd_ : Nat.blt d_ N = true := by with_unfolding_all exact rfl) :
    WL Tryd.prog ops K N E (⟨some d_, .fieldAddr 86 x 1, t, pos, after, none⟩ :: rest) w := WL.step (OpV.fd_held1 hx) hd_ h_
theorem QL.fd_held1  (h_ : QL Tryd.prog ops C R N ((d_, (.pointer (some ⟨bk, o + 1, none⟩))) :: E) rest) (hx : evE E x = some (.pointer (some ⟨bk, o, none⟩)) := by with_unfolding_all exact rfl) (hd_ : Nat.blt d_ N = true := by with_unfolding_all exact rfl) :
    QL Tryd.prog ops C R N E (⟨some d_, .fieldAddr 86 x 1, t, pos, after, none⟩ :: rest) := QL.step (fun _ _ => OpV.fd_held1 hx) hd_ h_
theorem RL.fd_held1  (h_ : R ((d_, (.pointer (some ⟨bk, o + 1, none⟩))) :: E)) (hx : evE E x = some (.pointer (some ⟨bk, o, none⟩)) := by with_unfolding_all exact rfl) (hd_ : Nat.blt d_ N = true := by with_unfolding_all exact rfl) :
    RL Tryd.prog ops C R N E ⟨some d_, .fieldAddr 86 x 1, t, pos, after, none⟩ := RL.step (fun _ _ => OpV.fd_held1 hx) hd_ h_
theorem WL.mk2_held  (h_ : WL Tryd.prog ops K N ((d_, (val_held (a, b))) :: E) rest w) (hx : evE E x = some (.int .i64 a) := by with_unfolding_all exact rfl) (hy : evE E y = some (.int .i64 b) := by with_unfolding_all exact rfl) (hd_ : Nat.blt d_ N = true := by with_unfolding_all exact rfl) :
    WL Tryd.prog ops K N E (⟨some d_, .build 86 #[(0, x), (1, y)], t, pos, after, none⟩ :: rest) w := WL.step (OpV.mk2_held hx hy) hd_ h_
theorem QL.mk2_held  (h_ : QL Tryd.prog ops C R N ((d_, (val_held (a, b))) :: E) rest) (hx : evE E x = some (.int .i64 a) := by with_unfolding_all exact rfl) (hy : evE E y = some (.int .i64 b) := by with_unfolding_all exact rfl) (hd_ : Nat.blt d_ N = true := by with_unfolding_all exact rfl) :
    QL Tryd.prog ops C R N E (⟨some d_, .build 86 #[(0, x), (1, y)], t, pos, after, none⟩ :: rest) := QL.step (fun _ _ => OpV.mk2_held hx hy) hd_ h_
theorem RL.mk2_held  (h_ : R ((d_, (val_held (a, b))) :: E)) (hx : evE E x = some (.int .i64 a) := by with_unfolding_all exact rfl) (hy : evE E y = some (.int .i64 b) := by with_unfolding_all exact rfl) (hd_ : Nat.blt d_ N = true := by with_unfolding_all exact rfl) :
    RL Tryd.prog ops C R N E ⟨some d_, .build 86 #[(0, x), (1, y)], t, pos, after, none⟩ := RL.step (fun _ _ => OpV.mk2_held hx hy) hd_ h_
end
end
section
variable {ops : Array Oper} {K : Env → World → Prop} {R : Env → Prop} {N : Nat} {E : Env} {rest : List Oper} {w : World} {t : TypeId} {pos : String} {after : Array Edge} {d : Nat} {x : Operand} {g : Nat} {te : TypeId} {y : El_held}
theorem WL.ldT_held (h : WL Tryd.prog ops K N ((d, .agg (enc_held y).toArray) :: E) rest w) (hx : evE E x = some (.pointer (some ⟨g, 0, none⟩)) := by with_unfolding_all exact rfl) (hb : Bk w g te (enc_held y) := by assumption) (hd : Nat.blt d N = true := by with_unfolding_all exact rfl) : WL Tryd.prog ops K N E (⟨some d, .load 86 x, t, pos, after, none⟩ :: rest) w := WL.step (OpV.loadK (cs := enc_held y) tyT_held hx (enc_len_held y) (fun j u hu => by rw [Nat.zero_add]; exact hb.cell hu)) hd h
theorem QL.ldT_held (h : QL Tryd.prog ops (fun w' => Below w.heap.size w w') R N ((d, .agg (enc_held y).toArray) :: E) rest) (hx : evE E x = some (.pointer (some ⟨g, 0, none⟩)) := by with_unfolding_all exact rfl) (hb : Bk w g te (enc_held y) := by assumption) (hd : Nat.blt d N = true := by with_unfolding_all exact rfl) : QL Tryd.prog ops (fun w' => Below w.heap.size w w') R N E (⟨some d, .load 86 x, t, pos, after, none⟩ :: rest) := QL.step (fun _ hw => (OpV.loadK (cs := enc_held y) tyT_held hx (enc_len_held y) (fun j u hu => by rw [Nat.zero_add]; exact (hb.below hw).cell hu))) hd h
theorem RL.ldT_heldB (h : R ((d, .agg (enc_held y).toArray) :: E)) (hx : evE E x = some (.pointer (some ⟨g, 0, none⟩)) := by with_unfolding_all exact rfl) (hb : Bk w g te (enc_held y) := by assumption) (hd : Nat.blt d N = true := by with_unfolding_all exact rfl) : RL Tryd.prog ops (fun w' => Below w.heap.size w w') R N E ⟨some d, .load 86 x, t, pos, after, none⟩ := RL.step (fun _ hw => (OpV.loadK (cs := enc_held y) tyT_held hx (enc_len_held y) (fun j u hu => by rw [Nat.zero_add]; exact (hb.below hw).cell hu))) hd h
theorem RL.ldT_heldH (h : R ((d, .agg (enc_held y).toArray) :: E)) (hx : evE E x = some (.pointer (some ⟨g, 0, none⟩)) := by with_unfolding_all exact rfl) (hb : Bk w g te (enc_held y) := by assumption) (hd : Nat.blt d N = true := by with_unfolding_all exact rfl) : RL Tryd.prog ops (fun w' => w'.heap = w.heap) R N E ⟨some d, .load 86 x, t, pos, after, none⟩ := RL.step (fun _ hw => (OpV.loadK (cs := enc_held y) tyT_held hx (enc_len_held y) (fun j u hu => by rw [Nat.zero_add]; exact (hb.heap hw).cell hu))) hd h
end
section
variable {ops : Array Oper} {K : Env → World → Prop} {R : Env → Prop} {N : Nat} {E : Env} {rest : List Oper} {w : World} {t : TypeId} {pos : String} {after : Array Edge} {d : Nat} {x : Operand} {b o i n : Nat} {f : Nat → El_held}
theorem WL.ldE_held (h : WL Tryd.prog ops K N ((d, .agg (enc_held (f i)).toArray) :: E) rest w) (hx : evE E x = some (.pointer (some ⟨b, o + i * 2, none⟩)) := by with_unfolding_all exact rfl) (hr : RowOf enc_held 2 w (some ⟨b, o, none⟩) n f := by first | assumption | exact OwnS.toRow (by assumption)) (hi : i < n := by omega) (hd : Nat.blt d N = true := by with_unfolding_all exact rfl) : WL Tryd.prog ops K N E (⟨some d, .load 86 x, t, pos, after, none⟩ :: rest) w := WL.step (OpV.loadK (cs := enc_held (f i)) tyT_held hx (enc_len_held _) (hr.get hi)) hd h
theorem QL.ldE_held (h : QL Tryd.prog ops (fun w' => Below w.heap.size w w') R N ((d, .agg (enc_held (f i)).toArray) :: E) rest) (hx : evE E x = some (.pointer (some ⟨b, o + i * 2, none⟩)) := by with_unfolding_all exact rfl) (hr : RowOf enc_held 2 w (some ⟨b, o, none⟩) n f := by first | assumption | exact OwnS.toRow (by assumption)) (hi : i < n := by omega) (hd : Nat.blt d N = true := by with_unfolding_all exact rfl) : QL Tryd.prog ops (fun w' => Below w.heap.size w w') R N E (⟨some d, .load 86 x, t, pos, after, none⟩ :: rest) := QL.step (fun _ hw => (OpV.loadK (cs := enc_held (f i)) tyT_held hx (enc_len_held _) ((hr.below hw).get hi))) hd h
theorem RL.ldE_heldB (h : R ((d, .agg (enc_held (f i)).toArray) :: E)) (hx : evE E x = some (.pointer (some ⟨b, o + i * 2, none⟩)) := by with_unfolding_all exact rfl) (hr : RowOf enc_held 2 w (some ⟨b, o, none⟩) n f := by first | assumption | exact OwnS.toRow (by assumption)) (hi : i < n := by omega) (hd : Nat.blt d N = true := by with_unfolding_all exact rfl) : RL Tryd.prog ops (fun w' => Below w.heap.size w w') R N E ⟨some d, .load 86 x, t, pos, after, none⟩ := RL.step (fun _ hw => (OpV.loadK (cs := enc_held (f i)) tyT_held hx (enc_len_held _) ((hr.below hw).get hi))) hd h
theorem RL.ldE_heldH (h : R ((d, .agg (enc_held (f i)).toArray) :: E)) (hx : evE E x = some (.pointer (some ⟨b, o + i * 2, none⟩)) := by with_unfolding_all exact rfl) (hr : RowOf enc_held 2 w (some ⟨b, o, none⟩) n f := by first | assumption | exact OwnS.toRow (by assumption)) (hi : i < n := by omega) (hd : Nat.blt d N = true := by with_unfolding_all exact rfl) : RL Tryd.prog ops (fun w' => w'.heap = w.heap) R N E ⟨some d, .load 86 x, t, pos, after, none⟩ := RL.step (fun _ hw => (OpV.loadK (cs := enc_held (f i)) tyT_held hx (enc_len_held _) ((hr.heap hw).get hi))) hd h
end
end Rk
