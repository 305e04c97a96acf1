/- What huff.Lengths holds, as the walk wants it: a weight, when it was made, its leaves. -/
import Derived.Test.YthdiheblgmddhaaDoorCell
import Derived.Test.YthdiheblgmddhaaDoorInts
import Derived.Test.YthdiheblgmddhaaDoorGH2
namespace Rk
open Go Go.RowKit Go.Proofs
abbrev El_part := Int × Int × (Option Addr × Nat × Nat)
def enc_part (x : El_part) : List Value := [.int .i64 x.1, .int .i64 x.2.1, .slice x.2.2.1 x.2.2.2.1 x.2.2.2.2]
abbrev val_part (x : El_part) : Value := .agg (enc_part x).toArray
theorem enc_len_part (x : El_part) : (enc_part x).length = 3 := rfl
theorem enc_one_part (x : El_part) : ∀ u ∈ enc_part x, u.oneCell' = true := by simp [enc_part, Value.oneCell']
theorem val_cells_part (x : El_part) : (val_part x).cells.toList = enc_part x := rfl
def z_part : Value := .agg #[.int .i64 0, .int .i64 0, .slice none 0 0]
theorem tyT_part : Ty Tryd.prog 44 true 3 40 z_part := Ty.mk' (by kernel_rfl) (fun _ => by kernel_rfl) rfl
theorem unT_part : Tryd.prog.underlying 44 = some (.struct (Tryd.prog.fieldsOf 44)) := by kernel_rfl
theorem f0_part : ((Tryd.prog.fieldsOf 44)[0]?).map (fun f => (f.offset, f.type)) = some (0, 3) := by kernel_rfl
theorem f1_part : ((Tryd.prog.fieldsOf 44)[1]?).map (fun f => (f.offset, f.type)) = some (1, 3) := by kernel_rfl
theorem f2_part : ((Tryd.prog.fieldsOf 44)[2]?).map (fun f => (f.offset, f.type)) = some (2, 22) := by kernel_rfl
def okE_part (x : El_part) : Prop := 0 ≤ x.1 ∧ x.1 ≤ 1000000 ∧ 0 ≤ x.2.1 ∧ x.2.1 ≤ 1000
instance : G.Key El_part := ⟨fun x => x.1 * 4000 + x.2.1⟩
theorem key_lt_part {a b : El_part} (ha : okE_part a) (hb : okE_part b) : G.Key.key a < G.Key.key b ↔ a.1 < b.1 ∨ a.1 = b.1 ∧ a.2.1 < b.2.1 := by
  simp only [G.Key.key, okE_part] at *
  omega
theorem tyInts : Ty Tryd.prog 22 false 1 24 (.slice none 0 0) := Ty.mk' (by kernel_rfl) (fun _ => by kernel_rfl) rfl
section
variable {E : Env} {w : World} {t : TypeId} {x y z : Operand} {bk o : Nat} {a b : Int}
theorem OpV.fd_part0 (hx : evE E x = some (.pointer (some ⟨bk, o, none⟩))) : OpV Tryd.prog (.fieldAddr 44 x 0) t E w (.pointer (some ⟨bk, o, none⟩)) w := OpV.fieldAddr (off := 0) unT_part f0_part tyInt (by omega) hx
theorem OpV.fd_part1 (hx : evE E x = some (.pointer (some ⟨bk, o, none⟩))) : OpV Tryd.prog (.fieldAddr 44 x 1) t E w (.pointer (some ⟨bk, o + 1, none⟩)) w := OpV.fieldAddr unT_part f1_part tyInt (by omega) hx
theorem OpV.fd_part2 (hx : evE E x = some (.pointer (some ⟨bk, o, none⟩))) : OpV Tryd.prog (.fieldAddr 44 x 2) t E w (.pointer (some ⟨bk, o + 2, none⟩)) w := OpV.fieldAddr unT_part f2_part tyInts (by omega) hx
theorem OpV.mk3_part {A : Option Addr} {n c : Nat} (hx : evE E x = some (.int .i64 a)) (hy : evE E y = some (.int .i64 b)) (hz : evE E z = some (.slice A n c)) : OpV Tryd.prog (.build 44 #[(0, x), (1, y), (2, z)]) t E w (val_part (a, b, (A, n, c))) w :=
  OpV.build (parts := [(0, x), (1, y), (2, z)]) (ps := [(0, .int .i64 a), (1, .int .i64 b), (2, .slice A n c)]) (by simp [evp, hx, hy, hz]) (by kernel_rfl)
section
variable {ops : Array Oper} {K : Env → World → Prop} {N d_ : Nat} {rest : List Oper} {pos : String} {after : Array Edge} {C : World → Prop} {R : Env → Prop}
theorem WL.fd_part0  (h_ : WL Tryd.prog ops K N ((d_, (.pointer (some ⟨bk, o, none⟩))) :: E) rest w) (hx : evE E x = some (.pointer (some ⟨bk, o, none⟩)) := by with_unfolding_all exact rfl) (hd_ : Nat.blt d_ N = true := by with_unfolding_all exact rfl) :
    WL Tryd.prog ops K N E (⟨some d_, .fieldAddr 44 x 0, t, pos, after, none⟩ :: rest) w := WL.step (OpV.fd_part0 hx) hd_ h_
theorem QL.fd_part0  (h_ : QL Tryd.prog ops C R N ((d_, (.pointer (some ⟨bk, o, none⟩))) :: E) rest) (hx : evE E x = some (.pointer (some ⟨bk, o, none⟩)) := by with_unfolding_all exact rfl) (hd_ : Nat.blt d_ N = true := by with_unfolding_all exact rfl) :
    QL Tryd.prog ops C R N E (⟨some d_, .fieldAddr 44 x 0, t, pos, after, none⟩ :: rest) := QL.step (fun _ _ => OpV.fd_part0 hx) hd_ h_
theorem RL.fd_part0  (h_ : R ((d_, (.pointer (some ⟨bk, o, none⟩))) :: E)) (hx : evE E x = some (.pointer (some ⟨bk, o, none⟩)) := by with_unfolding_all exact rfl) (hd_ : Nat.blt d_ N = true := by with_unfolding_all exact rfl) :
    RL Tryd.prog ops C R N E ⟨some d_, .fieldAddr 44 x 0, t, pos, after, none⟩ := RL.step (fun _ _ => OpV.fd_part0 hx) hd_ h_
theorem WL.fd_part1  (h_ : WL Tryd.prog ops K N ((d_, (.pointer (some ⟨bk, o + 1, none⟩))) :: E) rest w) (hx : evE E x = some (.pointer (some ⟨bk, o, none⟩)) := by with_unfolding_all exact rfl) (hd_ : Nat.blt d_ N = true := by with_unfolding_all exact rfl) :
    WL Tryd.prog ops K N E (⟨some d_, .fieldAddr 44 x 1, t, pos, after, none⟩ :: rest) w := WL.step (OpV.fd_part1 hx) hd_ h_
theorem QL.fd_part1  (h_ : QL Tryd.prog ops C R N ((d_, (.pointer (some ⟨bk, o + 1, none⟩))) :: E) rest) (hx : evE E x = some (.pointer (some ⟨bk, o, none⟩)) := by with_unfolding_all exact rfl) (hd_ : Nat.blt d_ N = true := by with_unfolding_all exact rfl) :
    QL Tryd.prog ops C R N E (⟨some d_, .fieldAddr 44 x 1, t, pos, after, none⟩ :: rest) := QL.step (fun _ _ => OpV.fd_part1 hx) hd_ h_
theorem RL.fd_part1  (h_ : R ((d_, (.pointer (some ⟨bk, o + 1, none⟩))) :: E)) (hx : evE E x = some (.pointer (some ⟨bk, o, none⟩)) := by with_unfolding_all exact rfl) (hd_ : Nat.blt d_ N = true := by with_unfolding_all exact rfl) :
    RL Tryd.prog ops C R N E ⟨some d_, .fieldAddr 44 x 1, t, pos, after, none⟩ := RL.step (fun _ _ => OpV.fd_part1 hx) hd_ h_
theorem WL.fd_part2  (h_ : WL Tryd.prog ops K N ((d_, (.pointer (some ⟨bk, o + 2, none⟩))) :: E) rest w) (hx : evE E x = some (.pointer (some ⟨bk, o, none⟩)) := by with_unfolding_all exact rfl) (hd_ : Nat.blt d_ N = true := by with_unfolding_all exact rfl) :
    WL Tryd.prog ops K N E (⟨some d_, .fieldAddr 44 x 2, t, pos, after, none⟩ :: rest) w := WL.step (OpV.fd_part2 hx) hd_ h_
theorem QL.fd_part2  (h_ : QL Tryd.prog ops C R N ((d_, (.pointer (some ⟨bk, o + 2, none⟩))) :: E) rest) (hx : evE E x = some (.pointer (some ⟨bk, o, none⟩)) := by with_unfolding_all exact rfl) (hd_ : Nat.blt d_ N = true := by with_unfolding_all exact rfl) :
    QL Tryd.prog ops C R N E (⟨some d_, .fieldAddr 44 x 2, t, pos, after, none⟩ :: rest) := QL.step (fun _ _ => OpV.fd_part2 hx) hd_ h_
theorem RL.fd_part2  (h_ : R ((d_, (.pointer (some ⟨bk, o + 2, none⟩))) :: E)) (hx : evE E x = some (.pointer (some ⟨bk, o, none⟩)) := by with_unfolding_all exact rfl) (hd_ : Nat.blt d_ N = true := by with_unfolding_all exact rfl) :
    RL Tryd.prog ops C R N E ⟨some d_, .fieldAddr 44 x 2, t, pos, after, none⟩ := RL.step (fun _ _ => OpV.fd_part2 hx) hd_ h_
theorem WL.mk3_part {A : Option Addr} {n c : Nat} (h_ : WL Tryd.prog ops K N ((d_, (val_part (a, b, (A, n, c)))) :: E) rest w) (hx : evE E x = some (.int .i64 a) := by with_unfolding_all exact rfl) (hy : evE E y = some (.int .i64 b) := by with_unfolding_all exact rfl) (hz : evE E z = some (.slice A n c) := by with_unfolding_all exact rfl) (hd_ : Nat.blt d_ N = true := by with_unfolding_all exact rfl) :
    WL Tryd.prog ops K N E (⟨some d_, .build 44 #[(0, x), (1, y), (2, z)], t, pos, after, none⟩ :: rest) w := WL.step (OpV.mk3_part hx hy hz) hd_ h_
theorem QL.mk3_part {A : Option Addr} {n c : Nat} (h_ : QL Tryd.prog ops C R N ((d_, (val_part (a, b, (A, n, c)))) :: E) rest) (hx : evE E x = some (.int .i64 a) := by with_unfolding_all exact rfl) (hy : evE E y = some (.int .i64 b) := by with_unfolding_all exact rfl) (hz : evE E z = some (.slice A n c) := by with_unfolding_all exact rfl) (hd_ : Nat.blt d_ N = true := by with_unfolding_all exact rfl) :
    QL Tryd.prog ops C R N E (⟨some d_, .build 44 #[(0, x), (1, y), (2, z)], t, pos, after, none⟩ :: rest) := QL.step (fun _ _ => OpV.mk3_part hx hy hz) hd_ h_
theorem RL.mk3_part {A : Option Addr} {n c : Nat} (h_ : R ((d_, (val_part (a, b, (A, n, c)))) :: E)) (hx : evE E x = some (.int .i64 a) := by with_unfolding_all exact rfl) (hy : evE E y = some (.int .i64 b) := by with_unfolding_all exact rfl) (hz : evE E z = some (.slice A n c) := by with_unfolding_all exact rfl) (hd_ : Nat.blt d_ N = true := by with_unfolding_all exact rfl) :
    RL Tryd.prog ops C R N E ⟨some d_, .build 44 #[(0, x), (1, y), (2, z)], t, pos, after, none⟩ := RL.step (fun _ _ => OpV.mk3_part hx hy hz) hd_ h_
end
end
section
variable {ops : Array Oper} {K : Env → World → Prop} {R : Env → Prop} {N : Nat} {E : Env} {rest : List Oper} {w : World} {t : TypeId} {pos : String} {after : Array Edge} {d : Nat} {x : Operand} {g : Nat} {te : TypeId} {y : El_part}
theorem WL.ldT_part (h : WL Tryd.prog ops K N ((d, .agg (enc_part y).toArray) :: E) rest w) (hx : evE E x = some (.pointer (some ⟨g, 0, none⟩)) := by with_unfolding_all exact rfl) (hb : Bk w g te (enc_part y) := by assumption) (hd : Nat.blt d N = true := by with_unfolding_all exact rfl) : WL Tryd.prog ops K N E (⟨some d, .load 44 x, t, pos, after, none⟩ :: rest) w := WL.step (OpV.loadK (cs := enc_part y) tyT_part hx (enc_len_part y) (fun j u hu => by rw [Nat.zero_add]; exact hb.cell hu)) hd h
theorem QL.ldT_part (h : QL Tryd.prog ops (fun w' => Below w.heap.size w w') R N ((d, .agg (enc_part y).toArray) :: E) rest) (hx : evE E x = some (.pointer (some ⟨g, 0, none⟩)) := by with_unfolding_all exact rfl) (hb : Bk w g te (enc_part y) := by assumption) (hd : Nat.blt d N = true := by with_unfolding_all exact rfl) : QL Tryd.prog ops (fun w' => Below w.heap.size w w') R N E (⟨some d, .load 44 x, t, pos, after, none⟩ :: rest) := QL.step (fun _ hw => (OpV.loadK (cs := enc_part y) tyT_part hx (enc_len_part y) (fun j u hu => by rw [Nat.zero_add]; exact (hb.below hw).cell hu))) hd h
theorem RL.ldT_partB (h : R ((d, .agg (enc_part y).toArray) :: E)) (hx : evE E x = some (.pointer (some ⟨g, 0, none⟩)) := by with_unfolding_all exact rfl) (hb : Bk w g te (enc_part y) := by assumption) (hd : Nat.blt d N = true := by with_unfolding_all exact rfl) : RL Tryd.prog ops (fun w' => Below w.heap.size w w') R N E ⟨some d, .load 44 x, t, pos, after, none⟩ := RL.step (fun _ hw => (OpV.loadK (cs := enc_part y) tyT_part hx (enc_len_part y) (fun j u hu => by rw [Nat.zero_add]; exact (hb.below hw).cell hu))) hd h
theorem RL.ldT_partH (h : R ((d, .agg (enc_part y).toArray) :: E)) (hx : evE E x = some (.pointer (some ⟨g, 0, none⟩)) := by with_unfolding_all exact rfl) (hb : Bk w g te (enc_part y) := by assumption) (hd : Nat.blt d N = true := by with_unfolding_all exact rfl) : RL Tryd.prog ops (fun w' => w'.heap = w.heap) R N E ⟨some d, .load 44 x, t, pos, after, none⟩ := RL.step (fun _ hw => (OpV.loadK (cs := enc_part y) tyT_part hx (enc_len_part y) (fun j u hu => by rw [Nat.zero_add]; exact (hb.heap hw).cell hu))) hd h
end
section
variable {ops : Array Oper} {K : Env → World → Prop} {R : Env → Prop} {N : Nat} {E : Env} {rest : List Oper} {w : World} {t : TypeId} {pos : String} {after : Array Edge} {d : Nat} {x : Operand} {b o i n : Nat} {f : Nat → El_part}
theorem WL.ldE_part (h : WL Tryd.prog ops K N ((d, .agg (enc_part (f i)).toArray) :: E) rest w) (hx : evE E x = some (.pointer (some ⟨b, o + i * 3, none⟩)) := by with_unfolding_all exact rfl) (hr : RowOf enc_part 3 w (some ⟨b, o, none⟩) n f := by first | assumption | exact OwnS.toRow (by assumption)) (hi : i < n := by omega) (hd : Nat.blt d N = true := by with_unfolding_all exact rfl) : WL Tryd.prog ops K N E (⟨some d, .load 44 x, t, pos, after, none⟩ :: rest) w := WL.step (OpV.loadK (cs := enc_part (f i)) tyT_part hx (enc_len_part _) (hr.get hi)) hd h
theorem QL.ldE_part (h : QL Tryd.prog ops (fun w' => Below w.heap.size w w') R N ((d, .agg (enc_part (f i)).toArray) :: E) rest) (hx : evE E x = some (.pointer (some ⟨b, o + i * 3, none⟩)) := by with_unfolding_all exact rfl) (hr : RowOf enc_part 3 w (some ⟨b, o, none⟩) n f := by first | assumption | exact OwnS.toRow (by assumption)) (hi : i < n := by omega) (hd : Nat.blt d N = true := by with_unfolding_all exact rfl) : QL Tryd.prog ops (fun w' => Below w.heap.size w w') R N E (⟨some d, .load 44 x, t, pos, after, none⟩ :: rest) := QL.step (fun _ hw => (OpV.loadK (cs := enc_part (f i)) tyT_part hx (enc_len_part _) ((hr.below hw).get hi))) hd h
theorem RL.ldE_partB (h : R ((d, .agg (enc_part (f i)).toArray) :: E)) (hx : evE E x = some (.pointer (some ⟨b, o + i * 3, none⟩)) := by with_unfolding_all exact rfl) (hr : RowOf enc_part 3 w (some ⟨b, o, none⟩) n f := by first | assumption | exact OwnS.toRow (by assumption)) (hi : i < n := by omega) (hd : Nat.blt d N = true := by with_unfolding_all exact rfl) : RL Tryd.prog ops (fun w' => Below w.heap.size w w') R N E ⟨some d, .load 44 x, t, pos, after, none⟩ := RL.step (fun _ hw => (OpV.loadK (cs := enc_part (f i)) tyT_part hx (enc_len_part _) ((hr.below hw).get hi))) hd h
theorem RL.ldE_partH (h : R ((d, .agg (enc_part (f i)).toArray) :: E)) (hx : evE E x = some (.pointer (some ⟨b, o + i * 3, none⟩)) := by with_unfolding_all exact rfl) (hr : RowOf enc_part 3 w (some ⟨b, o, none⟩) n f := by first | assumption | exact OwnS.toRow (by assumption)) (hi : i < n := by omega) (hd : Nat.blt d N = true := by with_unfolding_all exact rfl) : RL Tryd.prog ops (fun w' => w'.heap = w.heap) R N E ⟨some d, .load 44 x, t, pos, after, none⟩ := RL.step (fun _ hw => (OpV.loadK (cs := enc_part (f i)) tyT_part hx (enc_len_part _) ((hr.heap hw).get hi))) hd h
end
section
variable {ops : Array Oper} {K : Env → World → Prop} {R : Env → Prop} {N : Nat} {E : Env} {rest : List Oper} {w : World} {t : TypeId} {pos : String} {after : Array Edge} {d : Nat} {x : Operand} {g j : Nat} {te : TypeId} {cs : List Value} {u : Value}
theorem WL.ldCS (h : WL Tryd.prog ops K N ((d, u) :: E) rest w) (hx : evE E x = some (.pointer (some ⟨g, j, none⟩)) := by with_unfolding_all exact rfl) (hb : Bk w g te cs := by assumption) (hu : cs[j]? = some u := by with_unfolding_all exact rfl) (hd : Nat.blt d N = true := by with_unfolding_all exact rfl) : WL Tryd.prog ops K N E (⟨some d, .load 22 x, t, pos, after, none⟩ :: rest) w := WL.step (OpV.load1 tyInts hx (hb.cell hu)) hd h
theorem QL.ldCS (h : QL Tryd.prog ops (fun w' => Below w.heap.size w w') R N ((d, u) :: E) rest) (hx : evE E x = some (.pointer (some ⟨g, j, none⟩)) := by with_unfolding_all exact rfl) (hb : Bk w g te cs := by assumption) (hu : cs[j]? = some u := by with_unfolding_all exact rfl) (hd : Nat.blt d N = true := by with_unfolding_all exact rfl) : QL Tryd.prog ops (fun w' => Below w.heap.size w w') R N E (⟨some d, .load 22 x, t, pos, after, none⟩ :: rest) := QL.step (fun _ hw => OpV.load1 tyInts hx ((hb.below hw).cell hu)) hd h
theorem RL.ldCSB (h : R ((d, u) :: E)) (hx : evE E x = some (.pointer (some ⟨g, j, none⟩)) := by with_unfolding_all exact rfl) (hb : Bk w g te cs := by assumption) (hu : cs[j]? = some u := by with_unfolding_all exact rfl) (hd : Nat.blt d N = true := by with_unfolding_all exact rfl) : RL Tryd.prog ops (fun w' => Below w.heap.size w w') R N E ⟨some d, .load 22 x, t, pos, after, none⟩ := RL.step (fun _ hw => OpV.load1 tyInts hx ((hb.below hw).cell hu)) hd h
theorem RL.ldCSH (h : R ((d, u) :: E)) (hx : evE E x = some (.pointer (some ⟨g, j, none⟩)) := by with_unfolding_all exact rfl) (hb : Bk w g te cs := by assumption) (hu : cs[j]? = some u := by with_unfolding_all exact rfl) (hd : Nat.blt d N = true := by with_unfolding_all exact rfl) : RL Tryd.prog ops (fun w' => w'.heap = w.heap) R N E ⟨some d, .load 22 x, t, pos, after, none⟩ := RL.step (fun _ hw => OpV.load1 tyInts hx ((hb.heap hw).cell hu)) hd h
end
end Rk
