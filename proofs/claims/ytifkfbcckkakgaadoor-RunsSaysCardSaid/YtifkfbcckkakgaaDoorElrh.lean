/- What the document's Runs holds, as the walk wants it: a run, a number. -/
import Derived.Test.YtifkfbcckkakgaaDoorElheld
import Derived.Test.YtifkfbcckkakgaaDoorStoC
namespace Rk
open Go Go.RowKit Go.Proofs
theorem tyT_rh : Ty Tryd.prog 81 true 2 16 z_held := Ty.mk' (by kernel_rfl) (fun _ => by kernel_rfl) rfl
theorem unT_rh : Tryd.prog.underlying 81 = some (.struct (Tryd.prog.fieldsOf 81)) := by kernel_rfl
theorem f0_rh : ((Tryd.prog.fieldsOf 81)[0]?).map (fun f => (f.offset, f.type)) = some (0, 3) := by kernel_rfl
theorem f1_rh : ((Tryd.prog.fieldsOf 81)[1]?).map (fun f => (f.offset, f.type)) = some (1, 3) := by kernel_rfl
theorem unS_rh : Tryd.prog.underlying 79 = some (.slice 81) := by kernel_rfl
theorem tyS_rh : Ty Tryd.prog 79 false 1 24 (.slice none 0 0) := Ty.mk' (by kernel_rfl) (fun _ => by kernel_rfl) rfl
section
variable {E : Env} {w : World} {t : TypeId} {x y : Operand} {bk o n c j : Nat} {a b : Int}
theorem OpV.fd_rh0 (hx : evE E x = some (.pointer (some ⟨bk, o, none⟩))) : OpV Tryd.prog (.fieldAddr 81 x 0) t E w (.pointer (some ⟨bk, o, none⟩)) w := OpV.fieldAddr (off := 0) unT_rh f0_rh tyInt (by omega) hx
theorem OpV.fd_rh1 (hx : evE E x = some (.pointer (some ⟨bk, o, none⟩))) : OpV Tryd.prog (.fieldAddr 81 x 1) t E w (.pointer (some ⟨bk, o + 1, none⟩)) w := OpV.fieldAddr unT_rh f1_rh tyInt (by omega) hx
theorem OpV.mk2_rh (hx : evE E x = some (.int .i64 a)) (hy : evE E y = some (.int .i64 b)) : OpV Tryd.prog (.build 81 #[(0, x), (1, y)]) t E w (val_held (a, b)) w :=
  OpV.build (parts := [(0, x), (1, y)]) (ps := [(0, .int .i64 a), (1, .int .i64 b)]) (by simp [evp, hx, hy]) (by kernel_rfl)
theorem OpV.elLen_rh {A : Option Addr} (hx : evE E x = some (.slice A n c)) {rt : TypeId} : OpV Tryd.prog (.call { callee := .builtin .len, args := #[x], argTypes := #[79] }) rt E w (.int .i64 n) w := OpV.len_slice unS_rh hx
theorem OpV.elAddrN_rh (hx : evE E x = some (.slice (some ⟨bk, o, none⟩) n c)) (hi : evE E y = some (.int .i64 (j : Int))) (hn : j < n) :
    OpV Tryd.prog (.indexAddr 79 x y) t E w (.pointer (some ⟨bk, o + j * 2, none⟩)) w := OpV.indexAddr unS_rh tyT_rh.size hx hi (by omega) (by omega)
theorem OpV.itemAddrM_rh (hx : evE E x = some (.slice (some ⟨bk, o, none⟩) n c)) (hi : evE E y = some (.int .i64 ((j : Int) - 1))) (hn : 0 < j ∧ j ≤ n) :
    OpV Tryd.prog (.indexAddr 79 x y) t E w (.pointer (some ⟨bk, o + (j - 1) * 2, none⟩)) w := by
  have := OpV.indexAddr (P := Tryd.prog) (t := t) (w := w) unS_rh tyT_rh.size hx hi (by omega) (by omega)
  rwa [show ((j : Int) - 1).toNat = j - 1 from by omega] at this
theorem OpV.elTo_rh {A : Option Addr} (hx : evE E x = some (.slice A n c)) (hh : evE E y = some (.int .i64 (j : Int))) (hc : j ≤ c) :
    OpV Tryd.prog (.slice 79 x none (some y) none) t E w (.slice A j c) w := by
  have := OpV.sliceTo (P := Tryd.prog) (t := t) (w := w) unS_rh tyT_rh hx hh (by omega) (by omega)
  rwa [Int.toNat_natCast] at this
section
variable {ops : Array Oper} {K : Env → World → Prop} {N d_ : Nat} {rest : List Oper} {pos : String} {after : Array Edge} {C : World → Prop} {R : Env → Prop}
theorem WL.fd_rh0  (h_ : WL Tryd.prog ops K N ((d_, (.pointer (some ⟨bk, o, none⟩))) :: E) rest w) (hx : evE E x = some (.pointer (some ⟨bk, o, none⟩)) := by with_unfolding_all exact rfl) (hd_ : Nat.blt d_ N = true := by with_unfolding_all exact rfl) :
    WL Tryd.prog ops K N E (⟨some d_, .fieldAddr 81 x 0, t, pos, after, none⟩ :: rest) w := WL.step (OpV.fd_rh0 hx) hd_ h_
theorem QL.fd_rh0  (h_ : QL Tryd.prog ops C R N ((d_, (.pointer (some ⟨bk, o, none⟩))) :: E) rest) (hx : evE E x = some (.pointer (some ⟨bk, o, none⟩)) := by with_unfolding_all exact rfl) (hd_ : Nat.blt d_ N = true := by with_unfolding_all exact rfl) :
    QL Tryd.prog ops C R N E (⟨some d_, .fieldAddr 81 x 0, t, pos, after, none⟩ :: rest) := QL.step (fun _ _ => OpV.fd_rh0 hx) hd_ h_
theorem RL.fd_rh0  (h_ : R ((d_, (.pointer (some ⟨bk, o, none⟩))) :: E)) (hx : evE E x = some (.pointer (some ⟨bk, o, none⟩)) := by with_unfolding_all exact rfl) (hd_ : Nat.blt d_ N = true := by with_unfolding_all exact rfl) :
    RL Tryd.prog ops C R N E ⟨some d_, .fieldAddr 81 x 0, t, pos, after, none⟩ := RL.step (fun _ _ => OpV.fd_rh0 hx) hd_ h_
theorem WL.fd_rh1  (h_ : WL Tryd.prog ops K N ((d_, (.pointer (some ⟨bk, o + 1, none⟩))) :: E) rest w) (hx : evE E x = some (.pointer (some ⟨bk, o, none⟩)) := by with_unfolding_all exact rfl) (hd_ : Nat.blt d_ N = true := by with_unfolding_all exact rfl) :
    WL Tryd.prog ops K N E (⟨some d_, .fieldAddr 81 x 1, t, pos, after, none⟩ :: rest) w := WL.step (OpV.fd_rh1 hx) hd_ h_
theorem QL.fd_rh1  (h_ : QL Tryd.prog ops C R N ((d_, (.pointer (some ⟨bk, o + 1, none⟩))) :: E) rest) (hx : evE E x = some (.pointer (some ⟨bk, o, none⟩)) := by with_unfolding_all exact rfl) (hd_ : Nat.blt d_ N = true := by with_unfolding_all exact rfl) :
    QL Tryd.prog ops C R N E (⟨some d_, .fieldAddr 81 x 1, t, pos, after, none⟩ :: rest) := QL.step (fun _ _ => OpV.fd_rh1 hx) hd_ h_
theorem RL.fd_rh1  (h_ : R ((d_, (.pointer (some ⟨bk, o + 1, none⟩))) :: E)) (hx : evE E x = some (.pointer (some ⟨bk, o, none⟩)) := by with_unfolding_all exact rfl) (hd_ : Nat.blt d_ N = true := by with_unfolding_all exact rfl) :
    RL Tryd.prog ops C R N E ⟨some d_, .fieldAddr 81 x 1, t, pos, after, none⟩ := RL.step (fun _ _ => OpV.fd_rh1 hx) hd_ h_
theorem WL.mk2_rh  (h_ : WL Tryd.prog ops K N ((d_, (val_held (a, b))) :: E) rest w) (hx : evE E x = some (.int .i64 a) := by with_unfolding_all exact rfl) (hy : evE E y = some (.int .i64 b) := by with_unfolding_all exact rfl) (hd_ : Nat.blt d_ N = true := by with_unfolding_all exact rfl) :
    WL Tryd.prog ops K N E (⟨some d_, .build 81 #[(0, x), (1, y)], t, pos, after, none⟩ :: rest) w := WL.step (OpV.mk2_rh hx hy) hd_ h_
theorem QL.mk2_rh  (h_ : QL Tryd.prog ops C R N ((d_, (val_held (a, b))) :: E) rest) (hx : evE E x = some (.int .i64 a) := by with_unfolding_all exact rfl) (hy : evE E y = some (.int .i64 b) := by with_unfolding_all exact rfl) (hd_ : Nat.blt d_ N = true := by with_unfolding_all exact rfl) :
    QL Tryd.prog ops C R N E (⟨some d_, .build 81 #[(0, x), (1, y)], t, pos, after, none⟩ :: rest) := QL.step (fun _ _ => OpV.mk2_rh hx hy) hd_ h_
theorem RL.mk2_rh  (h_ : R ((d_, (val_held (a, b))) :: E)) (hx : evE E x = some (.int .i64 a) := by with_unfolding_all exact rfl) (hy : evE E y = some (.int .i64 b) := by with_unfolding_all exact rfl) (hd_ : Nat.blt d_ N = true := by with_unfolding_all exact rfl) :
    RL Tryd.prog ops C R N E ⟨some d_, .build 81 #[(0, x), (1, y)], t, pos, after, none⟩ := RL.step (fun _ _ => OpV.mk2_rh hx hy) hd_ h_
theorem WL.elLen_rh {A : Option Addr} {rt : TypeId} (h_ : WL Tryd.prog ops K N ((d_, (.int .i64 n)) :: E) rest w) (hx : evE E x = some (.slice A n c) := by with_unfolding_all exact rfl) (hd_ : Nat.blt d_ N = true := by with_unfolding_all exact rfl) :
    WL Tryd.prog ops K N E (⟨some d_, .call { callee := .builtin .len, args := #[x], argTypes := #[79] }, rt, pos, after, none⟩ :: rest) w := WL.step (OpV.elLen_rh hx) hd_ h_
theorem QL.elLen_rh {A : Option Addr} {rt : TypeId} (h_ : QL Tryd.prog ops C R N ((d_, (.int .i64 n)) :: E) rest) (hx : evE E x = some (.slice A n c) := by with_unfolding_all exact rfl) (hd_ : Nat.blt d_ N = true := by with_unfolding_all exact rfl) :
    QL Tryd.prog ops C R N E (⟨some d_, .call { callee := .builtin .len, args := #[x], argTypes := #[79] }, rt, pos, after, none⟩ :: rest) := QL.step (fun _ _ => OpV.elLen_rh hx) hd_ h_
theorem RL.elLen_rh {A : Option Addr} {rt : TypeId} (h_ : R ((d_, (.int .i64 n)) :: E)) (hx : evE E x = some (.slice A n c) := by with_unfolding_all exact rfl) (hd_ : Nat.blt d_ N = true := by with_unfolding_all exact rfl) :
    RL Tryd.prog ops C R N E ⟨some d_, .call { callee := .builtin .len, args := #[x], argTypes := #[79] }, rt, pos, after, none⟩ := RL.step (fun _ _ => OpV.elLen_rh hx) hd_ h_
theorem WL.elAddrN_rh  (h_ : WL Tryd.prog ops K N ((d_, (.pointer (some ⟨bk, o + j * 2, none⟩))) :: E) rest w) (hx : evE E x = some (.slice (some ⟨bk, o, none⟩) n c) := by with_unfolding_all exact rfl) (hi : evE E y = some (.int .i64 (j : Int)) := by with_unfolding_all exact rfl) (hn : j < n := by omega) (hd_ : Nat.blt d_ N = true := by with_unfolding_all exact rfl) :
    WL Tryd.prog ops K N E (⟨some d_, .indexAddr 79 x y, t, pos, after, none⟩ :: rest) w := WL.step (OpV.elAddrN_rh hx hi hn) hd_ h_
theorem QL.elAddrN_rh  (h_ : QL Tryd.prog ops C R N ((d_, (.pointer (some ⟨bk, o + j * 2, none⟩))) :: E) rest) (hx : evE E x = some (.slice (some ⟨bk, o, none⟩) n c) := by with_unfolding_all exact rfl) (hi : evE E y = some (.int .i64 (j : Int)) := by with_unfolding_all exact rfl) (hn : j < n := by omega) (hd_ : Nat.blt d_ N = true := by with_unfolding_all exact rfl) :
    QL Tryd.prog ops C R N E (⟨some d_, .indexAddr 79 x y, t, pos, after, none⟩ :: rest) := QL.step (fun _ _ => OpV.elAddrN_rh hx hi hn) hd_ h_
theorem RL.elAddrN_rh  (h_ : R ((d_, (.pointer (some ⟨bk, o + j * 2, none⟩))) :: E)) (hx : evE E x = some (.slice (some ⟨bk, o, none⟩) n c) := by with_unfolding_all exact rfl) (hi : evE E y = some (.int .i64 (j : Int)) := by with_unfolding_all exact rfl) (hn : j < n := by omega) (hd_ : Nat.blt d_ N = true := by with_unfolding_all exact rfl) :
    RL Tryd.prog ops C R N E ⟨some d_, .indexAddr 79 x y, t, pos, after, none⟩ := RL.step (fun _ _ => OpV.elAddrN_rh hx hi hn) hd_ h_
theorem WL.itemAddrM_rh  (h_ : WL Tryd.prog ops K N ((d_, (.pointer (some ⟨bk, o + (j - 1) * 2, none⟩))) :: E) rest w) (hx : evE E x = some (.slice (some ⟨bk, o, none⟩) n c) := by with_unfolding_all exact rfl) (hi : evE E y = some (.int .i64 ((j : Int) - 1)) := by with_unfolding_all exact rfl) (hn : 0 < j ∧ j ≤ n := by omega) (hd_ : Nat.blt d_ N = true := by with_unfolding_all exact rfl) :
    WL Tryd.prog ops K N E (⟨some d_, .indexAddr 79 x y, t, pos, after, none⟩ :: rest) w := WL.step (OpV.itemAddrM_rh hx hi hn) hd_ h_
theorem QL.itemAddrM_rh  (h_ : QL Tryd.prog ops C R N ((d_, (.pointer (some ⟨bk, o + (j - 1) * 2, none⟩))) :: E) rest) (hx : evE E x = some (.slice (some ⟨bk, o, none⟩) n c) := by with_unfolding_all exact rfl) (hi : evE E y = some (.int .i64 ((j : Int) - 1)) := by with_unfolding_all exact rfl) (hn : 0 < j ∧ j ≤ n := by omega) (hd_ : Nat.blt d_ N = true := by with_unfolding_all exact rfl) :
    QL Tryd.prog ops C R N E (⟨some d_, .indexAddr 79 x y, t, pos, after, none⟩ :: rest) := QL.step (fun _ _ => OpV.itemAddrM_rh hx hi hn) hd_ h_
theorem RL.itemAddrM_rh  (h_ : R ((d_, (.pointer (some ⟨bk, o + (j - 1) * 2, none⟩))) :: E)) (hx : evE E x = some (.slice (some ⟨bk, o, none⟩) n c) := by with_unfolding_all exact rfl) (hi : evE E y = some (.int .i64 ((j : Int) - 1)) := by with_unfolding_all exact rfl) (hn : 0 < j ∧ j ≤ n := by omega) (hd_ : Nat.blt d_ N = true := by with_unfolding_all exact rfl) :
    RL Tryd.prog ops C R N E ⟨some d_, .indexAddr 79 x y, t, pos, after, none⟩ := RL.step (fun _ _ => OpV.itemAddrM_rh hx hi hn) hd_ h_
theorem WL.elTo_rh {A : Option Addr} (h_ : WL Tryd.prog ops K N ((d_, (.slice A j c)) :: E) rest w) (hx : evE E x = some (.slice A n c) := by with_unfolding_all exact rfl) (hh : evE E y = some (.int .i64 (j : Int)) := by with_unfolding_all exact rfl) (hc : j ≤ c := by omega) (hd_ : Nat.blt d_ N = true := by with_unfolding_all exact rfl) :
    WL Tryd.prog ops K N E (⟨some d_, .slice 79 x none (some y) none, t, pos, after, none⟩ :: rest) w := WL.step (OpV.elTo_rh hx hh hc) hd_ h_
theorem QL.elTo_rh {A : Option Addr} (h_ : QL Tryd.prog ops C R N ((d_, (.slice A j c)) :: E) rest) (hx : evE E x = some (.slice A n c) := by with_unfolding_all exact rfl) (hh : evE E y = some (.int .i64 (j : Int)) := by with_unfolding_all exact rfl) (hc : j ≤ c := by omega) (hd_ : Nat.blt d_ N = true := by with_unfolding_all exact rfl) :
    QL Tryd.prog ops C R N E (⟨some d_, .slice 79 x none (some y) none, t, pos, after, none⟩ :: rest) := QL.step (fun _ _ => OpV.elTo_rh hx hh hc) hd_ h_
theorem RL.elTo_rh {A : Option Addr} (h_ : R ((d_, (.slice A j c)) :: E)) (hx : evE E x = some (.slice A n c) := by with_unfolding_all exact rfl) (hh : evE E y = some (.int .i64 (j : Int)) := by with_unfolding_all exact rfl) (hc : j ≤ c := by omega) (hd_ : Nat.blt d_ N = true := by with_unfolding_all exact rfl) :
    RL Tryd.prog ops C R N E ⟨some d_, .slice 79 x none (some y) none, t, pos, after, none⟩ := RL.step (fun _ _ => OpV.elTo_rh hx hh hc) hd_ h_
end
end
section
variable {ops : Array Oper} {K : Env → World → Prop} {R : Env → Prop} {N : Nat} {E : Env} {rest : List Oper} {w : World} {t : TypeId} {pos : String} {after : Array Edge} {d : Nat} {x : Operand} {g : Nat} {te : TypeId} {y : El_held}
theorem WL.ldT_rh (h : WL Tryd.prog ops K N ((d, .agg (enc_held y).toArray) :: E) rest w) (hx : evE E x = some (.pointer (some ⟨g, 0, none⟩)) := by with_unfolding_all exact rfl) (hb : Bk w g te (enc_held y) := by assumption) (hd : Nat.blt d N = true := by with_unfolding_all exact rfl) : WL Tryd.prog ops K N E (⟨some d, .load 81 x, t, pos, after, none⟩ :: rest) w := WL.step (OpV.loadK (cs := enc_held y) tyT_rh hx (enc_len_held y) (fun j u hu => by rw [Nat.zero_add]; exact hb.cell hu)) hd h
theorem QL.ldT_rh (h : QL Tryd.prog ops (fun w' => Below w.heap.size w w') R N ((d, .agg (enc_held y).toArray) :: E) rest) (hx : evE E x = some (.pointer (some ⟨g, 0, none⟩)) := by with_unfolding_all exact rfl) (hb : Bk w g te (enc_held y) := by assumption) (hd : Nat.blt d N = true := by with_unfolding_all exact rfl) : QL Tryd.prog ops (fun w' => Below w.heap.size w w') R N E (⟨some d, .load 81 x, t, pos, after, none⟩ :: rest) := QL.step (fun _ hw => (OpV.loadK (cs := enc_held y) tyT_rh hx (enc_len_held y) (fun j u hu => by rw [Nat.zero_add]; exact (hb.below hw).cell hu))) hd h
theorem RL.ldT_rhB (h : R ((d, .agg (enc_held y).toArray) :: E)) (hx : evE E x = some (.pointer (some ⟨g, 0, none⟩)) := by with_unfolding_all exact rfl) (hb : Bk w g te (enc_held y) := by assumption) (hd : Nat.blt d N = true := by with_unfolding_all exact rfl) : RL Tryd.prog ops (fun w' => Below w.heap.size w w') R N E ⟨some d, .load 81 x, t, pos, after, none⟩ := RL.step (fun _ hw => (OpV.loadK (cs := enc_held y) tyT_rh hx (enc_len_held y) (fun j u hu => by rw [Nat.zero_add]; exact (hb.below hw).cell hu))) hd h
theorem RL.ldT_rhH (h : R ((d, .agg (enc_held y).toArray) :: E)) (hx : evE E x = some (.pointer (some ⟨g, 0, none⟩)) := by with_unfolding_all exact rfl) (hb : Bk w g te (enc_held y) := by assumption) (hd : Nat.blt d N = true := by with_unfolding_all exact rfl) : RL Tryd.prog ops (fun w' => w'.heap = w.heap) R N E ⟨some d, .load 81 x, t, pos, after, none⟩ := RL.step (fun _ hw => (OpV.loadK (cs := enc_held y) tyT_rh hx (enc_len_held y) (fun j u hu => by rw [Nat.zero_add]; exact (hb.heap hw).cell hu))) hd h
end
section
variable {ops : Array Oper} {K : Env → World → Prop} {R : Env → Prop} {N : Nat} {E : Env} {rest : List Oper} {w : World} {t : TypeId} {pos : String} {after : Array Edge} {d : Nat} {x : Operand} {b o i n : Nat} {f : Nat → El_held}
theorem WL.ldE_rh (h : WL Tryd.prog ops K N ((d, .agg (enc_held (f i)).toArray) :: E) rest w) (hx : evE E x = some (.pointer (some ⟨b, o + i * 2, none⟩)) := by with_unfolding_all exact rfl) (hr : RowOf enc_held 2 w (some ⟨b, o, none⟩) n f := by first | assumption | exact OwnS.toRow (by assumption)) (hi : i < n := by omega) (hd : Nat.blt d N = true := by with_unfolding_all exact rfl) : WL Tryd.prog ops K N E (⟨some d, .load 81 x, t, pos, after, none⟩ :: rest) w := WL.step (OpV.loadK (cs := enc_held (f i)) tyT_rh hx (enc_len_held _) (hr.get hi)) hd h
theorem QL.ldE_rh (h : QL Tryd.prog ops (fun w' => Below w.heap.size w w') R N ((d, .agg (enc_held (f i)).toArray) :: E) rest) (hx : evE E x = some (.pointer (some ⟨b, o + i * 2, none⟩)) := by with_unfolding_all exact rfl) (hr : RowOf enc_held 2 w (some ⟨b, o, none⟩) n f := by first | assumption | exact OwnS.toRow (by assumption)) (hi : i < n := by omega) (hd : Nat.blt d N = true := by with_unfolding_all exact rfl) : QL Tryd.prog ops (fun w' => Below w.heap.size w w') R N E (⟨some d, .load 81 x, t, pos, after, none⟩ :: rest) := QL.step (fun _ hw => (OpV.loadK (cs := enc_held (f i)) tyT_rh hx (enc_len_held _) ((hr.below hw).get hi))) hd h
theorem RL.ldE_rhB (h : R ((d, .agg (enc_held (f i)).toArray) :: E)) (hx : evE E x = some (.pointer (some ⟨b, o + i * 2, none⟩)) := by with_unfolding_all exact rfl) (hr : RowOf enc_held 2 w (some ⟨b, o, none⟩) n f := by first | assumption | exact OwnS.toRow (by assumption)) (hi : i < n := by omega) (hd : Nat.blt d N = true := by with_unfolding_all exact rfl) : RL Tryd.prog ops (fun w' => Below w.heap.size w w') R N E ⟨some d, .load 81 x, t, pos, after, none⟩ := RL.step (fun _ hw => (OpV.loadK (cs := enc_held (f i)) tyT_rh hx (enc_len_held _) ((hr.below hw).get hi))) hd h
theorem RL.ldE_rhH (h : R ((d, .agg (enc_held (f i)).toArray) :: E)) (hx : evE E x = some (.pointer (some ⟨b, o + i * 2, none⟩)) := by with_unfolding_all exact rfl) (hr : RowOf enc_held 2 w (some ⟨b, o, none⟩) n f := by first | assumption | exact OwnS.toRow (by assumption)) (hi : i < n := by omega) (hd : Nat.blt d N = true := by with_unfolding_all exact rfl) : RL Tryd.prog ops (fun w' => w'.heap = w.heap) R N E ⟨some d, .load 81 x, t, pos, after, none⟩ := RL.step (fun _ hw => (OpV.loadK (cs := enc_held (f i)) tyT_rh hx (enc_len_held _) ((hr.heap hw).get hi))) hd h
end
end Rk
