/- Trees as rows of two cells, a rank and a slice of items; append of a make to nothing. -/
import Derived.Test.YtagochiomonmhaaDoorCell
import Derived.Test.YtagochiomonmhaaDoorOwnO
import Derived.Test.YtagochiomonmhaaDoorExI
import Derived.Test.YtagochiomonmhaaDoorLit
import Derived.Test.YtagochiomonmhaaDoorItV
import Derived.Test.YtagochiomonmhaaDoorBinP
import Derived.Lib.AppendZeros
namespace Rk
open Go Go.RowKit Go.Proofs
section
variable {P : Program} {ops : Array Oper} {K : Env → World → Prop} {N d : Nat} {E : Env} {w : World} {rest : List Oper} {st tn e : TypeId} {agg : Bool} {k bytes : Nat} {z : Value} {t : TypeId} {pos : String} {after : Array Edge} {s x : Operand}
theorem capOp {A : Option Addr} {n c : Nat} {rt : TypeId} (ht : P.underlying st = some (.slice e)) (hx : evE E x = some (.slice A n c)) :
    OpV P (.call { callee := .builtin .cap, args := #[x], argTypes := #[st] }) rt E w (.int .i64 c) w := fun ρ hρ _ _ _ _ => by
  simp [execOp, resolve, hρ _ _ hx, go_sem, invoke, builtin, Builtin.cap_, run_underlying ht, goInt]
/-- append(nil, make([]T, n)...) -/
theorem WL.growNil {α : Type} (enc : α → List Value) (f : Nat → α) {kn kq : IntKind} {n : Nat} (ht : P.underlying st = some (.slice e)) (htn : P.underlying tn = some (.int kn)) (ty : Ty P e agg k bytes z) (hk0 : 0 < k) (hd : Nat.blt d N = true)
    (hs : evE E s = some (.slice none 0 0)) (hx : evE E x = some (.int kq (n : Int))) (h0 : 0 < n) (hn : n ≤ maxLen) (hb : n * bytes ≤ 281474976710656)
    (h : ∀ w' cap, n ≤ cap → OwnS enc k e w' w.heap.size w.heap.size 0 cap f → w.grownBy w' none → WL P ops K N ((d, .slice (some ⟨w.heap.size, 0, none⟩) n cap) :: E) rest w') :
    WL P ops K N E (⟨some d, .call { callee := .builtin .append, args := #[s, x], argTypes := #[st, tn] }, t, pos, after, none⟩ :: rest) w := by
  obtain ⟨i, hi, hz, hsz, hbb⟩ := ty.info
  have hr := Go.Lib.run_append_nil_zeros (P := P) w st tn t e i z kq kn ht htn hi hz n h0 (by rw [hsz]; exact hk0) (by unfold maxLen at hn; omega) (by rw [hbb]; exact hb)
  have hge := grownCap_ge w n 0 e
  refine WL.step (v := .slice (some ⟨w.heap.size, 0, none⟩) n (grownCap w n 0 e)) (fun ρ hρ _ _ _ _ => ?_) hd (h (w.drew.alloc (.cells (Builtin.zeroCells z.cells n ++ Builtin.zeroCells z.cells (grownCap w n 0 e - n)) e)) (grownCap w n 0 e) hge ?_ ⟨rfl, rfl, rfl, by simp, fun k hk _ => Go.heap_alloc_old w.drew _ hk⟩)
  · simp [execOp, resolve, hρ _ _ hs, hρ _ _ hx, invoke, builtin, hr]
  · refine ⟨Nat.le_refl _, Nat.zero_le _, grownCap_le_maxLen w n 0 e hn, _, heap_alloc_new' w.drew _ _, ?_, fun i hi => absurd hi (by omega)⟩
    have hzs := ty.zsz
    rw [Array.length_toList, Array.size_append, size_zeroCells, size_zeroCells, hzs, ← Nat.add_mul]
    congr 1
    omega
end
abbrev BTr := Int × (Option Addr × Nat) × List It
/-- a tree's items, as a slice -/
def trS (t : BTr) : Value := .slice t.2.1.1 t.2.2.length t.2.1.2
def trC (t : BTr) : List Value := [.int .i64 t.1, trS t]
theorem trC_len (t : BTr) : (trC t).length = 2 := rfl
theorem trC_one (t : BTr) : ∀ u ∈ trC t, u.oneCell' = true := by simp [trC, trS, Value.oneCell']
abbrev trV (t : BTr) : Value := .agg (trC t).toArray
def bt (t : BTr) : Bn.BT := (t.1, t.2.2)
/-- the items of trees can be read -/
def OkT (w : World) (ts : List BTr) : Prop := ∀ t ∈ ts, RowOf itC 2 w t.2.1.1 t.2.2.length (lf t.2.2) ∧ t.2.2.length ≤ t.2.1.2
/-- the items of trees lie apart from a block -/
def ApT (g : Nat) (ts : List BTr) : Prop := ∀ t ∈ ts, ∀ p, t.2.1.1 = some p → 0 < t.2.2.length → p.block ≠ g
section
variable {w w' : World} {ts us : List BTr} {g : Nat} {row : Option Nat}
theorem OkT.below (h : OkT w ts) (hb : Below w.heap.size w w') : OkT w' ts := fun t ht => ⟨(h t ht).1.below hb, (h t ht).2⟩
theorem OkT.lt (h : OkT w ts) : ∀ t ∈ ts, ∀ p, t.2.1.1 = some p → 0 < t.2.2.length → p.block < w.heap.size := fun t ht p hp h0 => by
  obtain ⟨b, o, e, hb, _⟩ := (h t ht).1 h0
  rw [e] at hp; injection hp with hp; subst hp
  exact hb
theorem OkT.ap (h : OkT w ts) (hg : w.heap.size ≤ g) : ApT g ts := fun t ht p hp h0 e => by
  have := h.lt t ht p hp h0
  omega
theorem OkT.keep (h : OkT w ts) (hg : w.grownBy w' row) (ha : ∀ g, row = some g → ApT g ts) : OkT w' ts := fun t ht => ⟨fun h0 => by
  obtain ⟨b, o, e, _⟩ := (h t ht).1 h0
  exact (h t ht).1.grown hg (fun p hp e2 => ha _ e2 t ht p hp h0 rfl) h0, (h t ht).2⟩
theorem OkT.sub (h : OkT w ts) (hs : ∀ t ∈ us, t ∈ ts) : OkT w us := fun t ht => h t (hs t ht)
theorem ApT.sub (h : ApT g ts) (hs : ∀ t ∈ us, t ∈ ts) : ApT g us := fun t ht => h t (hs t ht)
theorem OkT.app (h : OkT w ts) (h' : OkT w us) : OkT w (ts ++ us) := fun t ht => by
  rcases List.mem_append.1 ht with ht | ht
  · exact h t ht
  · exact h' t ht
theorem ApT.app (h : ApT g ts) (h' : ApT g us) : ApT g (ts ++ us) := fun t ht => by
  rcases List.mem_append.1 ht with ht | ht
  · exact h t ht
  · exact h' t ht
theorem OkT.nil (w : World) : OkT w [] := fun t ht => by cases ht
theorem ApT.nil (g : Nat) : ApT g [] := fun t ht => by cases ht
theorem OkT.one {t : BTr} (h : RowOf itC 2 w t.2.1.1 t.2.2.length (lf t.2.2)) (hc : t.2.2.length ≤ t.2.1.2) : OkT w [t] := fun u hu => by simp at hu; subst hu; exact ⟨h, hc⟩
end
theorem unTrs : Tryd.prog.underlying 22 = some (.slice 37) := by kernel_rfl
theorem unTr : Tryd.prog.underlying 37 = some (.struct (Tryd.prog.fieldsOf 37)) := by kernel_rfl
theorem tyTr : Ty Tryd.prog 37 true 2 32 (.agg #[.int .i64 0, .slice none 0 0]) := Ty.mk' (by kernel_rfl) (fun _ => by kernel_rfl) rfl
theorem tyIts : Ty Tryd.prog 35 false 1 24 (.slice none 0 0) := Ty.mk' (by kernel_rfl) (fun _ => by kernel_rfl) rfl
theorem tyTrs : Ty Tryd.prog 22 false 1 24 (.slice none 0 0) := Ty.mk' (by kernel_rfl) (fun _ => by kernel_rfl) rfl
theorem b0 : ((Tryd.prog.fieldsOf 37)[0]?).map (fun f => (f.offset, f.type)) = some (0, 3) := by kernel_rfl
theorem b1 : ((Tryd.prog.fieldsOf 37)[1]?).map (fun f => (f.offset, f.type)) = some (1, 35) := by kernel_rfl
theorem unIss : Tryd.prog.underlying 51 = some (.slice 35) := by kernel_rfl
theorem unTss : Tryd.prog.underlying 62 = some (.slice 22) := by kernel_rfl
theorem unI64 : Tryd.prog.underlying 3 = some (.int .i64) := by kernel_rfl
/-- slices in a row -/
abbrev SlI := (Option Addr × Nat) × List It
abbrev SlT := (Option Addr × Nat) × List BTr
def slV {α : Type} (s : (Option Addr × Nat) × List α) : Value := .slice s.1.1 s.2.length s.1.2
def slC {α : Type} (s : (Option Addr × Nat) × List α) : List Value := [slV s]
theorem slC_len {α : Type} (s : (Option Addr × Nat) × List α) : (slC s).length = 1 := rfl
section
variable {E : Env} {w : World} {t : TypeId} {x y : Operand} {bk o n c j i : Nat} {a : Int} {A : Option Addr}
theorem OpV.st_b0 (hx : evE E x = some (.pointer (some ⟨bk, o, none⟩))) : OpV Tryd.prog (.fieldAddr 37 x 0) t E w (.pointer (some ⟨bk, o, none⟩)) w := OpV.fieldAddr (off := 0) unTr b0 tyInt (by omega) hx
theorem OpV.st_b1 (hx : evE E x = some (.pointer (some ⟨bk, o, none⟩))) : OpV Tryd.prog (.fieldAddr 37 x 1) t E w (.pointer (some ⟨bk, o + 1, none⟩)) w := OpV.fieldAddr unTr b1 tyIts (by omega) hx
theorem OpV.elLen_b (hx : evE E x = some (.slice A n c)) {rt : TypeId} : OpV Tryd.prog (.call { callee := .builtin .len, args := #[x], argTypes := #[22] }) rt E w (.int .i64 n) w := OpV.len_slice unTrs hx
theorem OpV.elLen_bi (hx : evE E x = some (.slice A n c)) {rt : TypeId} : OpV Tryd.prog (.call { callee := .builtin .len, args := #[x], argTypes := #[51] }) rt E w (.int .i64 n) w := OpV.len_slice unIss hx
theorem OpV.elLen_bt (hx : evE E x = some (.slice A n c)) {rt : TypeId} : OpV Tryd.prog (.call { callee := .builtin .len, args := #[x], argTypes := #[62] }) rt E w (.int .i64 n) w := OpV.len_slice unTss hx
theorem OpV.elAddrN_b (hx : evE E x = some (.slice (some ⟨bk, o, none⟩) n c)) (hi : evE E y = some (.int .i64 (j : Int))) (hn : j < n) :
    OpV Tryd.prog (.indexAddr 22 x y) t E w (.pointer (some ⟨bk, o + j * 2, none⟩)) w := OpV.indexAddr unTrs tyTr.size hx hi (by omega) (by omega)
theorem OpV.elAddr0_b (hx : evE E x = some (.slice (some ⟨bk, o, none⟩) n c)) (hn : 0 < n) :
    OpV Tryd.prog (.indexAddr 22 x (.const (.int .i64 0))) t E w (.pointer (some ⟨bk, o + 0 * 2, none⟩)) w := OpV.indexAddr (j := 0) unTrs tyTr.size hx rfl (by omega) (by omega)
theorem OpV.elAddr0_b1 (hx : evE E x = some (.slice (some ⟨bk, o, none⟩) n c)) (hn : 1 < n) :
    OpV Tryd.prog (.indexAddr 22 x (.const (.int .i64 1))) t E w (.pointer (some ⟨bk, o + 1 * 2, none⟩)) w := OpV.indexAddr (j := 1) unTrs tyTr.size hx rfl (by omega) (by omega)
theorem OpV.elAddr0_b2 (hx : evE E x = some (.slice (some ⟨bk, o, none⟩) n c)) (hn : 2 < n) :
    OpV Tryd.prog (.indexAddr 22 x (.const (.int .i64 2))) t E w (.pointer (some ⟨bk, o + 2 * 2, none⟩)) w := OpV.indexAddr (j := 2) unTrs tyTr.size hx rfl (by omega) (by omega)
theorem OpV.elAddr0_i (hx : evE E x = some (.slice (some ⟨bk, o, none⟩) n c)) (hn : 0 < n) :
    OpV Tryd.prog (.indexAddr 35 x (.const (.int .i64 0))) t E w (.pointer (some ⟨bk, o + 0 * 2, none⟩)) w := OpV.indexAddr (j := 0) unItems tyItem.size hx rfl (by omega) (by omega)
theorem OpV.rowAddrN_bi (hx : evE E x = some (.slice (some ⟨bk, o, none⟩) n c)) (hi : evE E y = some (.int .i64 (j : Int))) (hn : j < n) :
    OpV Tryd.prog (.indexAddr 51 x y) t E w (.pointer (some ⟨bk, o + j * 1, none⟩)) w := OpV.indexAddr unIss tyIts.size hx hi (by omega) (by omega)
theorem OpV.rowAddrN_bt (hx : evE E x = some (.slice (some ⟨bk, o, none⟩) n c)) (hi : evE E y = some (.int .i64 (j : Int))) (hn : j < n) :
    OpV Tryd.prog (.indexAddr 62 x y) t E w (.pointer (some ⟨bk, o + j * 1, none⟩)) w := OpV.indexAddr unTss tyTrs.size hx hi (by omega) (by omega)
theorem OpV.mk2_b (hx : evE E x = some (.int .i64 a)) (hy : evE E y = some (.slice A n c)) : OpV Tryd.prog (.build 37 #[(0, x), (1, y)]) t E w (.agg #[.int .i64 a, .slice A n c]) w :=
  OpV.build (parts := [(0, x), (1, y)]) (ps := [(0, .int .i64 a), (1, .slice A n c)]) (by simp [evp, hx, hy]) (by kernel_rfl)
theorem OpV.fd_b (hx : evE E x = some (.slice A n c)) : OpV Tryd.prog (.build 37 #[(1, x)]) t E w (.agg #[.int .i64 0, .slice A n c]) w :=
  OpV.build (parts := [(1, x)]) (ps := [(1, .slice A n c)]) (by simp [evp, hx]) (by kernel_rfl)
section
variable {ops : Array Oper} {K : Env → World → Prop} {N d_ : Nat} {rest : List Oper} {pos : String} {after : Array Edge} {C : World → Prop} {R : Env → Prop}
theorem WL.st_b0  (h_ : WL Tryd.prog ops K N ((d_, (.pointer (some ⟨bk, o, none⟩))) :: E) rest w) (hx : evE E x = some (.pointer (some ⟨bk, o, none⟩)) := by with_unfolding_all exact rfl) (hd_ : Nat.blt d_ N = true := by with_unfolding_all exact rfl) :
    WL Tryd.prog ops K N E (⟨some d_, .fieldAddr 37 x 0, t, pos, after, none⟩ :: rest) w := WL.step (OpV.st_b0 hx) hd_ h_
theorem QL.st_b0  (h_ : QL Tryd.prog ops C R N ((d_, (.pointer (some ⟨bk, o, none⟩))) :: E) rest) (hx : evE E x = some (.pointer (some ⟨bk, o, none⟩)) := by with_unfolding_all exact rfl) (hd_ : Nat.blt d_ N = true := by with_unfolding_all exact rfl) :
    QL Tryd.prog ops C R N E (⟨some d_, .fieldAddr 37 x 0, t, pos, after, none⟩ :: rest) := QL.step (fun _ _ => OpV.st_b0 hx) hd_ h_
theorem RL.st_b0  (h_ : R ((d_, (.pointer (some ⟨bk, o, none⟩))) :: E)) (hx : evE E x = some (.pointer (some ⟨bk, o, none⟩)) := by with_unfolding_all exact rfl) (hd_ : Nat.blt d_ N = true := by with_unfolding_all exact rfl) :
    RL Tryd.prog ops C R N E ⟨some d_, .fieldAddr 37 x 0, t, pos, after, none⟩ := RL.step (fun _ _ => OpV.st_b0 hx) hd_ h_
theorem WL.st_b1  (h_ : WL Tryd.prog ops K N ((d_, (.pointer (some ⟨bk, o + 1, none⟩))) :: E) rest w) (hx : evE E x = some (.pointer (some ⟨bk, o, none⟩)) := by with_unfolding_all exact rfl) (hd_ : Nat.blt d_ N = true := by with_unfolding_all exact rfl) :
    WL Tryd.prog ops K N E (⟨some d_, .fieldAddr 37 x 1, t, pos, after, none⟩ :: rest) w := WL.step (OpV.st_b1 hx) hd_ h_
theorem QL.st_b1  (h_ : QL Tryd.prog ops C R N ((d_, (.pointer (some ⟨bk, o + 1, none⟩))) :: E) rest) (hx : evE E x = some (.pointer (some ⟨bk, o, none⟩)) := by with_unfolding_all exact rfl) (hd_ : Nat.blt d_ N = true := by with_unfolding_all exact rfl) :
    QL Tryd.prog ops C R N E (⟨some d_, .fieldAddr 37 x 1, t, pos, after, none⟩ :: rest) := QL.step (fun _ _ => OpV.st_b1 hx) hd_ h_
theorem RL.st_b1  (h_ : R ((d_, (.pointer (some ⟨bk, o + 1, none⟩))) :: E)) (hx : evE E x = some (.pointer (some ⟨bk, o, none⟩)) := by with_unfolding_all exact rfl) (hd_ : Nat.blt d_ N = true := by with_unfolding_all exact rfl) :
    RL Tryd.prog ops C R N E ⟨some d_, .fieldAddr 37 x 1, t, pos, after, none⟩ := RL.step (fun _ _ => OpV.st_b1 hx) hd_ h_
theorem WL.elLen_b {rt : TypeId} (h_ : WL Tryd.prog ops K N ((d_, (.int .i64 n)) :: E) rest w) (hx : evE E x = some (.slice A n c) := by with_unfolding_all exact rfl) (hd_ : Nat.blt d_ N = true := by with_unfolding_all exact rfl) :
    WL Tryd.prog ops K N E (⟨some d_, .call { callee := .builtin .len, args := #[x], argTypes := #[22] }, rt, pos, after, none⟩ :: rest) w := WL.step (OpV.elLen_b hx) hd_ h_
theorem QL.elLen_b {rt : TypeId} (h_ : QL Tryd.prog ops C R N ((d_, (.int .i64 n)) :: E) rest) (hx : evE E x = some (.slice A n c) := by with_unfolding_all exact rfl) (hd_ : Nat.blt d_ N = true := by with_unfolding_all exact rfl) :
    QL Tryd.prog ops C R N E (⟨some d_, .call { callee := .builtin .len, args := #[x], argTypes := #[22] }, rt, pos, after, none⟩ :: rest) := QL.step (fun _ _ => OpV.elLen_b hx) hd_ h_
theorem RL.elLen_b {rt : TypeId} (h_ : R ((d_, (.int .i64 n)) :: E)) (hx : evE E x = some (.slice A n c) := by with_unfolding_all exact rfl) (hd_ : Nat.blt d_ N = true := by with_unfolding_all exact rfl) :
    RL Tryd.prog ops C R N E ⟨some d_, .call { callee := .builtin .len, args := #[x], argTypes := #[22] }, rt, pos, after, none⟩ := RL.step (fun _ _ => OpV.elLen_b hx) hd_ h_
theorem WL.elLen_bi {rt : TypeId} (h_ : WL Tryd.prog ops K N ((d_, (.int .i64 n)) :: E) rest w) (hx : evE E x = some (.slice A n c) := by with_unfolding_all exact rfl) (hd_ : Nat.blt d_ N = true := by with_unfolding_all exact rfl) :
    WL Tryd.prog ops K N E (⟨some d_, .call { callee := .builtin .len, args := #[x], argTypes := #[51] }, rt, pos, after, none⟩ :: rest) w := WL.step (OpV.elLen_bi hx) hd_ h_
theorem QL.elLen_bi {rt : TypeId} (h_ : QL Tryd.prog ops C R N ((d_, (.int .i64 n)) :: E) rest) (hx : evE E x = some (.slice A n c) := by with_unfolding_all exact rfl) (hd_ : Nat.blt d_ N = true := by with_unfolding_all exact rfl) :
    QL Tryd.prog ops C R N E (⟨some d_, .call { callee := .builtin .len, args := #[x], argTypes := #[51] }, rt, pos, after, none⟩ :: rest) := QL.step (fun _ _ => OpV.elLen_bi hx) hd_ h_
theorem RL.elLen_bi {rt : TypeId} (h_ : R ((d_, (.int .i64 n)) :: E)) (hx : evE E x = some (.slice A n c) := by with_unfolding_all exact rfl) (hd_ : Nat.blt d_ N = true := by with_unfolding_all exact rfl) :
    RL Tryd.prog ops C R N E ⟨some d_, .call { callee := .builtin .len, args := #[x], argTypes := #[51] }, rt, pos, after, none⟩ := RL.step (fun _ _ => OpV.elLen_bi hx) hd_ h_
theorem WL.elLen_bt {rt : TypeId} (h_ : WL Tryd.prog ops K N ((d_, (.int .i64 n)) :: E) rest w) (hx : evE E x = some (.slice A n c) := by with_unfolding_all exact rfl) (hd_ : Nat.blt d_ N = true := by with_unfolding_all exact rfl) :
    WL Tryd.prog ops K N E (⟨some d_, .call { callee := .builtin .len, args := #[x], argTypes := #[62] }, rt, pos, after, none⟩ :: rest) w := WL.step (OpV.elLen_bt hx) hd_ h_
theorem QL.elLen_bt {rt : TypeId} (h_ : QL Tryd.prog ops C R N ((d_, (.int .i64 n)) :: E) rest) (hx : evE E x = some (.slice A n c) := by with_unfolding_all exact rfl) (hd_ : Nat.blt d_ N = true := by with_unfolding_all exact rfl) :
    QL Tryd.prog ops C R N E (⟨some d_, .call { callee := .builtin .len, args := #[x], argTypes := #[62] }, rt, pos, after, none⟩ :: rest) := QL.step (fun _ _ => OpV.elLen_bt hx) hd_ h_
theorem RL.elLen_bt {rt : TypeId} (h_ : R ((d_, (.int .i64 n)) :: E)) (hx : evE E x = some (.slice A n c) := by with_unfolding_all exact rfl) (hd_ : Nat.blt d_ N = true := by with_unfolding_all exact rfl) :
    RL Tryd.prog ops C R N E ⟨some d_, .call { callee := .builtin .len, args := #[x], argTypes := #[62] }, rt, pos, after, none⟩ := RL.step (fun _ _ => OpV.elLen_bt hx) hd_ h_
theorem WL.elAddrN_b  (h_ : WL Tryd.prog ops K N ((d_, (.pointer (some ⟨bk, o + j * 2, none⟩))) :: E) rest w) (hx : evE E x = some (.slice (some ⟨bk, o, none⟩) n c) := by with_unfolding_all exact rfl) (hi : evE E y = some (.int .i64 (j : Int)) := by with_unfolding_all exact rfl) (hn : j < n := by omega) (hd_ : Nat.blt d_ N = true := by with_unfolding_all exact rfl) :
    WL Tryd.prog ops K N E (⟨some d_, .indexAddr 22 x y, t, pos, after, none⟩ :: rest) w := WL.step (OpV.elAddrN_b hx hi hn) hd_ h_
theorem QL.elAddrN_b  (h_ : QL Tryd.prog ops C R N ((d_, (.pointer (some ⟨bk, o + j * 2, none⟩))) :: E) rest) (hx : evE E x = some (.slice (some ⟨bk, o, none⟩) n c) := by with_unfolding_all exact rfl) (hi : evE E y = some (.int .i64 (j : Int)) := by with_unfolding_all exact rfl) (hn : j < n := by omega) (hd_ : Nat.blt d_ N = true := by with_unfolding_all exact rfl) :
    QL Tryd.prog ops C R N E (⟨some d_, .indexAddr 22 x y, t, pos, after, none⟩ :: rest) := QL.step (fun _ _ => OpV.elAddrN_b hx hi hn) hd_ h_
theorem RL.elAddrN_b  (h_ : R ((d_, (.pointer (some ⟨bk, o + j * 2, none⟩))) :: E)) (hx : evE E x = some (.slice (some ⟨bk, o, none⟩) n c) := by with_unfolding_all exact rfl) (hi : evE E y = some (.int .i64 (j : Int)) := by with_unfolding_all exact rfl) (hn : j < n := by omega) (hd_ : Nat.blt d_ N = true := by with_unfolding_all exact rfl) :
    RL Tryd.prog ops C R N E ⟨some d_, .indexAddr 22 x y, t, pos, after, none⟩ := RL.step (fun _ _ => OpV.elAddrN_b hx hi hn) hd_ h_
theorem WL.elAddr0_b  (h_ : WL Tryd.prog ops K N ((d_, (.pointer (some ⟨bk, o + 0 * 2, none⟩))) :: E) rest w) (hx : evE E x = some (.slice (some ⟨bk, o, none⟩) n c) := by with_unfolding_all exact rfl) (hn : 0 < n := by omega) (hd_ : Nat.blt d_ N = true := by with_unfolding_all exact rfl) :
    WL Tryd.prog ops K N E (⟨some d_, .indexAddr 22 x (.const (.int .i64 0)), t, pos, after, none⟩ :: rest) w := WL.step (OpV.elAddr0_b hx hn) hd_ h_
theorem QL.elAddr0_b  (h_ : QL Tryd.prog ops C R N ((d_, (.pointer (some ⟨bk, o + 0 * 2, none⟩))) :: E) rest) (hx : evE E x = some (.slice (some ⟨bk, o, none⟩) n c) := by with_unfolding_all exact rfl) (hn : 0 < n := by omega) (hd_ : Nat.blt d_ N = true := by with_unfolding_all exact rfl) :
    QL Tryd.prog ops C R N E (⟨some d_, .indexAddr 22 x (.const (.int .i64 0)), t, pos, after, none⟩ :: rest) := QL.step (fun _ _ => OpV.elAddr0_b hx hn) hd_ h_
theorem RL.elAddr0_b  (h_ : R ((d_, (.pointer (some ⟨bk, o + 0 * 2, none⟩))) :: E)) (hx : evE E x = some (.slice (some ⟨bk, o, none⟩) n c) := by with_unfolding_all exact rfl) (hn : 0 < n := by omega) (hd_ : Nat.blt d_ N = true := by with_unfolding_all exact rfl) :
    RL Tryd.prog ops C R N E ⟨some d_, .indexAddr 22 x (.const (.int .i64 0)), t, pos, after, none⟩ := RL.step (fun _ _ => OpV.elAddr0_b hx hn) hd_ h_
theorem WL.elAddr0_b1  (h_ : WL Tryd.prog ops K N ((d_, (.pointer (some ⟨bk, o + 1 * 2, none⟩))) :: E) rest w) (hx : evE E x = some (.slice (some ⟨bk, o, none⟩) n c) := by with_unfolding_all exact rfl) (hn : 1 < n := by omega) (hd_ : Nat.blt d_ N = true := by with_unfolding_all exact rfl) :
    WL Tryd.prog ops K N E (⟨some d_, .indexAddr 22 x (.const (.int .i64 1)), t, pos, after, none⟩ :: rest) w := WL.step (OpV.elAddr0_b1 hx hn) hd_ h_
theorem QL.elAddr0_b1  (h_ : QL Tryd.prog ops C R N ((d_, (.pointer (some ⟨bk, o + 1 * 2, none⟩))) :: E) rest) (hx : evE E x = some (.slice (some ⟨bk, o, none⟩) n c) := by with_unfolding_all exact rfl) (hn : 1 < n := by omega) (hd_ : Nat.blt d_ N = true := by with_unfolding_all exact rfl) :
    QL Tryd.prog ops C R N E (⟨some d_, .indexAddr 22 x (.const (.int .i64 1)), t, pos, after, none⟩ :: rest) := QL.step (fun _ _ => OpV.elAddr0_b1 hx hn) hd_ h_
theorem RL.elAddr0_b1  (h_ : R ((d_, (.pointer (some ⟨bk, o + 1 * 2, none⟩))) :: E)) (hx : evE E x = some (.slice (some ⟨bk, o, none⟩) n c) := by with_unfolding_all exact rfl) (hn : 1 < n := by omega) (hd_ : Nat.blt d_ N = true := by with_unfolding_all exact rfl) :
    RL Tryd.prog ops C R N E ⟨some d_, .indexAddr 22 x (.const (.int .i64 1)), t, pos, after, none⟩ := RL.step (fun _ _ => OpV.elAddr0_b1 hx hn) hd_ h_
theorem WL.elAddr0_b2  (h_ : WL Tryd.prog ops K N ((d_, (.pointer (some ⟨bk, o + 2 * 2, none⟩))) :: E) rest w) (hx : evE E x = some (.slice (some ⟨bk, o, none⟩) n c) := by with_unfolding_all exact rfl) (hn : 2 < n := by omega) (hd_ : Nat.blt d_ N = true := by with_unfolding_all exact rfl) :
    WL Tryd.prog ops K N E (⟨some d_, .indexAddr 22 x (.const (.int .i64 2)), t, pos, after, none⟩ :: rest) w := WL.step (OpV.elAddr0_b2 hx hn) hd_ h_
theorem QL.elAddr0_b2  (h_ : QL Tryd.prog ops C R N ((d_, (.pointer (some ⟨bk, o + 2 * 2, none⟩))) :: E) rest) (hx : evE E x = some (.slice (some ⟨bk, o, none⟩) n c) := by with_unfolding_all exact rfl) (hn : 2 < n := by omega) (hd_ : Nat.blt d_ N = true := by with_unfolding_all exact rfl) :
    QL Tryd.prog ops C R N E (⟨some d_, .indexAddr 22 x (.const (.int .i64 2)), t, pos, after, none⟩ :: rest) := QL.step (fun _ _ => OpV.elAddr0_b2 hx hn) hd_ h_
theorem RL.elAddr0_b2  (h_ : R ((d_, (.pointer (some ⟨bk, o + 2 * 2, none⟩))) :: E)) (hx : evE E x = some (.slice (some ⟨bk, o, none⟩) n c) := by with_unfolding_all exact rfl) (hn : 2 < n := by omega) (hd_ : Nat.blt d_ N = true := by with_unfolding_all exact rfl) :
    RL Tryd.prog ops C R N E ⟨some d_, .indexAddr 22 x (.const (.int .i64 2)), t, pos, after, none⟩ := RL.step (fun _ _ => OpV.elAddr0_b2 hx hn) hd_ h_
theorem WL.elAddr0_i  (h_ : WL Tryd.prog ops K N ((d_, (.pointer (some ⟨bk, o + 0 * 2, none⟩))) :: E) rest w) (hx : evE E x = some (.slice (some ⟨bk, o, none⟩) n c) := by with_unfolding_all exact rfl) (hn : 0 < n := by omega) (hd_ : Nat.blt d_ N = true := by with_unfolding_all exact rfl) :
    WL Tryd.prog ops K N E (⟨some d_, .indexAddr 35 x (.const (.int .i64 0)), t, pos, after, none⟩ :: rest) w := WL.step (OpV.elAddr0_i hx hn) hd_ h_
theorem QL.elAddr0_i  (h_ : QL Tryd.prog ops C R N ((d_, (.pointer (some ⟨bk, o + 0 * 2, none⟩))) :: E) rest) (hx : evE E x = some (.slice (some ⟨bk, o, none⟩) n c) := by with_unfolding_all exact rfl) (hn : 0 < n := by omega) (hd_ : Nat.blt d_ N = true := by with_unfolding_all exact rfl) :
    QL Tryd.prog ops C R N E (⟨some d_, .indexAddr 35 x (.const (.int .i64 0)), t, pos, after, none⟩ :: rest) := QL.step (fun _ _ => OpV.elAddr0_i hx hn) hd_ h_
theorem RL.elAddr0_i  (h_ : R ((d_, (.pointer (some ⟨bk, o + 0 * 2, none⟩))) :: E)) (hx : evE E x = some (.slice (some ⟨bk, o, none⟩) n c) := by with_unfolding_all exact rfl) (hn : 0 < n := by omega) (hd_ : Nat.blt d_ N = true := by with_unfolding_all exact rfl) :
    RL Tryd.prog ops C R N E ⟨some d_, .indexAddr 35 x (.const (.int .i64 0)), t, pos, after, none⟩ := RL.step (fun _ _ => OpV.elAddr0_i hx hn) hd_ h_
theorem WL.rowAddrN_bi  (h_ : WL Tryd.prog ops K N ((d_, (.pointer (some ⟨bk, o + j * 1, none⟩))) :: E) rest w) (hx : evE E x = some (.slice (some ⟨bk, o, none⟩) n c) := by with_unfolding_all exact rfl) (hi : evE E y = some (.int .i64 (j : Int)) := by with_unfolding_all exact rfl) (hn : j < n := by omega) (hd_ : Nat.blt d_ N = true := by with_unfolding_all exact rfl) :
    WL Tryd.prog ops K N E (⟨some d_, .indexAddr 51 x y, t, pos, after, none⟩ :: rest) w := WL.step (OpV.rowAddrN_bi hx hi hn) hd_ h_
theorem QL.rowAddrN_bi  (h_ : QL Tryd.prog ops C R N ((d_, (.pointer (some ⟨bk, o + j * 1, none⟩))) :: E) rest) (hx : evE E x = some (.slice (some ⟨bk, o, none⟩) n c) := by with_unfolding_all exact rfl) (hi : evE E y = some (.int .i64 (j : Int)) := by with_unfolding_all exact rfl) (hn : j < n := by omega) (hd_ : Nat.blt d_ N = true := by with_unfolding_all exact rfl) :
    QL Tryd.prog ops C R N E (⟨some d_, .indexAddr 51 x y, t, pos, after, none⟩ :: rest) := QL.step (fun _ _ => OpV.rowAddrN_bi hx hi hn) hd_ h_
theorem RL.rowAddrN_bi  (h_ : R ((d_, (.pointer (some ⟨bk, o + j * 1, none⟩))) :: E)) (hx : evE E x = some (.slice (some ⟨bk, o, none⟩) n c) := by with_unfolding_all exact rfl) (hi : evE E y = some (.int .i64 (j : Int)) := by with_unfolding_all exact rfl) (hn : j < n := by omega) (hd_ : Nat.blt d_ N = true := by with_unfolding_all exact rfl) :
    RL Tryd.prog ops C R N E ⟨some d_, .indexAddr 51 x y, t, pos, after, none⟩ := RL.step (fun _ _ => OpV.rowAddrN_bi hx hi hn) hd_ h_
theorem WL.rowAddrN_bt  (h_ : WL Tryd.prog ops K N ((d_, (.pointer (some ⟨bk, o + j * 1, none⟩))) :: E) rest w) (hx : evE E x = some (.slice (some ⟨bk, o, none⟩) n c) := by with_unfolding_all exact rfl) (hi : evE E y = some (.int .i64 (j : Int)) := by with_unfolding_all exact rfl) (hn : j < n := by omega) (hd_ : Nat.blt d_ N = true := by with_unfolding_all exact rfl) :
    WL Tryd.prog ops K N E (⟨some d_, .indexAddr 62 x y, t, pos, after, none⟩ :: rest) w := WL.step (OpV.rowAddrN_bt hx hi hn) hd_ h_
theorem QL.rowAddrN_bt  (h_ : QL Tryd.prog ops C R N ((d_, (.pointer (some ⟨bk, o + j * 1, none⟩))) :: E) rest) (hx : evE E x = some (.slice (some ⟨bk, o, none⟩) n c) := by with_unfolding_all exact rfl) (hi : evE E y = some (.int .i64 (j : Int)) := by with_unfolding_all exact rfl) (hn : j < n := by omega) (hd_ : Nat.blt d_ N = true := by with_unfolding_all exact rfl) :
    QL Tryd.prog ops C R N E (⟨some d_, .indexAddr 62 x y, t, pos, after, none⟩ :: rest) := QL.step (fun _ _ => OpV.rowAddrN_bt hx hi hn) hd_ h_
theorem RL.rowAddrN_bt  (h_ : R ((d_, (.pointer (some ⟨bk, o + j * 1, none⟩))) :: E)) (hx : evE E x = some (.slice (some ⟨bk, o, none⟩) n c) := by with_unfolding_all exact rfl) (hi : evE E y = some (.int .i64 (j : Int)) := by with_unfolding_all exact rfl) (hn : j < n := by omega) (hd_ : Nat.blt d_ N = true := by with_unfolding_all exact rfl) :
    RL Tryd.prog ops C R N E ⟨some d_, .indexAddr 62 x y, t, pos, after, none⟩ := RL.step (fun _ _ => OpV.rowAddrN_bt hx hi hn) hd_ h_
theorem WL.mk2_b  (h_ : WL Tryd.prog ops K N ((d_, (.agg #[.int .i64 a, .slice A n c])) :: E) rest w) (hx : evE E x = some (.int .i64 a) := by with_unfolding_all exact rfl) (hy : evE E y = some (.slice A n c) := by with_unfolding_all exact rfl) (hd_ : Nat.blt d_ N = true := by with_unfolding_all exact rfl) :
    WL Tryd.prog ops K N E (⟨some d_, .build 37 #[(0, x), (1, y)], t, pos, after, none⟩ :: rest) w := WL.step (OpV.mk2_b hx hy) hd_ h_
theorem QL.mk2_b  (h_ : QL Tryd.prog ops C R N ((d_, (.agg #[.int .i64 a, .slice A n c])) :: E) rest) (hx : evE E x = some (.int .i64 a) := by with_unfolding_all exact rfl) (hy : evE E y = some (.slice A n c) := by with_unfolding_all exact rfl) (hd_ : Nat.blt d_ N = true := by with_unfolding_all exact rfl) :
    QL Tryd.prog ops C R N E (⟨some d_, .build 37 #[(0, x), (1, y)], t, pos, after, none⟩ :: rest) := QL.step (fun _ _ => OpV.mk2_b hx hy) hd_ h_
theorem RL.mk2_b  (h_ : R ((d_, (.agg #[.int .i64 a, .slice A n c])) :: E)) (hx : evE E x = some (.int .i64 a) := by with_unfolding_all exact rfl) (hy : evE E y = some (.slice A n c) := by with_unfolding_all exact rfl) (hd_ : Nat.blt d_ N = true := by with_unfolding_all exact rfl) :
    RL Tryd.prog ops C R N E ⟨some d_, .build 37 #[(0, x), (1, y)], t, pos, after, none⟩ := RL.step (fun _ _ => OpV.mk2_b hx hy) hd_ h_
theorem WL.fd_b  (h_ : WL Tryd.prog ops K N ((d_, (.agg #[.int .i64 0, .slice A n c])) :: E) rest w) (hx : evE E x = some (.slice A n c) := by with_unfolding_all exact rfl) (hd_ : Nat.blt d_ N = true := by with_unfolding_all exact rfl) :
    WL Tryd.prog ops K N E (⟨some d_, .build 37 #[(1, x)], t, pos, after, none⟩ :: rest) w := WL.step (OpV.fd_b hx) hd_ h_
theorem QL.fd_b  (h_ : QL Tryd.prog ops C R N ((d_, (.agg #[.int .i64 0, .slice A n c])) :: E) rest) (hx : evE E x = some (.slice A n c) := by with_unfolding_all exact rfl) (hd_ : Nat.blt d_ N = true := by with_unfolding_all exact rfl) :
    QL Tryd.prog ops C R N E (⟨some d_, .build 37 #[(1, x)], t, pos, after, none⟩ :: rest) := QL.step (fun _ _ => OpV.fd_b hx) hd_ h_
theorem RL.fd_b  (h_ : R ((d_, (.agg #[.int .i64 0, .slice A n c])) :: E)) (hx : evE E x = some (.slice A n c) := by with_unfolding_all exact rfl) (hd_ : Nat.blt d_ N = true := by with_unfolding_all exact rfl) :
    RL Tryd.prog ops C R N E ⟨some d_, .build 37 #[(1, x)], t, pos, after, none⟩ := RL.step (fun _ _ => OpV.fd_b hx) hd_ h_
end
end
section
variable {ops : Array Oper} {K : Env → World → Prop} {R : Env → Prop} {N : Nat} {E : Env} {rest : List Oper} {w : World} {t : TypeId} {pos : String} {after : Array Edge} {d : Nat} {x : Operand} {g j : Nat} {te : TypeId} {cs : List Value} {u : Value}
theorem WL.ldIts (h : WL Tryd.prog ops K N ((d, u) :: E) rest w) (hx : evE E x = some (.pointer (some ⟨g, j, none⟩)) := by with_unfolding_all exact rfl) (hb : Bk w g te cs := by assumption) (hu : cs[j]? = some u := by with_unfolding_all exact rfl) (hd : Nat.blt d N = true := by with_unfolding_all exact rfl) : WL Tryd.prog ops K N E (⟨some d, .load 35 x, t, pos, after, none⟩ :: rest) w := WL.step (OpV.load1 tyIts hx (hb.cell hu)) hd h
theorem QL.ldIts (h : QL Tryd.prog ops (fun w' => Below w.heap.size w w') R N ((d, u) :: E) rest) (hx : evE E x = some (.pointer (some ⟨g, j, none⟩)) := by with_unfolding_all exact rfl) (hb : Bk w g te cs := by assumption) (hu : cs[j]? = some u := by with_unfolding_all exact rfl) (hd : Nat.blt d N = true := by with_unfolding_all exact rfl) : QL Tryd.prog ops (fun w' => Below w.heap.size w w') R N E (⟨some d, .load 35 x, t, pos, after, none⟩ :: rest) := QL.step (fun _ hw => OpV.load1 tyIts hx ((hb.below hw).cell hu)) hd h
theorem RL.ldItsB (h : R ((d, u) :: E)) (hx : evE E x = some (.pointer (some ⟨g, j, none⟩)) := by with_unfolding_all exact rfl) (hb : Bk w g te cs := by assumption) (hu : cs[j]? = some u := by with_unfolding_all exact rfl) (hd : Nat.blt d N = true := by with_unfolding_all exact rfl) : RL Tryd.prog ops (fun w' => Below w.heap.size w w') R N E ⟨some d, .load 35 x, t, pos, after, none⟩ := RL.step (fun _ hw => OpV.load1 tyIts hx ((hb.below hw).cell hu)) hd h
theorem RL.ldItsH (h : R ((d, u) :: E)) (hx : evE E x = some (.pointer (some ⟨g, j, none⟩)) := by with_unfolding_all exact rfl) (hb : Bk w g te cs := by assumption) (hu : cs[j]? = some u := by with_unfolding_all exact rfl) (hd : Nat.blt d N = true := by with_unfolding_all exact rfl) : RL Tryd.prog ops (fun w' => w'.heap = w.heap) R N E ⟨some d, .load 35 x, t, pos, after, none⟩ := RL.step (fun _ hw => OpV.load1 tyIts hx ((hb.heap hw).cell hu)) hd h
end
section
variable {ops : Array Oper} {K : Env → World → Prop} {R : Env → Prop} {N : Nat} {E : Env} {rest : List Oper} {w : World} {t : TypeId} {pos : String} {after : Array Edge} {d : Nat} {x : Operand} {g j : Nat} {te : TypeId} {cs : List Value} {u : Value}
theorem WL.ldTrs (h : WL Tryd.prog ops K N ((d, u) :: E) rest w) (hx : evE E x = some (.pointer (some ⟨g, j, none⟩)) := by with_unfolding_all exact rfl) (hb : Bk w g te cs := by assumption) (hu : cs[j]? = some u := by with_unfolding_all exact rfl) (hd : Nat.blt d N = true := by with_unfolding_all exact rfl) : WL Tryd.prog ops K N E (⟨some d, .load 22 x, t, pos, after, none⟩ :: rest) w := WL.step (OpV.load1 tyTrs hx (hb.cell hu)) hd h
theorem QL.ldTrs (h : QL Tryd.prog ops (fun w' => Below w.heap.size w w') R N ((d, u) :: E) rest) (hx : evE E x = some (.pointer (some ⟨g, j, none⟩)) := by with_unfolding_all exact rfl) (hb : Bk w g te cs := by assumption) (hu : cs[j]? = some u := by with_unfolding_all exact rfl) (hd : Nat.blt d N = true := by with_unfolding_all exact rfl) : QL Tryd.prog ops (fun w' => Below w.heap.size w w') R N E (⟨some d, .load 22 x, t, pos, after, none⟩ :: rest) := QL.step (fun _ hw => OpV.load1 tyTrs hx ((hb.below hw).cell hu)) hd h
theorem RL.ldTrsB (h : R ((d, u) :: E)) (hx : evE E x = some (.pointer (some ⟨g, j, none⟩)) := by with_unfolding_all exact rfl) (hb : Bk w g te cs := by assumption) (hu : cs[j]? = some u := by with_unfolding_all exact rfl) (hd : Nat.blt d N = true := by with_unfolding_all exact rfl) : RL Tryd.prog ops (fun w' => Below w.heap.size w w') R N E ⟨some d, .load 22 x, t, pos, after, none⟩ := RL.step (fun _ hw => OpV.load1 tyTrs hx ((hb.below hw).cell hu)) hd h
theorem RL.ldTrsH (h : R ((d, u) :: E)) (hx : evE E x = some (.pointer (some ⟨g, j, none⟩)) := by with_unfolding_all exact rfl) (hb : Bk w g te cs := by assumption) (hu : cs[j]? = some u := by with_unfolding_all exact rfl) (hd : Nat.blt d N = true := by with_unfolding_all exact rfl) : RL Tryd.prog ops (fun w' => w'.heap = w.heap) R N E ⟨some d, .load 22 x, t, pos, after, none⟩ := RL.step (fun _ hw => OpV.load1 tyTrs hx ((hb.heap hw).cell hu)) hd h
end
section
variable {ops : Array Oper} {K : Env → World → Prop} {R : Env → Prop} {N : Nat} {E : Env} {rest : List Oper} {w : World} {t : TypeId} {pos : String} {after : Array Edge} {d : Nat} {x : Operand} {b o i n : Nat} {f : Nat → BTr}
theorem WL.ldTr (h : WL Tryd.prog ops K N ((d, .agg (trC (f i)).toArray) :: E) rest w) (hx : evE E x = some (.pointer (some ⟨b, o + i * 2, none⟩)) := by with_unfolding_all exact rfl) (hr : RowOf trC 2 w (some ⟨b, o, none⟩) n f := by first | assumption | exact OwnS.toRow (by assumption)) (hi : i < n := by omega) (hd : Nat.blt d N = true := by with_unfolding_all exact rfl) : WL Tryd.prog ops K N E (⟨some d, .load 37 x, t, pos, after, none⟩ :: rest) w := WL.step (OpV.loadK (cs := trC (f i)) tyTr hx (trC_len _) (hr.get hi)) hd h
theorem QL.ldTr (h : QL Tryd.prog ops (fun w' => Below w.heap.size w w') R N ((d, .agg (trC (f i)).toArray) :: E) rest) (hx : evE E x = some (.pointer (some ⟨b, o + i * 2, none⟩)) := by with_unfolding_all exact rfl) (hr : RowOf trC 2 w (some ⟨b, o, none⟩) n f := by first | assumption | exact OwnS.toRow (by assumption)) (hi : i < n := by omega) (hd : Nat.blt d N = true := by with_unfolding_all exact rfl) : QL Tryd.prog ops (fun w' => Below w.heap.size w w') R N E (⟨some d, .load 37 x, t, pos, after, none⟩ :: rest) := QL.step (fun _ hw => (OpV.loadK (cs := trC (f i)) tyTr hx (trC_len _) ((hr.below hw).get hi))) hd h
theorem RL.ldTrB (h : R ((d, .agg (trC (f i)).toArray) :: E)) (hx : evE E x = some (.pointer (some ⟨b, o + i * 2, none⟩)) := by with_unfolding_all exact rfl) (hr : RowOf trC 2 w (some ⟨b, o, none⟩) n f := by first | assumption | exact OwnS.toRow (by assumption)) (hi : i < n := by omega) (hd : Nat.blt d N = true := by with_unfolding_all exact rfl) : RL Tryd.prog ops (fun w' => Below w.heap.size w w') R N E ⟨some d, .load 37 x, t, pos, after, none⟩ := RL.step (fun _ hw => (OpV.loadK (cs := trC (f i)) tyTr hx (trC_len _) ((hr.below hw).get hi))) hd h
theorem RL.ldTrH (h : R ((d, .agg (trC (f i)).toArray) :: E)) (hx : evE E x = some (.pointer (some ⟨b, o + i * 2, none⟩)) := by with_unfolding_all exact rfl) (hr : RowOf trC 2 w (some ⟨b, o, none⟩) n f := by first | assumption | exact OwnS.toRow (by assumption)) (hi : i < n := by omega) (hd : Nat.blt d N = true := by with_unfolding_all exact rfl) : RL Tryd.prog ops (fun w' => w'.heap = w.heap) R N E ⟨some d, .load 37 x, t, pos, after, none⟩ := RL.step (fun _ hw => (OpV.loadK (cs := trC (f i)) tyTr hx (trC_len _) ((hr.heap hw).get hi))) hd h
end
section
variable {ops : Array Oper} {K : Env → World → Prop} {R : Env → Prop} {N : Nat} {E : Env} {rest : List Oper} {w : World} {t : TypeId} {pos : String} {after : Array Edge} {d : Nat} {x : Operand} {b o i n : Nat} {f : Nat → SlI}
theorem WL.ldSI (h : WL Tryd.prog ops K N ((d, slV (f i)) :: E) rest w) (hx : evE E x = some (.pointer (some ⟨b, o + i * 1, none⟩)) := by with_unfolding_all exact rfl) (hr : RowOf slC 1 w (some ⟨b, o, none⟩) n f := by first | assumption | exact OwnS.toRow (by assumption)) (hi : i < n := by omega) (hd : Nat.blt d N = true := by with_unfolding_all exact rfl) : WL Tryd.prog ops K N E (⟨some d, .load 35 x, t, pos, after, none⟩ :: rest) w := WL.step (OpV.load1 tyIts hx (hr.get hi 0 _ rfl)) hd h
theorem QL.ldSI (h : QL Tryd.prog ops (fun w' => Below w.heap.size w w') R N ((d, slV (f i)) :: E) rest) (hx : evE E x = some (.pointer (some ⟨b, o + i * 1, none⟩)) := by with_unfolding_all exact rfl) (hr : RowOf slC 1 w (some ⟨b, o, none⟩) n f := by first | assumption | exact OwnS.toRow (by assumption)) (hi : i < n := by omega) (hd : Nat.blt d N = true := by with_unfolding_all exact rfl) : QL Tryd.prog ops (fun w' => Below w.heap.size w w') R N E (⟨some d, .load 35 x, t, pos, after, none⟩ :: rest) := QL.step (fun _ hw => (OpV.load1 tyIts hx ((hr.below hw).get hi 0 _ rfl))) hd h
theorem RL.ldSIB (h : R ((d, slV (f i)) :: E)) (hx : evE E x = some (.pointer (some ⟨b, o + i * 1, none⟩)) := by with_unfolding_all exact rfl) (hr : RowOf slC 1 w (some ⟨b, o, none⟩) n f := by first | assumption | exact OwnS.toRow (by assumption)) (hi : i < n := by omega) (hd : Nat.blt d N = true := by with_unfolding_all exact rfl) : RL Tryd.prog ops (fun w' => Below w.heap.size w w') R N E ⟨some d, .load 35 x, t, pos, after, none⟩ := RL.step (fun _ hw => (OpV.load1 tyIts hx ((hr.below hw).get hi 0 _ rfl))) hd h
theorem RL.ldSIH (h : R ((d, slV (f i)) :: E)) (hx : evE E x = some (.pointer (some ⟨b, o + i * 1, none⟩)) := by with_unfolding_all exact rfl) (hr : RowOf slC 1 w (some ⟨b, o, none⟩) n f := by first | assumption | exact OwnS.toRow (by assumption)) (hi : i < n := by omega) (hd : Nat.blt d N = true := by with_unfolding_all exact rfl) : RL Tryd.prog ops (fun w' => w'.heap = w.heap) R N E ⟨some d, .load 35 x, t, pos, after, none⟩ := RL.step (fun _ hw => (OpV.load1 tyIts hx ((hr.heap hw).get hi 0 _ rfl))) hd h
end
section
variable {ops : Array Oper} {K : Env → World → Prop} {R : Env → Prop} {N : Nat} {E : Env} {rest : List Oper} {w : World} {t : TypeId} {pos : String} {after : Array Edge} {d : Nat} {x : Operand} {b o i n : Nat} {f : Nat → SlT}
theorem WL.ldST (h : WL Tryd.prog ops K N ((d, slV (f i)) :: E) rest w) (hx : evE E x = some (.pointer (some ⟨b, o + i * 1, none⟩)) := by with_unfolding_all exact rfl) (hr : RowOf slC 1 w (some ⟨b, o, none⟩) n f := by first | assumption | exact OwnS.toRow (by assumption)) (hi : i < n := by omega) (hd : Nat.blt d N = true := by with_unfolding_all exact rfl) : WL Tryd.prog ops K N E (⟨some d, .load 22 x, t, pos, after, none⟩ :: rest) w := WL.step (OpV.load1 tyTrs hx (hr.get hi 0 _ rfl)) hd h
theorem QL.ldST (h : QL Tryd.prog ops (fun w' => Below w.heap.size w w') R N ((d, slV (f i)) :: E) rest) (hx : evE E x = some (.pointer (some ⟨b, o + i * 1, none⟩)) := by with_unfolding_all exact rfl) (hr : RowOf slC 1 w (some ⟨b, o, none⟩) n f := by first | assumption | exact OwnS.toRow (by assumption)) (hi : i < n := by omega) (hd : Nat.blt d N = true := by with_unfolding_all exact rfl) : QL Tryd.prog ops (fun w' => Below w.heap.size w w') R N E (⟨some d, .load 22 x, t, pos, after, none⟩ :: rest) := QL.step (fun _ hw => (OpV.load1 tyTrs hx ((hr.below hw).get hi 0 _ rfl))) hd h
theorem RL.ldSTB (h : R ((d, slV (f i)) :: E)) (hx : evE E x = some (.pointer (some ⟨b, o + i * 1, none⟩)) := by with_unfolding_all exact rfl) (hr : RowOf slC 1 w (some ⟨b, o, none⟩) n f := by first | assumption | exact OwnS.toRow (by assumption)) (hi : i < n := by omega) (hd : Nat.blt d N = true := by with_unfolding_all exact rfl) : RL Tryd.prog ops (fun w' => Below w.heap.size w w') R N E ⟨some d, .load 22 x, t, pos, after, none⟩ := RL.step (fun _ hw => (OpV.load1 tyTrs hx ((hr.below hw).get hi 0 _ rfl))) hd h
theorem RL.ldSTH (h : R ((d, slV (f i)) :: E)) (hx : evE E x = some (.pointer (some ⟨b, o + i * 1, none⟩)) := by with_unfolding_all exact rfl) (hr : RowOf slC 1 w (some ⟨b, o, none⟩) n f := by first | assumption | exact OwnS.toRow (by assumption)) (hi : i < n := by omega) (hd : Nat.blt d N = true := by with_unfolding_all exact rfl) : RL Tryd.prog ops (fun w' => w'.heap = w.heap) R N E ⟨some d, .load 22 x, t, pos, after, none⟩ := RL.step (fun _ hw => (OpV.load1 tyTrs hx ((hr.heap hw).get hi 0 _ rfl))) hd h
end
end Rk
