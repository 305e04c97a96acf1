/- The walk's own rules: what each kind of operation yields. -/
import Derived.Test.YthdiheblgmddhaaDoorReg
import Derived.Laws.Cover3
import Derived.Laws.Tables
namespace Rk
open Go Go.RowKit
section
variable {P : Program} {E : Env} {w : World} {t : TypeId} {x y i : Operand} {xt yt : TypeId} {v u : Value} {a b : Int} {k : IntKind}

theorem beq_dec (a b : Int) : (a == b) = decide (a = b) := by by_cases h : a = b <;> simp [h]
theorem OpV.move (hx : evE E x = some v) : OpV P (.move x) t E w v w := fun ρ hρ _ _ _ _ => by simp [execOp, hρ _ _ hx, pure, Sem.run]
theorem OpV.assign (hx : evE E x = some v) : OpV P (.assign x) t E w v w := fun ρ hρ _ _ _ _ => by simp [execOp, hρ _ _ hx, pure, Sem.run]
theorem OpV.pick_t {c : Operand} (hc : evE E c = some (.bool true)) (hx : evE E x = some v) : OpV P (.pick c x y) t E w v w := fun ρ hρ _ _ _ _ => by
  simp [execOp, hρ _ _ hc, hρ _ _ hx, asBool]
theorem OpV.pick_f {c : Operand} (hc : evE E c = some (.bool false)) (hy : evE E y = some v) : OpV P (.pick c x y) t E w v w := fun ρ hρ _ _ _ _ => by
  simp [execOp, hρ _ _ hc, hρ _ _ hy, asBool]

theorem OpV.lss (hx : evE E x = some (.int k a)) (hy : evE E y = some (.int k b)) : OpV P (.binOp .lss xt x y yt) t E w (.bool (decide (a < b))) w := fun ρ hρ _ _ _ _ => by
  simp [execOp, hρ _ _ hx, hρ _ _ hy, go_sem, eqGuard]
theorem OpV.leq (hx : evE E x = some (.int k a)) (hy : evE E y = some (.int k b)) : OpV P (.binOp .leq xt x y yt) t E w (.bool (decide (a ≤ b))) w := fun ρ hρ _ _ _ _ => by
  simp [execOp, hρ _ _ hx, hρ _ _ hy, go_sem, eqGuard]
theorem OpV.gtr (hx : evE E x = some (.int k a)) (hy : evE E y = some (.int k b)) : OpV P (.binOp .gtr xt x y yt) t E w (.bool (decide (b < a))) w := fun ρ hρ _ _ _ _ => by
  simp [execOp, hρ _ _ hx, hρ _ _ hy, go_sem, eqGuard]
theorem OpV.geq (hx : evE E x = some (.int k a)) (hy : evE E y = some (.int k b)) : OpV P (.binOp .geq xt x y yt) t E w (.bool (decide (b ≤ a))) w := fun ρ hρ _ _ _ _ => by
  simp [execOp, hρ _ _ hx, hρ _ _ hy, go_sem, eqGuard]
theorem OpV.eqlI (hx : evE E x = some (.int k a)) (hy : evE E y = some (.int k b)) : OpV P (.binOp .eql xt x y yt) t E w (.bool (decide (a = b))) w := fun ρ hρ _ _ _ _ => by
  simp [execOp, hρ _ _ hx, hρ _ _ hy, go_sem, eqGuard]; exact beq_dec _ _
theorem OpV.neqI (hx : evE E x = some (.int k a)) (hy : evE E y = some (.int k b)) : OpV P (.binOp .neq xt x y yt) t E w (.bool (decide (a ≠ b))) w := fun ρ hρ _ _ _ _ => by
  simp [execOp, hρ _ _ hx, hρ _ _ hy, go_sem, eqGuard, bne]; exact beq_dec _ _
theorem wrap_i64 {n : Int} (h : -9223372036854775808 ≤ n ∧ n ≤ 9223372036854775807) : IntKind.i64.wrap n = n := by rw [IntKind.wrap_i64]; omega
theorem OpV.add (hx : evE E x = some (.int .i64 a)) (hy : evE E y = some (.int .i64 b)) (h : -9223372036854775808 ≤ a + b ∧ a + b ≤ 9223372036854775807) : OpV P (.binOp .add xt x y yt) t E w (.int .i64 (a + b)) w := fun ρ hρ _ _ _ _ => by
  simp only [execOp, hρ _ _ hx, hρ _ _ hy, eqGuard, binOp, Op.intArith, wrap_i64 h]; simp [go_sem]
theorem OpV.sub (hx : evE E x = some (.int .i64 a)) (hy : evE E y = some (.int .i64 b)) (h : -9223372036854775808 ≤ a - b ∧ a - b ≤ 9223372036854775807) : OpV P (.binOp .sub xt x y yt) t E w (.int .i64 (a - b)) w := fun ρ hρ _ _ _ _ => by
  simp only [execOp, hρ _ _ hx, hρ _ _ hy, eqGuard, binOp, Op.intArith, wrap_i64 h]; simp [go_sem]
theorem OpV.mul (hx : evE E x = some (.int .i64 a)) (hy : evE E y = some (.int .i64 b)) (h : -9223372036854775808 ≤ a * b ∧ a * b ≤ 9223372036854775807) : OpV P (.binOp .mul xt x y yt) t E w (.int .i64 (a * b)) w := fun ρ hρ _ _ _ _ => by
  simp only [execOp, hρ _ _ hx, hρ _ _ hy, eqGuard, binOp, Op.intArith, wrap_i64 h]; simp [go_sem]
theorem OpV.quo (hx : evE E x = some (.int .i64 a)) (hy : evE E y = some (.int .i64 b)) (ha : 0 ≤ a ∧ a ≤ 9223372036854775807) (hb : 0 < b) : OpV P (.binOp .quo xt x y yt) t E w (.int .i64 (a / b)) w := fun ρ hρ _ _ _ _ => by
  have h1 : a.tdiv b = a / b := Int.tdiv_eq_ediv_of_nonneg ha.1
  have h2 : 0 ≤ a / b := Int.ediv_nonneg ha.1 (by omega)
  have h3 : a / b ≤ a := Int.ediv_le_self b ha.1
  have h4 : ¬ b = 0 := by omega
  simp only [execOp, hρ _ _ hx, hρ _ _ hy, eqGuard, binOp, Op.intDiv, if_neg h4, h1, wrap_i64 (show -9223372036854775808 ≤ a / b ∧ a / b ≤ 9223372036854775807 by omega)]; simp [go_sem]
theorem OpV.rem (hx : evE E x = some (.int .i64 a)) (hy : evE E y = some (.int .i64 b)) (ha : 0 ≤ a) (hb : 0 < b) : OpV P (.binOp .rem xt x y yt) t E w (.int .i64 (a % b)) w := fun ρ hρ _ _ _ _ => by
  have h1 : a.tmod b = a % b := Int.tmod_eq_emod_of_nonneg ha
  have h4 : ¬ b = 0 := by omega
  simp only [execOp, hρ _ _ hx, hρ _ _ hy, eqGuard, binOp, Op.intDiv, if_neg h4, h1]; simp [go_sem]
theorem OpV.not {b : Bool} (hx : evE E x = some (.bool b)) : OpV P (.unOp .not xt x) t E w (.bool !b) w := fun ρ hρ _ _ _ _ => by
  simp [execOp, hρ _ _ hx, go_sem]
theorem OpV.eqlB {c d : Bool} (ht : P.underlying xt = some .bool) (hx : evE E x = some (.bool c)) (hy : evE E y = some (.bool d)) : OpV P (.binOp .eql xt x y yt) t E w (.bool (c == d)) w := fun ρ hρ _ _ _ _ => by
  simp [execOp, hρ _ _ hx, hρ _ _ hy, go_sem, eqGuard, run_eql_bool w xt c d ht]
theorem OpV.makeInterface {d : TypeDesc} (ht : P.underlying xt = some d) (hd : ∀ ms, d ≠ .interface ms) (hx : evE E x = some v) : OpV P (.makeInterface xt x) t E w (.iface xt v) w := fun ρ hρ _ _ _ _ => by
  simp only [execOp, hρ _ _ hx, Instr.makeInterface]
  cases d <;> first | (exact absurd rfl (hd _)) | simp [go_sem, run_underlying ht]
theorem OpV.len_slice {e : TypeId} {A : Option Addr} {n c : Nat} {rt : TypeId} (ht : P.underlying xt = some (.slice e)) (hx : evE E x = some (.slice A n c)) :
    OpV P (.call { callee := .builtin .len, args := #[x], argTypes := #[xt] }) rt E w (.int .i64 n) w := fun ρ hρ _ _ _ _ => by
  simp [execOp, resolve, hρ _ _ hx, go_sem, invoke, builtin, Builtin.len_, run_underlying ht, goInt]
theorem OpV.extract {vs : Array Value} {n : Nat} (hx : evE E x = some (.tuple vs)) (hn : vs[n]? = some v) : OpV P (.extract x n) t E w v w := fun ρ hρ _ _ _ _ => by
  simp [execOp, hρ _ _ hx, Instr.extract, hn, go_sem]
theorem OpV.nilCheckF {f : FuncId} {c : Array Value} (hx : evE E x = some (.func (.func f) #[] c)) : OpV P (.nilCheck x) t E w (.func (.func f) #[] c) w := fun ρ hρ _ _ _ _ => by
  simp [execOp, hρ _ _ hx, go_sem]
theorem OpV.nilCheckP {p : Addr} (hx : evE E x = some (.pointer (some p))) : OpV P (.nilCheck x) t E w (.pointer (some p)) w := fun ρ hρ _ _ _ _ => by
  simp [execOp, hρ _ _ hx, go_sem]

/-! errors: an interface value held against nil -/
theorem OpV.neqN0 (ht : P.underlying xt = some (.interface (P.methodsAt xt))) (hx : evE E x = some .nilIface) : OpV P (.binOp .neq xt x (.const .nilIface) yt) t E w (.bool false) w := fun ρ hρ _ _ _ _ => by
  simp [execOp, hρ _ _ hx, hρ (.const .nilIface) .nilIface rfl, go_sem, eqGuard, run_neq_nil_nil w xt ht]
theorem OpV.eqlN0 (ht : P.underlying xt = some (.interface (P.methodsAt xt))) (hx : evE E x = some .nilIface) : OpV P (.binOp .eql xt x (.const .nilIface) yt) t E w (.bool true) w := fun ρ hρ _ _ _ _ => by
  simp [execOp, hρ _ _ hx, hρ (.const .nilIface) .nilIface rfl, go_sem, eqGuard, run_eql_nil_nil w xt ht]
theorem OpV.neqN1 {u : TypeId} (ht : P.underlying xt = some (.interface (P.methodsAt xt))) (hx : evE E x = some (.iface u v)) : OpV P (.binOp .neq xt x (.const .nilIface) yt) t E w (.bool true) w := fun ρ hρ _ _ _ _ => by
  simp [execOp, hρ _ _ hx, hρ (.const .nilIface) .nilIface rfl, go_sem, eqGuard, run_neq_held_nil w xt u v ht]
theorem OpV.eqlN1 {u : TypeId} (ht : P.underlying xt = some (.interface (P.methodsAt xt))) (hx : evE E x = some (.iface u v)) : OpV P (.binOp .eql xt x (.const .nilIface) yt) t E w (.bool false) w := fun ρ hρ _ _ _ _ => by
  simp [execOp, hρ _ _ hx, hρ (.const .nilIface) .nilIface rfl, go_sem, eqGuard, run_eql_held_nil w xt u v ht]
/-! addresses -/
theorem OpV.indexAddr {e : TypeId} {sz bk o n c : Nat} {j : Int} (ht : P.underlying xt = some (.slice e)) (hs : ∀ w, (Go.sizeOf e).run P w = .ok sz w)
    (hx : evE E x = some (.slice (some ⟨bk, o, none⟩) n c)) (hi : evE E i = some (.int .i64 j)) (h0 : 0 ≤ j) (hn : j < n) :
    OpV P (.indexAddr xt x i) t E w (.pointer (some ⟨bk, o + j.toNat * sz, none⟩)) w := fun ρ hρ _ _ _ _ => by
  simp [execOp, hρ _ _ hx, hρ _ _ hi, go_sem, Instr.indexAt, run_underlying ht, hs, h0, hn, asIntOf, Addr.add]
/-! calls -/
theorem run_callF {f : FuncId} {fn : Func} {c : Code} (hf : P.funcs[f]? = some fn) (hn : (fn.name == "runtime.NumGoroutine") = false) (hb : fn.body = some c) (args : Array Value) (w : World) :
    (callFunc f args).run P w = .ok (.enter f args) w := by
  have h1 : ¬ fn.name = "runtime.NumGoroutine" := by simpa using hn
  simp [callFunc, go_sem, hf, h1, hb]
def evs (E : Env) : List Operand → Option (List Value)
  | [] => some []
  | x :: r => match evE E x, evs E r with
    | some v, some l => some (v :: l)
    | _, _ => none
theorem evs_map {ρ : Operand → Value} (hρ : Fits E ρ) : ∀ {xs : List Operand} {vs : List Value}, evs E xs = some vs → xs.map ρ = vs := by
  intro xs
  induction xs with
  | nil => intro vs h; simp [evs] at h; simp [h]
  | cons x r ih =>
    intro vs h
    simp only [evs] at h
    split at h
    · rename_i v l h1 h2
      injection h with h
      rw [← h, List.map_cons, hρ _ _ h1, ih h2]
    · cases h
theorem OpC.static {f : FuncId} {fn : Func} {c : Code} {xs : List Operand} {vs : List Value} {ats : Array TypeId} (hf : P.funcs[f]? = some fn) (hn : (fn.name == "runtime.NumGoroutine") = false) (hb : fn.body = some c)
    (he : evs E xs = some vs) : OpC P (.call { callee := .value (.func f), args := xs.toArray, argTypes := ats }) t E w f vs.toArray := fun ρ hρ _ _ _ _ => by
  have h0 : ρ (.func f) = .func (.func f) #[] #[] := hρ _ _ rfl
  have h1 := evs_map hρ he
  simp [execOp, resolve, h0, Deferred.ofValue, invoke, h1, go_sem, run_callF hf hn hb]
theorem OpC.dyn {f : FuncId} {fn : Func} {c : Code} {g : Operand} {xs : List Operand} {vs : List Value} {cb : Array Value} {ats : Array TypeId} (hf : P.funcs[f]? = some fn) (hn : (fn.name == "runtime.NumGoroutine") = false) (hb : fn.body = some c)
    (hg : evE E g = some (.func (.func f) #[] cb)) (he : evs E xs = some vs) : OpC P (.call { callee := .value g, args := xs.toArray, argTypes := ats }) t E w f (vs.toArray ++ cb) := fun ρ hρ _ _ _ _ => by
  have h0 := hρ _ _ hg
  have h1 := evs_map hρ he
  simp [execOp, resolve, h0, Deferred.ofValue, invoke, h1, go_sem, run_callF hf hn hb]

/-! types -/
/-- what a walk wants of a type: an aggregate or not, how many cells, how many bytes, its zero value -/
structure Ty (P : Program) (e : TypeId) (agg : Bool) (sz bytes : Nat) (z : Value) : Prop where
  info : ∃ i, P.info? e = some i ∧ i.zero = some z ∧ i.size = sz ∧ i.bytes = bytes
  aggr : ∀ w, (isAgg e).run P w = .ok agg w
  zsz : z.cells.size = sz
variable {e : TypeId} {agg : Bool} {sz bytes : Nat} {z : Value}
theorem Ty.size (h : Ty P e agg sz bytes z) (w : World) : (Go.sizeOf e).run P w = .ok sz w := by
  obtain ⟨i, hi, _, hs, _⟩ := h.info
  simp [Go.sizeOf, typeInfo, hi, hs]
theorem Ty.zero (h : Ty P e agg sz bytes z) (w : World) : (zeroValue e).run P w = .ok z w := by
  obtain ⟨i, hi, hz, _, _⟩ := h.info
  simp [zeroValue, typeInfo, hi, hz]
theorem Ty.mk' (h : (P.info? e).map (fun i => (i.zero, i.size, i.bytes)) = some (some z, sz, bytes)) (ha : ∀ w, (isAgg e).run P w = .ok agg w) (hz : z.cells.size = sz) : Ty P e agg sz bytes z :=
  ⟨info_parts h, ha, hz⟩

/-! memory: reading -/
theorem OpV.load1 {p : Addr} (ty : Ty P e false sz bytes z) (hx : evE E x = some (.pointer (some p))) (hc : w.cell? p = some v) : OpV P (.load e x) t E w v w := fun ρ hρ _ _ _ _ => by
  simp [execOp, hρ _ _ hx, go_sem, Instr.loadAt, Instr.sureAddr, loadVar, ty.aggr, hc]
theorem OpV.loadK {bk o : Nat} {cs : List Value} (ty : Ty P e true sz bytes z) (hx : evE E x = some (.pointer (some ⟨bk, o, none⟩))) (hl : cs.length = sz)
    (hc : ∀ j u, cs[j]? = some u → w.cell? ⟨bk, o + j, none⟩ = some u) : OpV P (.load e x) t E w (.agg cs.toArray) w := fun ρ hρ _ _ _ _ => by
  have h := run_loadCells_list (P := P) (w := w) ⟨bk, o, none⟩ cs (fun j u hj => by
    have := hc j u hj
    unfold Addr.add
    split
    · rename_i h0; subst h0; simpa using this
    · exact this)
  rw [hl] at h
  simp only [loadCells] at h
  simp [execOp, hρ _ _ hx, go_sem, Instr.loadAt, Instr.sureAddr, loadVar, ty.aggr, ty.size, h]
theorem fld {fs : Array Field} {n off : Nat} {ft : TypeId} (hf : (fs[n]?).map (fun f => (f.offset, f.type)) = some (off, ft)) : ∃ f, fs[n]? = some f ∧ f.offset = off ∧ f.type = ft := by
  obtain ⟨f, h1, h2⟩ := Option.map_eq_some_iff.1 hf
  simp only [Prod.mk.injEq] at h2
  exact ⟨f, h1, h2.1, h2.2⟩
theorem OpV.fieldAddr {bk o n off : Nat} {ft : TypeId} (ht : P.underlying xt = some (.struct (P.fieldsOf xt))) (hf : ((P.fieldsOf xt)[n]?).map (fun f => (f.offset, f.type)) = some (off, ft)) (ty : Ty P ft agg sz bytes z) (hz : sz ≠ 0)
    (hx : evE E x = some (.pointer (some ⟨bk, o, none⟩))) : OpV P (.fieldAddr xt x n) t E w (.pointer (some ⟨bk, o + off, none⟩)) w := fun ρ hρ _ _ _ _ => by
  generalize P.fieldsOf xt = fs at *
  obtain ⟨f, h1, h2, h3⟩ := fld hf
  simp [execOp, hρ _ _ hx, go_sem, Instr.fieldAt, run_underlying ht, h1, h2, h3, Instr.sureAddr, ty.size, hz]
theorem OpV.field {n off : Nat} {ft : TypeId} {cs : Array Value} (ht : P.underlying xt = some (.struct (P.fieldsOf xt))) (hf : ((P.fieldsOf xt)[n]?).map (fun f => (f.offset, f.type)) = some (off, ft)) (ty : Ty P ft false 1 bytes z) (hx : evE E x = some (.agg cs)) (hv : cs[off]? = some v) :
    OpV P (.field xt x n) t E w v w := fun ρ hρ _ _ _ _ => by
  generalize P.fieldsOf xt = fs at *
  obtain ⟨f, h1, h2, h3⟩ := fld hf
  simp [execOp, hρ _ _ hx, go_sem, Instr.field, run_underlying ht, h1, h2, h3, part, asAgg, ty.aggr, ty.size, hv]
/-! structs, slices of slices -/
def evp (E : Env) : List (Nat × Operand) → Option (List (Nat × Value))
  | [] => some []
  | (n, x) :: r => match evE E x, evp E r with
    | some v, some l => some ((n, v) :: l)
    | _, _ => none
theorem evp_map {ρ : Operand → Value} (hρ : Fits E ρ) : ∀ {xs : List (Nat × Operand)} {vs : List (Nat × Value)}, evp E xs = some vs → xs.map (fun p => (p.1, ρ p.2)) = vs := by
  intro xs
  induction xs with
  | nil => intro vs h; simp [evp] at h; simp [h]
  | cons x r ih =>
    intro vs h
    obtain ⟨n, x⟩ := x
    simp only [evp] at h
    split at h
    · rename_i v l h1 h2
      injection h with h
      rw [← h, List.map_cons, hρ _ _ h1, ih h2]
    · cases h
theorem OpV.build {parts : List (Nat × Operand)} {ps : List (Nat × Value)} {cs : Array Value} (he : evp E parts = some ps) (hb : P.built xt ps = some cs) : OpV P (.build xt parts.toArray) t E w (.agg cs) w := fun ρ hρ _ _ _ _ => by
  have h1 := evp_map hρ he
  have h2 : (parts.toArray.map fun (x : Nat × Operand) => match x with | (i, x) => (i, ρ x)) = ps.toArray := by
    rw [← h1, List.map_toArray]
  have h3 := run_build (P := P) w xt ps.toArray cs (by simpa using hb)
  simp only [execOp, h2]
  simp [h3]
theorem run_eql_sn (w : World) (t e : TypeId) (a : Option Addr) (l c : Nat) (h : P.underlying t = some (.slice e)) : (binOp .eql t (.slice a l c) (.slice none 0 0)).run P w = .ok (.bool a.isNone) w := by
  simp only [binOp]
  simp [run_equal_slice_nil w t e a l c h]
theorem OpV.eqlSN {e : TypeId} {A : Option Addr} {n c : Nat} (ht : P.underlying xt = some (.slice e)) (hx : evE E x = some (.slice A n c)) : OpV P (.binOp .eql xt x (.const (.slice none 0 0)) yt) t E w (.bool A.isNone) w := fun ρ hρ _ _ _ _ => by
  simp [execOp, hρ _ _ hx, hρ (.const (.slice none 0 0)) (.slice none 0 0) rfl, go_sem, eqGuard, run_eql_sn w xt e A n c ht]
theorem OpV.sliceTo {e : TypeId} {A : Option Addr} {n c : Nat} {hi : Operand} {j : Int} (ht : P.underlying xt = some (.slice e)) (ty : Ty P e agg sz bytes z) (hx : evE E x = some (.slice A n c)) (hh : evE E hi = some (.int k j)) (h0 : 0 ≤ j) (hc : j ≤ c) :
    OpV P (.slice xt x none (some hi) none) t E w (.slice A j.toNat c) w := fun ρ hρ _ _ _ _ => by
  have hA : A.map (fun a : Addr => a.add 0) = A := by cases A <;> simp [Addr.add]
  simp [execOp, hρ _ _ hx, hρ _ _ hh, Instr.sliceAt, Instr.slice, Instr.sliceBounds, Instr.sliceBound, asIntOf, run_underlying ht, h0, hc, ty.size, hA]
theorem OpV.sliceFrom {e : TypeId} {A : Option Addr} {n c : Nat} {lo : Operand} {j : Int} (ht : P.underlying xt = some (.slice e)) (ty : Ty P e agg sz bytes z) (hx : evE E x = some (.slice A n c)) (hh : evE E lo = some (.int k j)) (h0 : 0 ≤ j) (hc : j ≤ n) :
    OpV P (.slice xt x (some lo) none none) t E w (.slice (if c = j.toNat then A else A.map (·.add (j.toNat * sz))) (n - j.toNat) (c - j.toNat)) w := fun ρ hρ _ _ _ _ => by
  simp [execOp, hρ _ _ hx, hρ _ _ hh, Instr.sliceAt, Instr.slice, Instr.sliceBounds, Instr.sliceBound, asIntOf, run_underlying ht, h0, hc, ty.size]
section
variable {ops : Array Oper} {K : Env → World → Prop} {N d_ : Nat} {rest : List Oper} {pos : String} {after : Array Edge} {C : World → Prop} {R : Env → Prop}
theorem WL.move  (h_ : WL P ops K N ((d_, v) :: E) rest w) (hx : evE E x = some v := by with_unfolding_all exact rfl) (hd_ : Nat.blt d_ N = true := by with_unfolding_all exact rfl) :
    WL P ops K N E (⟨some d_, .move x, t, pos, after, none⟩ :: rest) w := WL.step (OpV.move hx) hd_ h_
theorem QL.move  (h_ : QL P ops C R N ((d_, v) :: E) rest) (hx : evE E x = some v := by with_unfolding_all exact rfl) (hd_ : Nat.blt d_ N = true := by with_unfolding_all exact rfl) :
    QL P ops C R N E (⟨some d_, .move x, t, pos, after, none⟩ :: rest) := QL.step (fun _ _ => OpV.move hx) hd_ h_
theorem RL.move  (h_ : R ((d_, v) :: E)) (hx : evE E x = some v := by with_unfolding_all exact rfl) (hd_ : Nat.blt d_ N = true := by with_unfolding_all exact rfl) :
    RL P ops C R N E ⟨some d_, .move x, t, pos, after, none⟩ := RL.step (fun _ _ => OpV.move hx) hd_ h_
theorem WL.assign  (h_ : WL P ops K N ((d_, v) :: E) rest w) (hx : evE E x = some v := by with_unfolding_all exact rfl) (hd_ : Nat.blt d_ N = true := by with_unfolding_all exact rfl) :
    WL P ops K N E (⟨some d_, .assign x, t, pos, after, none⟩ :: rest) w := WL.step (OpV.assign hx) hd_ h_
theorem QL.assign  (h_ : QL P ops C R N ((d_, v) :: E) rest) (hx : evE E x = some v := by with_unfolding_all exact rfl) (hd_ : Nat.blt d_ N = true := by with_unfolding_all exact rfl) :
    QL P ops C R N E (⟨some d_, .assign x, t, pos, after, none⟩ :: rest) := QL.step (fun _ _ => OpV.assign hx) hd_ h_
theorem RL.assign  (h_ : R ((d_, v) :: E)) (hx : evE E x = some v := by with_unfolding_all exact rfl) (hd_ : Nat.blt d_ N = true := by with_unfolding_all exact rfl) :
    RL P ops C R N E ⟨some d_, .assign x, t, pos, after, none⟩ := RL.step (fun _ _ => OpV.assign hx) hd_ h_
theorem WL.pick_t {c : Operand} (h_ : WL P ops K N ((d_, v) :: E) rest w) (hc : evE E c = some (.bool true) := by with_unfolding_all exact rfl) (hx : evE E x = some v := by with_unfolding_all exact rfl) (hd_ : Nat.blt d_ N = true := by with_unfolding_all exact rfl) :
    WL P ops K N E (⟨some d_, .pick c x y, t, pos, after, none⟩ :: rest) w := WL.step (OpV.pick_t hc hx) hd_ h_
theorem QL.pick_t {c : Operand} (h_ : QL P ops C R N ((d_, v) :: E) rest) (hc : evE E c = some (.bool true) := by with_unfolding_all exact rfl) (hx : evE E x = some v := by with_unfolding_all exact rfl) (hd_ : Nat.blt d_ N = true := by with_unfolding_all exact rfl) :
    QL P ops C R N E (⟨some d_, .pick c x y, t, pos, after, none⟩ :: rest) := QL.step (fun _ _ => OpV.pick_t hc hx) hd_ h_
theorem RL.pick_t {c : Operand} (h_ : R ((d_, v) :: E)) (hc : evE E c = some (.bool true) := by with_unfolding_all exact rfl) (hx : evE E x = some v := by with_unfolding_all exact rfl) (hd_ : Nat.blt d_ N = true := by with_unfolding_all exact rfl) :
    RL P ops C R N E ⟨some d_, .pick c x y, t, pos, after, none⟩ := RL.step (fun _ _ => OpV.pick_t hc hx) hd_ h_
theorem WL.pick_f {c : Operand} (h_ : WL P ops K N ((d_, v) :: E) rest w) (hc : evE E c = some (.bool false) := by with_unfolding_all exact rfl) (hy : evE E y = some v := by with_unfolding_all exact rfl) (hd_ : Nat.blt d_ N = true := by with_unfolding_all exact rfl) :
    WL P ops K N E (⟨some d_, .pick c x y, t, pos, after, none⟩ :: rest) w := WL.step (OpV.pick_f hc hy) hd_ h_
theorem QL.pick_f {c : Operand} (h_ : QL P ops C R N ((d_, v) :: E) rest) (hc : evE E c = some (.bool false) := by with_unfolding_all exact rfl) (hy : evE E y = some v := by with_unfolding_all exact rfl) (hd_ : Nat.blt d_ N = true := by with_unfolding_all exact rfl) :
    QL P ops C R N E (⟨some d_, .pick c x y, t, pos, after, none⟩ :: rest) := QL.step (fun _ _ => OpV.pick_f hc hy) hd_ h_
theorem RL.pick_f {c : Operand} (h_ : R ((d_, v) :: E)) (hc : evE E c = some (.bool false) := by with_unfolding_all exact rfl) (hy : evE E y = some v := by with_unfolding_all exact rfl) (hd_ : Nat.blt d_ N = true := by with_unfolding_all exact rfl) :
    RL P ops C R N E ⟨some d_, .pick c x y, t, pos, after, none⟩ := RL.step (fun _ _ => OpV.pick_f hc hy) hd_ h_
theorem WL.lss  (h_ : WL P ops K N ((d_, (.bool (decide (a < b)))) :: E) rest w) (hx : evE E x = some (.int k a) := by with_unfolding_all exact rfl) (hy : evE E y = some (.int k b) := by with_unfolding_all exact rfl) (hd_ : Nat.blt d_ N = true := by with_unfolding_all exact rfl) :
    WL P ops K N E (⟨some d_, .binOp .lss xt x y yt, t, pos, after, none⟩ :: rest) w := WL.step (OpV.lss hx hy) hd_ h_
theorem QL.lss  (h_ : QL P ops C R N ((d_, (.bool (decide (a < b)))) :: E) rest) (hx : evE E x = some (.int k a) := by with_unfolding_all exact rfl) (hy : evE E y = some (.int k b) := by with_unfolding_all exact rfl) (hd_ : Nat.blt d_ N = true := by with_unfolding_all exact rfl) :
    QL P ops C R N E (⟨some d_, .binOp .lss xt x y yt, t, pos, after, none⟩ :: rest) := QL.step (fun _ _ => OpV.lss hx hy) hd_ h_
theorem RL.lss  (h_ : R ((d_, (.bool (decide (a < b)))) :: E)) (hx : evE E x = some (.int k a) := by with_unfolding_all exact rfl) (hy : evE E y = some (.int k b) := by with_unfolding_all exact rfl) (hd_ : Nat.blt d_ N = true := by with_unfolding_all exact rfl) :
    RL P ops C R N E ⟨some d_, .binOp .lss xt x y yt, t, pos, after, none⟩ := RL.step (fun _ _ => OpV.lss hx hy) hd_ h_
theorem WL.leq  (h_ : WL P ops K N ((d_, (.bool (decide (a ≤ b)))) :: E) rest w) (hx : evE E x = some (.int k a) := by with_unfolding_all exact rfl) (hy : evE E y = some (.int k b) := by with_unfolding_all exact rfl) (hd_ : Nat.blt d_ N = true := by with_unfolding_all exact rfl) :
    WL P ops K N E (⟨some d_, .binOp .leq xt x y yt, t, pos, after, none⟩ :: rest) w := WL.step (OpV.leq hx hy) hd_ h_
theorem QL.leq  (h_ : QL P ops C R N ((d_, (.bool (decide (a ≤ b)))) :: E) rest) (hx : evE E x = some (.int k a) := by with_unfolding_all exact rfl) (hy : evE E y = some (.int k b) := by with_unfolding_all exact rfl) (hd_ : Nat.blt d_ N = true := by with_unfolding_all exact rfl) :
    QL P ops C R N E (⟨some d_, .binOp .leq xt x y yt, t, pos, after, none⟩ :: rest) := QL.step (fun _ _ => OpV.leq hx hy) hd_ h_
theorem RL.leq  (h_ : R ((d_, (.bool (decide (a ≤ b)))) :: E)) (hx : evE E x = some (.int k a) := by with_unfolding_all exact rfl) (hy : evE E y = some (.int k b) := by with_unfolding_all exact rfl) (hd_ : Nat.blt d_ N = true := by with_unfolding_all exact rfl) :
    RL P ops C R N E ⟨some d_, .binOp .leq xt x y yt, t, pos, after, none⟩ := RL.step (fun _ _ => OpV.leq hx hy) hd_ h_
theorem WL.gtr  (h_ : WL P ops K N ((d_, (.bool (decide (b < a)))) :: E) rest w) (hx : evE E x = some (.int k a) := by with_unfolding_all exact rfl) (hy : evE E y = some (.int k b) := by with_unfolding_all exact rfl) (hd_ : Nat.blt d_ N = true := by with_unfolding_all exact rfl) :
    WL P ops K N E (⟨some d_, .binOp .gtr xt x y yt, t, pos, after, none⟩ :: rest) w := WL.step (OpV.gtr hx hy) hd_ h_
theorem QL.gtr  (h_ : QL P ops C R N ((d_, (.bool (decide (b < a)))) :: E) rest) (hx : evE E x = some (.int k a) := by with_unfolding_all exact rfl) (hy : evE E y = some (.int k b) := by with_unfolding_all exact rfl) (hd_ : Nat.blt d_ N = true := by with_unfolding_all exact rfl) :
    QL P ops C R N E (⟨some d_, .binOp .gtr xt x y yt, t, pos, after, none⟩ :: rest) := QL.step (fun _ _ => OpV.gtr hx hy) hd_ h_
theorem RL.gtr  (h_ : R ((d_, (.bool (decide (b < a)))) :: E)) (hx : evE E x = some (.int k a) := by with_unfolding_all exact rfl) (hy : evE E y = some (.int k b) := by with_unfolding_all exact rfl) (hd_ : Nat.blt d_ N = true := by with_unfolding_all exact rfl) :
    RL P ops C R N E ⟨some d_, .binOp .gtr xt x y yt, t, pos, after, none⟩ := RL.step (fun _ _ => OpV.gtr hx hy) hd_ h_
theorem WL.geq  (h_ : WL P ops K N ((d_, (.bool (decide (b ≤ a)))) :: E) rest w) (hx : evE E x = some (.int k a) := by with_unfolding_all exact rfl) (hy : evE E y = some (.int k b) := by with_unfolding_all exact rfl) (hd_ : Nat.blt d_ N = true := by with_unfolding_all exact rfl) :
    WL P ops K N E (⟨some d_, .binOp .geq xt x y yt, t, pos, after, none⟩ :: rest) w := WL.step (OpV.geq hx hy) hd_ h_
theorem QL.geq  (h_ : QL P ops C R N ((d_, (.bool (decide (b ≤ a)))) :: E) rest) (hx : evE E x = some (.int k a) := by with_unfolding_all exact rfl) (hy : evE E y = some (.int k b) := by with_unfolding_all exact rfl) (hd_ : Nat.blt d_ N = true := by with_unfolding_all exact rfl) :
    QL P ops C R N E (⟨some d_, .binOp .geq xt x y yt, t, pos, after, none⟩ :: rest) := QL.step (fun _ _ => OpV.geq hx hy) hd_ h_
theorem RL.geq  (h_ : R ((d_, (.bool (decide (b ≤ a)))) :: E)) (hx : evE E x = some (.int k a) := by with_unfolding_all exact rfl) (hy : evE E y = some (.int k b) := by with_unfolding_all exact rfl) (hd_ : Nat.blt d_ N = true := by with_unfolding_all exact rfl) :
    RL P ops C R N E ⟨some d_, .binOp .geq xt x y yt, t, pos, after, none⟩ := RL.step (fun _ _ => OpV.geq hx hy) hd_ h_
theorem WL.eqlI  (h_ : WL P ops K N ((d_, (.bool (decide (a = b)))) :: E) rest w) (hx : evE E x = some (.int k a) := by with_unfolding_all exact rfl) (hy : evE E y = some (.int k b) := by with_unfolding_all exact rfl) (hd_ : Nat.blt d_ N = true := by with_unfolding_all exact rfl) :
    WL P ops K N E (⟨some d_, .binOp .eql xt x y yt, t, pos, after, none⟩ :: rest) w := WL.step (OpV.eqlI hx hy) hd_ h_
theorem QL.eqlI  (h_ : QL P ops C R N ((d_, (.bool (decide (a = b)))) :: E) rest) (hx : evE E x = some (.int k a) := by with_unfolding_all exact rfl) (hy : evE E y = some (.int k b) := by with_unfolding_all exact rfl) (hd_ : Nat.blt d_ N = true := by with_unfolding_all exact rfl) :
    QL P ops C R N E (⟨some d_, .binOp .eql xt x y yt, t, pos, after, none⟩ :: rest) := QL.step (fun _ _ => OpV.eqlI hx hy) hd_ h_
theorem RL.eqlI  (h_ : R ((d_, (.bool (decide (a = b)))) :: E)) (hx : evE E x = some (.int k a) := by with_unfolding_all exact rfl) (hy : evE E y = some (.int k b) := by with_unfolding_all exact rfl) (hd_ : Nat.blt d_ N = true := by with_unfolding_all exact rfl) :
    RL P ops C R N E ⟨some d_, .binOp .eql xt x y yt, t, pos, after, none⟩ := RL.step (fun _ _ => OpV.eqlI hx hy) hd_ h_
theorem WL.neqI  (h_ : WL P ops K N ((d_, (.bool (decide (a ≠ b)))) :: E) rest w) (hx : evE E x = some (.int k a) := by with_unfolding_all exact rfl) (hy : evE E y = some (.int k b) := by with_unfolding_all exact rfl) (hd_ : Nat.blt d_ N = true := by with_unfolding_all exact rfl) :
    WL P ops K N E (⟨some d_, .binOp .neq xt x y yt, t, pos, after, none⟩ :: rest) w := WL.step (OpV.neqI hx hy) hd_ h_
theorem QL.neqI  (h_ : QL P ops C R N ((d_, (.bool (decide (a ≠ b)))) :: E) rest) (hx : evE E x = some (.int k a) := by with_unfolding_all exact rfl) (hy : evE E y = some (.int k b) := by with_unfolding_all exact rfl) (hd_ : Nat.blt d_ N = true := by with_unfolding_all exact rfl) :
    QL P ops C R N E (⟨some d_, .binOp .neq xt x y yt, t, pos, after, none⟩ :: rest) := QL.step (fun _ _ => OpV.neqI hx hy) hd_ h_
theorem RL.neqI  (h_ : R ((d_, (.bool (decide (a ≠ b)))) :: E)) (hx : evE E x = some (.int k a) := by with_unfolding_all exact rfl) (hy : evE E y = some (.int k b) := by with_unfolding_all exact rfl) (hd_ : Nat.blt d_ N = true := by with_unfolding_all exact rfl) :
    RL P ops C R N E ⟨some d_, .binOp .neq xt x y yt, t, pos, after, none⟩ := RL.step (fun _ _ => OpV.neqI hx hy) hd_ h_
theorem WL.add  (h_ : WL P ops K N ((d_, (.int .i64 (a + b))) :: E) rest w) (hx : evE E x = some (.int .i64 a) := by with_unfolding_all exact rfl) (hy : evE E y = some (.int .i64 b) := by with_unfolding_all exact rfl) (h : -9223372036854775808 ≤ a + b ∧ a + b ≤ 9223372036854775807 := by omega) (hd_ : Nat.blt d_ N = true := by with_unfolding_all exact rfl) :
    WL P ops K N E (⟨some d_, .binOp .add xt x y yt, t, pos, after, none⟩ :: rest) w := WL.step (OpV.add hx hy h) hd_ h_
theorem QL.add  (h_ : QL P ops C R N ((d_, (.int .i64 (a + b))) :: E) rest) (hx : evE E x = some (.int .i64 a) := by with_unfolding_all exact rfl) (hy : evE E y = some (.int .i64 b) := by with_unfolding_all exact rfl) (h : -9223372036854775808 ≤ a + b ∧ a + b ≤ 9223372036854775807 := by omega) (hd_ : Nat.blt d_ N = true := by with_unfolding_all exact rfl) :
    QL P ops C R N E (⟨some d_, .binOp .add xt x y yt, t, pos, after, none⟩ :: rest) := QL.step (fun _ _ => OpV.add hx hy h) hd_ h_
theorem RL.add  (h_ : R ((d_, (.int .i64 (a + b))) :: E)) (hx : evE E x = some (.int .i64 a) := by with_unfolding_all exact rfl) (hy : evE E y = some (.int .i64 b) := by with_unfolding_all exact rfl) (h : -9223372036854775808 ≤ a + b ∧ a + b ≤ 9223372036854775807 := by omega) (hd_ : Nat.blt d_ N = true := by with_unfolding_all exact rfl) :
    RL P ops C R N E ⟨some d_, .binOp .add xt x y yt, t, pos, after, none⟩ := RL.step (fun _ _ => OpV.add hx hy h) hd_ h_
theorem WL.sub  (h_ : WL P ops K N ((d_, (.int .i64 (a - b))) :: E) rest w) (hx : evE E x = some (.int .i64 a) := by with_unfolding_all exact rfl) (hy : evE E y = some (.int .i64 b) := by with_unfolding_all exact rfl) (h : -9223372036854775808 ≤ a - b ∧ a - b ≤ 9223372036854775807 := by omega) (hd_ : Nat.blt d_ N = true := by with_unfolding_all exact rfl) :
    WL P ops K N E (⟨some d_, .binOp .sub xt x y yt, t, pos, after, none⟩ :: rest) w := WL.step (OpV.sub hx hy h) hd_ h_
theorem QL.sub  (h_ : QL P ops C R N ((d_, (.int .i64 (a - b))) :: E) rest) (hx : evE E x = some (.int .i64 a) := by with_unfolding_all exact rfl) (hy : evE E y = some (.int .i64 b) := by with_unfolding_all exact rfl) (h : -9223372036854775808 ≤ a - b ∧ a - b ≤ 9223372036854775807 := by omega) (hd_ : Nat.blt d_ N = true := by with_unfolding_all exact rfl) :
    QL P ops C R N E (⟨some d_, .binOp .sub xt x y yt, t, pos, after, none⟩ :: rest) := QL.step (fun _ _ => OpV.sub hx hy h) hd_ h_
theorem RL.sub  (h_ : R ((d_, (.int .i64 (a - b))) :: E)) (hx : evE E x = some (.int .i64 a) := by with_unfolding_all exact rfl) (hy : evE E y = some (.int .i64 b) := by with_unfolding_all exact rfl) (h : -9223372036854775808 ≤ a - b ∧ a - b ≤ 9223372036854775807 := by omega) (hd_ : Nat.blt d_ N = true := by with_unfolding_all exact rfl) :
    RL P ops C R N E ⟨some d_, .binOp .sub xt x y yt, t, pos, after, none⟩ := RL.step (fun _ _ => OpV.sub hx hy h) hd_ h_
theorem WL.mul  (h_ : WL P ops K N ((d_, (.int .i64 (a * b))) :: E) rest w) (hx : evE E x = some (.int .i64 a) := by with_unfolding_all exact rfl) (hy : evE E y = some (.int .i64 b) := by with_unfolding_all exact rfl) (h : -9223372036854775808 ≤ a * b ∧ a * b ≤ 9223372036854775807 := by omega) (hd_ : Nat.blt d_ N = true := by with_unfolding_all exact rfl) :
    WL P ops K N E (⟨some d_, .binOp .mul xt x y yt, t, pos, after, none⟩ :: rest) w := WL.step (OpV.mul hx hy h) hd_ h_
theorem QL.mul  (h_ : QL P ops C R N ((d_, (.int .i64 (a * b))) :: E) rest) (hx : evE E x = some (.int .i64 a) := by with_unfolding_all exact rfl) (hy : evE E y = some (.int .i64 b) := by with_unfolding_all exact rfl) (h : -9223372036854775808 ≤ a * b ∧ a * b ≤ 9223372036854775807 := by omega) (hd_ : Nat.blt d_ N = true := by with_unfolding_all exact rfl) :
    QL P ops C R N E (⟨some d_, .binOp .mul xt x y yt, t, pos, after, none⟩ :: rest) := QL.step (fun _ _ => OpV.mul hx hy h) hd_ h_
theorem RL.mul  (h_ : R ((d_, (.int .i64 (a * b))) :: E)) (hx : evE E x = some (.int .i64 a) := by with_unfolding_all exact rfl) (hy : evE E y = some (.int .i64 b) := by with_unfolding_all exact rfl) (h : -9223372036854775808 ≤ a * b ∧ a * b ≤ 9223372036854775807 := by omega) (hd_ : Nat.blt d_ N = true := by with_unfolding_all exact rfl) :
    RL P ops C R N E ⟨some d_, .binOp .mul xt x y yt, t, pos, after, none⟩ := RL.step (fun _ _ => OpV.mul hx hy h) hd_ h_
theorem WL.quo  (h_ : WL P ops K N ((d_, (.int .i64 (a / b))) :: E) rest w) (hx : evE E x = some (.int .i64 a) := by with_unfolding_all exact rfl) (hy : evE E y = some (.int .i64 b) := by with_unfolding_all exact rfl) (ha : 0 ≤ a ∧ a ≤ 9223372036854775807 := by omega) (hb : 0 < b := by omega) (hd_ : Nat.blt d_ N = true := by with_unfolding_all exact rfl) :
    WL P ops K N E (⟨some d_, .binOp .quo xt x y yt, t, pos, after, none⟩ :: rest) w := WL.step (OpV.quo hx hy ha hb) hd_ h_
theorem QL.quo  (h_ : QL P ops C R N ((d_, (.int .i64 (a / b))) :: E) rest) (hx : evE E x = some (.int .i64 a) := by with_unfolding_all exact rfl) (hy : evE E y = some (.int .i64 b) := by with_unfolding_all exact rfl) (ha : 0 ≤ a ∧ a ≤ 9223372036854775807 := by omega) (hb : 0 < b := by omega) (hd_ : Nat.blt d_ N = true := by with_unfolding_all exact rfl) :
    QL P ops C R N E (⟨some d_, .binOp .quo xt x y yt, t, pos, after, none⟩ :: rest) := QL.step (fun _ _ => OpV.quo hx hy ha hb) hd_ h_
theorem RL.quo  (h_ : R ((d_, (.int .i64 (a / b))) :: E)) (hx : evE E x = some (.int .i64 a) := by with_unfolding_all exact rfl) (hy : evE E y = some (.int .i64 b) := by with_unfolding_all exact rfl) (ha : 0 ≤ a ∧ a ≤ 9223372036854775807 := by omega) (hb : 0 < b := by omega) (hd_ : Nat.blt d_ N = true := by with_unfolding_all exact rfl) :
    RL P ops C R N E ⟨some d_, .binOp .quo xt x y yt, t, pos, after, none⟩ := RL.step (fun _ _ => OpV.quo hx hy ha hb) hd_ h_
theorem WL.rem  (h_ : WL P ops K N ((d_, (.int .i64 (a % b))) :: E) rest w) (hx : evE E x = some (.int .i64 a) := by with_unfolding_all exact rfl) (hy : evE E y = some (.int .i64 b) := by with_unfolding_all exact rfl) (ha : 0 ≤ a := by omega) (hb : 0 < b := by omega) (hd_ : Nat.blt d_ N = true := by with_unfolding_all exact rfl) :
    WL P ops K N E (⟨some d_, .binOp .rem xt x y yt, t, pos, after, none⟩ :: rest) w := WL.step (OpV.rem hx hy ha hb) hd_ h_
theorem QL.rem  (h_ : QL P ops C R N ((d_, (.int .i64 (a % b))) :: E) rest) (hx : evE E x = some (.int .i64 a) := by with_unfolding_all exact rfl) (hy : evE E y = some (.int .i64 b) := by with_unfolding_all exact rfl) (ha : 0 ≤ a := by omega) (hb : 0 < b := by omega) (hd_ : Nat.blt d_ N = true := by with_unfolding_all exact rfl) :
    QL P ops C R N E (⟨some d_, .binOp .rem xt x y yt, t, pos, after, none⟩ :: rest) := QL.step (fun _ _ => OpV.rem hx hy ha hb) hd_ h_
theorem RL.rem  (h_ : R ((d_, (.int .i64 (a % b))) :: E)) (hx : evE E x = some (.int .i64 a) := by with_unfolding_all exact rfl) (hy : evE E y = some (.int .i64 b) := by with_unfolding_all exact rfl) (ha : 0 ≤ a := by omega) (hb : 0 < b := by omega) (hd_ : Nat.blt d_ N = true := by with_unfolding_all exact rfl) :
    RL P ops C R N E ⟨some d_, .binOp .rem xt x y yt, t, pos, after, none⟩ := RL.step (fun _ _ => OpV.rem hx hy ha hb) hd_ h_
theorem WL.not {b : Bool} (h_ : WL P ops K N ((d_, (.bool !b)) :: E) rest w) (hx : evE E x = some (.bool b) := by with_unfolding_all exact rfl) (hd_ : Nat.blt d_ N = true := by with_unfolding_all exact rfl) :
    WL P ops K N E (⟨some d_, .unOp .not xt x, t, pos, after, none⟩ :: rest) w := WL.step (OpV.not hx) hd_ h_
theorem QL.not {b : Bool} (h_ : QL P ops C R N ((d_, (.bool !b)) :: E) rest) (hx : evE E x = some (.bool b) := by with_unfolding_all exact rfl) (hd_ : Nat.blt d_ N = true := by with_unfolding_all exact rfl) :
    QL P ops C R N E (⟨some d_, .unOp .not xt x, t, pos, after, none⟩ :: rest) := QL.step (fun _ _ => OpV.not hx) hd_ h_
theorem RL.not {b : Bool} (h_ : R ((d_, (.bool !b)) :: E)) (hx : evE E x = some (.bool b) := by with_unfolding_all exact rfl) (hd_ : Nat.blt d_ N = true := by with_unfolding_all exact rfl) :
    RL P ops C R N E ⟨some d_, .unOp .not xt x, t, pos, after, none⟩ := RL.step (fun _ _ => OpV.not hx) hd_ h_
theorem WL.eqlB {c d : Bool} (ht : P.underlying xt = some .bool) (hx : evE E x = some (.bool c)) (hy : evE E y = some (.bool d)) (hd_ : Nat.blt d_ N = true) (h_ : WL P ops K N ((d_, (.bool (c == d))) :: E) rest w) :
    WL P ops K N E (⟨some d_, .binOp .eql xt x y yt, t, pos, after, none⟩ :: rest) w := WL.step (OpV.eqlB ht hx hy) hd_ h_
theorem QL.eqlB {c d : Bool} (ht : P.underlying xt = some .bool) (hx : evE E x = some (.bool c)) (hy : evE E y = some (.bool d)) (hd_ : Nat.blt d_ N = true) (h_ : QL P ops C R N ((d_, (.bool (c == d))) :: E) rest) :
    QL P ops C R N E (⟨some d_, .binOp .eql xt x y yt, t, pos, after, none⟩ :: rest) := QL.step (fun _ _ => OpV.eqlB ht hx hy) hd_ h_
theorem RL.eqlB {c d : Bool} (ht : P.underlying xt = some .bool) (hx : evE E x = some (.bool c)) (hy : evE E y = some (.bool d)) (hd_ : Nat.blt d_ N = true) (h_ : R ((d_, (.bool (c == d))) :: E)) :
    RL P ops C R N E ⟨some d_, .binOp .eql xt x y yt, t, pos, after, none⟩ := RL.step (fun _ _ => OpV.eqlB ht hx hy) hd_ h_
theorem WL.makeInterface {d : TypeDesc} (ht : P.underlying xt = some d) (hd : ∀ ms, d ≠ .interface ms) (hx : evE E x = some v) (hd_ : Nat.blt d_ N = true) (h_ : WL P ops K N ((d_, (.iface xt v)) :: E) rest w) :
    WL P ops K N E (⟨some d_, .makeInterface xt x, t, pos, after, none⟩ :: rest) w := WL.step (OpV.makeInterface ht hd hx) hd_ h_
theorem QL.makeInterface {d : TypeDesc} (ht : P.underlying xt = some d) (hd : ∀ ms, d ≠ .interface ms) (hx : evE E x = some v) (hd_ : Nat.blt d_ N = true) (h_ : QL P ops C R N ((d_, (.iface xt v)) :: E) rest) :
    QL P ops C R N E (⟨some d_, .makeInterface xt x, t, pos, after, none⟩ :: rest) := QL.step (fun _ _ => OpV.makeInterface ht hd hx) hd_ h_
theorem RL.makeInterface {d : TypeDesc} (ht : P.underlying xt = some d) (hd : ∀ ms, d ≠ .interface ms) (hx : evE E x = some v) (hd_ : Nat.blt d_ N = true) (h_ : R ((d_, (.iface xt v)) :: E)) :
    RL P ops C R N E ⟨some d_, .makeInterface xt x, t, pos, after, none⟩ := RL.step (fun _ _ => OpV.makeInterface ht hd hx) hd_ h_
theorem WL.len_slice {e : TypeId} {A : Option Addr} {n c : Nat} {rt : TypeId} (ht : P.underlying xt = some (.slice e)) (hx : evE E x = some (.slice A n c)) (hd_ : Nat.blt d_ N = true) (h_ : WL P ops K N ((d_, (.int .i64 n)) :: E) rest w) :
    WL P ops K N E (⟨some d_, .call { callee := .builtin .len, args := #[x], argTypes := #[xt] }, rt, pos, after, none⟩ :: rest) w := WL.step (OpV.len_slice ht hx) hd_ h_
theorem QL.len_slice {e : TypeId} {A : Option Addr} {n c : Nat} {rt : TypeId} (ht : P.underlying xt = some (.slice e)) (hx : evE E x = some (.slice A n c)) (hd_ : Nat.blt d_ N = true) (h_ : QL P ops C R N ((d_, (.int .i64 n)) :: E) rest) :
    QL P ops C R N E (⟨some d_, .call { callee := .builtin .len, args := #[x], argTypes := #[xt] }, rt, pos, after, none⟩ :: rest) := QL.step (fun _ _ => OpV.len_slice ht hx) hd_ h_
theorem RL.len_slice {e : TypeId} {A : Option Addr} {n c : Nat} {rt : TypeId} (ht : P.underlying xt = some (.slice e)) (hx : evE E x = some (.slice A n c)) (hd_ : Nat.blt d_ N = true) (h_ : R ((d_, (.int .i64 n)) :: E)) :
    RL P ops C R N E ⟨some d_, .call { callee := .builtin .len, args := #[x], argTypes := #[xt] }, rt, pos, after, none⟩ := RL.step (fun _ _ => OpV.len_slice ht hx) hd_ h_
theorem WL.extract {vs : Array Value} {n : Nat} (h_ : WL P ops K N ((d_, v) :: E) rest w) (hx : evE E x = some (.tuple vs) := by with_unfolding_all exact rfl) (hn : vs[n]? = some v := by with_unfolding_all exact rfl) (hd_ : Nat.blt d_ N = true := by with_unfolding_all exact rfl) :
    WL P ops K N E (⟨some d_, .extract x n, t, pos, after, none⟩ :: rest) w := WL.step (OpV.extract hx hn) hd_ h_
theorem QL.extract {vs : Array Value} {n : Nat} (h_ : QL P ops C R N ((d_, v) :: E) rest) (hx : evE E x = some (.tuple vs) := by with_unfolding_all exact rfl) (hn : vs[n]? = some v := by with_unfolding_all exact rfl) (hd_ : Nat.blt d_ N = true := by with_unfolding_all exact rfl) :
    QL P ops C R N E (⟨some d_, .extract x n, t, pos, after, none⟩ :: rest) := QL.step (fun _ _ => OpV.extract hx hn) hd_ h_
theorem RL.extract {vs : Array Value} {n : Nat} (h_ : R ((d_, v) :: E)) (hx : evE E x = some (.tuple vs) := by with_unfolding_all exact rfl) (hn : vs[n]? = some v := by with_unfolding_all exact rfl) (hd_ : Nat.blt d_ N = true := by with_unfolding_all exact rfl) :
    RL P ops C R N E ⟨some d_, .extract x n, t, pos, after, none⟩ := RL.step (fun _ _ => OpV.extract hx hn) hd_ h_
theorem WL.nilCheckF {f : FuncId} {c : Array Value} (hx : evE E x = some (.func (.func f) #[] c)) (hd_ : Nat.blt d_ N = true) (h_ : WL P ops K N ((d_, (.func (.func f) #[] c)) :: E) rest w) :
    WL P ops K N E (⟨some d_, .nilCheck x, t, pos, after, none⟩ :: rest) w := WL.step (OpV.nilCheckF hx) hd_ h_
theorem QL.nilCheckF {f : FuncId} {c : Array Value} (hx : evE E x = some (.func (.func f) #[] c)) (hd_ : Nat.blt d_ N = true) (h_ : QL P ops C R N ((d_, (.func (.func f) #[] c)) :: E) rest) :
    QL P ops C R N E (⟨some d_, .nilCheck x, t, pos, after, none⟩ :: rest) := QL.step (fun _ _ => OpV.nilCheckF hx) hd_ h_
theorem RL.nilCheckF {f : FuncId} {c : Array Value} (hx : evE E x = some (.func (.func f) #[] c)) (hd_ : Nat.blt d_ N = true) (h_ : R ((d_, (.func (.func f) #[] c)) :: E)) :
    RL P ops C R N E ⟨some d_, .nilCheck x, t, pos, after, none⟩ := RL.step (fun _ _ => OpV.nilCheckF hx) hd_ h_
theorem WL.nilCheckP {p : Addr} (hx : evE E x = some (.pointer (some p))) (hd_ : Nat.blt d_ N = true) (h_ : WL P ops K N ((d_, (.pointer (some p))) :: E) rest w) :
    WL P ops K N E (⟨some d_, .nilCheck x, t, pos, after, none⟩ :: rest) w := WL.step (OpV.nilCheckP hx) hd_ h_
theorem QL.nilCheckP {p : Addr} (hx : evE E x = some (.pointer (some p))) (hd_ : Nat.blt d_ N = true) (h_ : QL P ops C R N ((d_, (.pointer (some p))) :: E) rest) :
    QL P ops C R N E (⟨some d_, .nilCheck x, t, pos, after, none⟩ :: rest) := QL.step (fun _ _ => OpV.nilCheckP hx) hd_ h_
theorem RL.nilCheckP {p : Addr} (hx : evE E x = some (.pointer (some p))) (hd_ : Nat.blt d_ N = true) (h_ : R ((d_, (.pointer (some p))) :: E)) :
    RL P ops C R N E ⟨some d_, .nilCheck x, t, pos, after, none⟩ := RL.step (fun _ _ => OpV.nilCheckP hx) hd_ h_
theorem WL.neqN0 (ht : P.underlying xt = some (.interface (P.methodsAt xt))) (hx : evE E x = some .nilIface) (hd_ : Nat.blt d_ N = true) (h_ : WL P ops K N ((d_, (.bool false)) :: E) rest w) :
    WL P ops K N E (⟨some d_, .binOp .neq xt x (.const .nilIface) yt, t, pos, after, none⟩ :: rest) w := WL.step (OpV.neqN0 ht hx) hd_ h_
theorem QL.neqN0 (ht : P.underlying xt = some (.interface (P.methodsAt xt))) (hx : evE E x = some .nilIface) (hd_ : Nat.blt d_ N = true) (h_ : QL P ops C R N ((d_, (.bool false)) :: E) rest) :
    QL P ops C R N E (⟨some d_, .binOp .neq xt x (.const .nilIface) yt, t, pos, after, none⟩ :: rest) := QL.step (fun _ _ => OpV.neqN0 ht hx) hd_ h_
theorem RL.neqN0 (ht : P.underlying xt = some (.interface (P.methodsAt xt))) (hx : evE E x = some .nilIface) (hd_ : Nat.blt d_ N = true) (h_ : R ((d_, (.bool false)) :: E)) :
    RL P ops C R N E ⟨some d_, .binOp .neq xt x (.const .nilIface) yt, t, pos, after, none⟩ := RL.step (fun _ _ => OpV.neqN0 ht hx) hd_ h_
theorem WL.eqlN0 (ht : P.underlying xt = some (.interface (P.methodsAt xt))) (hx : evE E x = some .nilIface) (hd_ : Nat.blt d_ N = true) (h_ : WL P ops K N ((d_, (.bool true)) :: E) rest w) :
    WL P ops K N E (⟨some d_, .binOp .eql xt x (.const .nilIface) yt, t, pos, after, none⟩ :: rest) w := WL.step (OpV.eqlN0 ht hx) hd_ h_
theorem QL.eqlN0 (ht : P.underlying xt = some (.interface (P.methodsAt xt))) (hx : evE E x = some .nilIface) (hd_ : Nat.blt d_ N = true) (h_ : QL P ops C R N ((d_, (.bool true)) :: E) rest) :
    QL P ops C R N E (⟨some d_, .binOp .eql xt x (.const .nilIface) yt, t, pos, after, none⟩ :: rest) := QL.step (fun _ _ => OpV.eqlN0 ht hx) hd_ h_
theorem RL.eqlN0 (ht : P.underlying xt = some (.interface (P.methodsAt xt))) (hx : evE E x = some .nilIface) (hd_ : Nat.blt d_ N = true) (h_ : R ((d_, (.bool true)) :: E)) :
    RL P ops C R N E ⟨some d_, .binOp .eql xt x (.const .nilIface) yt, t, pos, after, none⟩ := RL.step (fun _ _ => OpV.eqlN0 ht hx) hd_ h_
theorem WL.neqN1 {u : TypeId} (ht : P.underlying xt = some (.interface (P.methodsAt xt))) (hx : evE E x = some (.iface u v)) (hd_ : Nat.blt d_ N = true) (h_ : WL P ops K N ((d_, (.bool true)) :: E) rest w) :
    WL P ops K N E (⟨some d_, .binOp .neq xt x (.const .nilIface) yt, t, pos, after, none⟩ :: rest) w := WL.step (OpV.neqN1 ht hx) hd_ h_
theorem QL.neqN1 {u : TypeId} (ht : P.underlying xt = some (.interface (P.methodsAt xt))) (hx : evE E x = some (.iface u v)) (hd_ : Nat.blt d_ N = true) (h_ : QL P ops C R N ((d_, (.bool true)) :: E) rest) :
    QL P ops C R N E (⟨some d_, .binOp .neq xt x (.const .nilIface) yt, t, pos, after, none⟩ :: rest) := QL.step (fun _ _ => OpV.neqN1 ht hx) hd_ h_
theorem RL.neqN1 {u : TypeId} (ht : P.underlying xt = some (.interface (P.methodsAt xt))) (hx : evE E x = some (.iface u v)) (hd_ : Nat.blt d_ N = true) (h_ : R ((d_, (.bool true)) :: E)) :
    RL P ops C R N E ⟨some d_, .binOp .neq xt x (.const .nilIface) yt, t, pos, after, none⟩ := RL.step (fun _ _ => OpV.neqN1 ht hx) hd_ h_
theorem WL.eqlN1 {u : TypeId} (ht : P.underlying xt = some (.interface (P.methodsAt xt))) (hx : evE E x = some (.iface u v)) (hd_ : Nat.blt d_ N = true) (h_ : WL P ops K N ((d_, (.bool false)) :: E) rest w) :
    WL P ops K N E (⟨some d_, .binOp .eql xt x (.const .nilIface) yt, t, pos, after, none⟩ :: rest) w := WL.step (OpV.eqlN1 ht hx) hd_ h_
theorem QL.eqlN1 {u : TypeId} (ht : P.underlying xt = some (.interface (P.methodsAt xt))) (hx : evE E x = some (.iface u v)) (hd_ : Nat.blt d_ N = true) (h_ : QL P ops C R N ((d_, (.bool false)) :: E) rest) :
    QL P ops C R N E (⟨some d_, .binOp .eql xt x (.const .nilIface) yt, t, pos, after, none⟩ :: rest) := QL.step (fun _ _ => OpV.eqlN1 ht hx) hd_ h_
theorem RL.eqlN1 {u : TypeId} (ht : P.underlying xt = some (.interface (P.methodsAt xt))) (hx : evE E x = some (.iface u v)) (hd_ : Nat.blt d_ N = true) (h_ : R ((d_, (.bool false)) :: E)) :
    RL P ops C R N E ⟨some d_, .binOp .eql xt x (.const .nilIface) yt, t, pos, after, none⟩ := RL.step (fun _ _ => OpV.eqlN1 ht hx) hd_ h_
theorem WL.indexAddr {e : TypeId} {sz bk o n c : Nat} {j : Int} (ht : P.underlying xt = some (.slice e)) (hs : ∀ w, (Go.sizeOf e).run P w = .ok sz w) (hx : evE E x = some (.slice (some ⟨bk, o, none⟩) n c)) (hi : evE E i = some (.int .i64 j)) (h0 : 0 ≤ j) (hn : j < n) (hd_ : Nat.blt d_ N = true) (h_ : WL P ops K N ((d_, (.pointer (some ⟨bk, o + j.toNat * sz, none⟩))) :: E) rest w) :
    WL P ops K N E (⟨some d_, .indexAddr xt x i, t, pos, after, none⟩ :: rest) w := WL.step (OpV.indexAddr ht hs hx hi h0 hn) hd_ h_
theorem WL.load1 {p : Addr} (ty : Ty P e false sz bytes z) (hx : evE E x = some (.pointer (some p))) (hc : w.cell? p = some v) (hd_ : Nat.blt d_ N = true) (h_ : WL P ops K N ((d_, v) :: E) rest w) :
    WL P ops K N E (⟨some d_, .load e x, t, pos, after, none⟩ :: rest) w := WL.step (OpV.load1 ty hx hc) hd_ h_
theorem WL.loadK {bk o : Nat} {cs : List Value} (ty : Ty P e true sz bytes z) (hx : evE E x = some (.pointer (some ⟨bk, o, none⟩))) (hl : cs.length = sz) (hc : ∀ j u, cs[j]? = some u → w.cell? ⟨bk, o + j, none⟩ = some u) (hd_ : Nat.blt d_ N = true) (h_ : WL P ops K N ((d_, (.agg cs.toArray)) :: E) rest w) :
    WL P ops K N E (⟨some d_, .load e x, t, pos, after, none⟩ :: rest) w := WL.step (OpV.loadK ty hx hl hc) hd_ h_
theorem WL.fieldAddr {bk o n off : Nat} {ft : TypeId} (ht : P.underlying xt = some (.struct (P.fieldsOf xt))) (hf : ((P.fieldsOf xt)[n]?).map (fun f => (f.offset, f.type)) = some (off, ft)) (ty : Ty P ft agg sz bytes z) (hz : sz ≠ 0) (hx : evE E x = some (.pointer (some ⟨bk, o, none⟩))) (hd_ : Nat.blt d_ N = true) (h_ : WL P ops K N ((d_, (.pointer (some ⟨bk, o + off, none⟩))) :: E) rest w) :
    WL P ops K N E (⟨some d_, .fieldAddr xt x n, t, pos, after, none⟩ :: rest) w := WL.step (OpV.fieldAddr ht hf ty hz hx) hd_ h_
theorem QL.fieldAddr {bk o n off : Nat} {ft : TypeId} (ht : P.underlying xt = some (.struct (P.fieldsOf xt))) (hf : ((P.fieldsOf xt)[n]?).map (fun f => (f.offset, f.type)) = some (off, ft)) (ty : Ty P ft agg sz bytes z) (hz : sz ≠ 0) (hx : evE E x = some (.pointer (some ⟨bk, o, none⟩))) (hd_ : Nat.blt d_ N = true) (h_ : QL P ops C R N ((d_, (.pointer (some ⟨bk, o + off, none⟩))) :: E) rest) :
    QL P ops C R N E (⟨some d_, .fieldAddr xt x n, t, pos, after, none⟩ :: rest) := QL.step (fun _ _ => OpV.fieldAddr ht hf ty hz hx) hd_ h_
theorem RL.fieldAddr {bk o n off : Nat} {ft : TypeId} (ht : P.underlying xt = some (.struct (P.fieldsOf xt))) (hf : ((P.fieldsOf xt)[n]?).map (fun f => (f.offset, f.type)) = some (off, ft)) (ty : Ty P ft agg sz bytes z) (hz : sz ≠ 0) (hx : evE E x = some (.pointer (some ⟨bk, o, none⟩))) (hd_ : Nat.blt d_ N = true) (h_ : R ((d_, (.pointer (some ⟨bk, o + off, none⟩))) :: E)) :
    RL P ops C R N E ⟨some d_, .fieldAddr xt x n, t, pos, after, none⟩ := RL.step (fun _ _ => OpV.fieldAddr ht hf ty hz hx) hd_ h_
theorem WL.field {n off : Nat} {ft : TypeId} {cs : Array Value} (ht : P.underlying xt = some (.struct (P.fieldsOf xt))) (hf : ((P.fieldsOf xt)[n]?).map (fun f => (f.offset, f.type)) = some (off, ft)) (ty : Ty P ft false 1 bytes z) (hx : evE E x = some (.agg cs)) (hv : cs[off]? = some v) (hd_ : Nat.blt d_ N = true) (h_ : WL P ops K N ((d_, v) :: E) rest w) :
    WL P ops K N E (⟨some d_, .field xt x n, t, pos, after, none⟩ :: rest) w := WL.step (OpV.field ht hf ty hx hv) hd_ h_
theorem QL.field {n off : Nat} {ft : TypeId} {cs : Array Value} (ht : P.underlying xt = some (.struct (P.fieldsOf xt))) (hf : ((P.fieldsOf xt)[n]?).map (fun f => (f.offset, f.type)) = some (off, ft)) (ty : Ty P ft false 1 bytes z) (hx : evE E x = some (.agg cs)) (hv : cs[off]? = some v) (hd_ : Nat.blt d_ N = true) (h_ : QL P ops C R N ((d_, v) :: E) rest) :
    QL P ops C R N E (⟨some d_, .field xt x n, t, pos, after, none⟩ :: rest) := QL.step (fun _ _ => OpV.field ht hf ty hx hv) hd_ h_
theorem RL.field {n off : Nat} {ft : TypeId} {cs : Array Value} (ht : P.underlying xt = some (.struct (P.fieldsOf xt))) (hf : ((P.fieldsOf xt)[n]?).map (fun f => (f.offset, f.type)) = some (off, ft)) (ty : Ty P ft false 1 bytes z) (hx : evE E x = some (.agg cs)) (hv : cs[off]? = some v) (hd_ : Nat.blt d_ N = true) (h_ : R ((d_, v) :: E)) :
    RL P ops C R N E ⟨some d_, .field xt x n, t, pos, after, none⟩ := RL.step (fun _ _ => OpV.field ht hf ty hx hv) hd_ h_
theorem WL.build {parts : List (Nat × Operand)} {ps : List (Nat × Value)} {cs : Array Value} (he : evp E parts = some ps) (hb : P.built xt ps = some cs) (hd_ : Nat.blt d_ N = true) (h_ : WL P ops K N ((d_, (.agg cs)) :: E) rest w) :
    WL P ops K N E (⟨some d_, .build xt parts.toArray, t, pos, after, none⟩ :: rest) w := WL.step (OpV.build he hb) hd_ h_
theorem QL.build {parts : List (Nat × Operand)} {ps : List (Nat × Value)} {cs : Array Value} (he : evp E parts = some ps) (hb : P.built xt ps = some cs) (hd_ : Nat.blt d_ N = true) (h_ : QL P ops C R N ((d_, (.agg cs)) :: E) rest) :
    QL P ops C R N E (⟨some d_, .build xt parts.toArray, t, pos, after, none⟩ :: rest) := QL.step (fun _ _ => OpV.build he hb) hd_ h_
theorem RL.build {parts : List (Nat × Operand)} {ps : List (Nat × Value)} {cs : Array Value} (he : evp E parts = some ps) (hb : P.built xt ps = some cs) (hd_ : Nat.blt d_ N = true) (h_ : R ((d_, (.agg cs)) :: E)) :
    RL P ops C R N E ⟨some d_, .build xt parts.toArray, t, pos, after, none⟩ := RL.step (fun _ _ => OpV.build he hb) hd_ h_
theorem WL.eqlSN {e : TypeId} {A : Option Addr} {n c : Nat} (ht : P.underlying xt = some (.slice e)) (hx : evE E x = some (.slice A n c)) (hd_ : Nat.blt d_ N = true) (h_ : WL P ops K N ((d_, (.bool A.isNone)) :: E) rest w) :
    WL P ops K N E (⟨some d_, .binOp .eql xt x (.const (.slice none 0 0)) yt, t, pos, after, none⟩ :: rest) w := WL.step (OpV.eqlSN ht hx) hd_ h_
theorem QL.eqlSN {e : TypeId} {A : Option Addr} {n c : Nat} (ht : P.underlying xt = some (.slice e)) (hx : evE E x = some (.slice A n c)) (hd_ : Nat.blt d_ N = true) (h_ : QL P ops C R N ((d_, (.bool A.isNone)) :: E) rest) :
    QL P ops C R N E (⟨some d_, .binOp .eql xt x (.const (.slice none 0 0)) yt, t, pos, after, none⟩ :: rest) := QL.step (fun _ _ => OpV.eqlSN ht hx) hd_ h_
theorem RL.eqlSN {e : TypeId} {A : Option Addr} {n c : Nat} (ht : P.underlying xt = some (.slice e)) (hx : evE E x = some (.slice A n c)) (hd_ : Nat.blt d_ N = true) (h_ : R ((d_, (.bool A.isNone)) :: E)) :
    RL P ops C R N E ⟨some d_, .binOp .eql xt x (.const (.slice none 0 0)) yt, t, pos, after, none⟩ := RL.step (fun _ _ => OpV.eqlSN ht hx) hd_ h_
theorem WL.sliceTo {e : TypeId} {A : Option Addr} {n c : Nat} {hi : Operand} {j : Int} (ht : P.underlying xt = some (.slice e)) (ty : Ty P e agg sz bytes z) (hx : evE E x = some (.slice A n c)) (hh : evE E hi = some (.int k j)) (h0 : 0 ≤ j) (hc : j ≤ c) (hd_ : Nat.blt d_ N = true) (h_ : WL P ops K N ((d_, (.slice A j.toNat c)) :: E) rest w) :
    WL P ops K N E (⟨some d_, .slice xt x none (some hi) none, t, pos, after, none⟩ :: rest) w := WL.step (OpV.sliceTo ht ty hx hh h0 hc) hd_ h_
theorem QL.sliceTo {e : TypeId} {A : Option Addr} {n c : Nat} {hi : Operand} {j : Int} (ht : P.underlying xt = some (.slice e)) (ty : Ty P e agg sz bytes z) (hx : evE E x = some (.slice A n c)) (hh : evE E hi = some (.int k j)) (h0 : 0 ≤ j) (hc : j ≤ c) (hd_ : Nat.blt d_ N = true) (h_ : QL P ops C R N ((d_, (.slice A j.toNat c)) :: E) rest) :
    QL P ops C R N E (⟨some d_, .slice xt x none (some hi) none, t, pos, after, none⟩ :: rest) := QL.step (fun _ _ => OpV.sliceTo ht ty hx hh h0 hc) hd_ h_
theorem RL.sliceTo {e : TypeId} {A : Option Addr} {n c : Nat} {hi : Operand} {j : Int} (ht : P.underlying xt = some (.slice e)) (ty : Ty P e agg sz bytes z) (hx : evE E x = some (.slice A n c)) (hh : evE E hi = some (.int k j)) (h0 : 0 ≤ j) (hc : j ≤ c) (hd_ : Nat.blt d_ N = true) (h_ : R ((d_, (.slice A j.toNat c)) :: E)) :
    RL P ops C R N E ⟨some d_, .slice xt x none (some hi) none, t, pos, after, none⟩ := RL.step (fun _ _ => OpV.sliceTo ht ty hx hh h0 hc) hd_ h_
theorem WL.sliceFrom {e : TypeId} {A : Option Addr} {n c : Nat} {lo : Operand} {j : Int} (ht : P.underlying xt = some (.slice e)) (ty : Ty P e agg sz bytes z) (hx : evE E x = some (.slice A n c)) (hh : evE E lo = some (.int k j)) (h0 : 0 ≤ j) (hc : j ≤ n) (hd_ : Nat.blt d_ N = true) (h_ : WL P ops K N ((d_, (.slice (if c = j.toNat then A else A.map (·.add (j.toNat * sz))) (n - j.toNat) (c - j.toNat))) :: E) rest w) :
    WL P ops K N E (⟨some d_, .slice xt x (some lo) none none, t, pos, after, none⟩ :: rest) w := WL.step (OpV.sliceFrom ht ty hx hh h0 hc) hd_ h_
theorem QL.sliceFrom {e : TypeId} {A : Option Addr} {n c : Nat} {lo : Operand} {j : Int} (ht : P.underlying xt = some (.slice e)) (ty : Ty P e agg sz bytes z) (hx : evE E x = some (.slice A n c)) (hh : evE E lo = some (.int k j)) (h0 : 0 ≤ j) (hc : j ≤ n) (hd_ : Nat.blt d_ N = true) (h_ : QL P ops C R N ((d_, (.slice (if c = j.toNat then A else A.map (·.add (j.toNat * sz))) (n - j.toNat) (c - j.toNat))) :: E) rest) :
    QL P ops C R N E (⟨some d_, .slice xt x (some lo) none none, t, pos, after, none⟩ :: rest) := QL.step (fun _ _ => OpV.sliceFrom ht ty hx hh h0 hc) hd_ h_
theorem RL.sliceFrom {e : TypeId} {A : Option Addr} {n c : Nat} {lo : Operand} {j : Int} (ht : P.underlying xt = some (.slice e)) (ty : Ty P e agg sz bytes z) (hx : evE E x = some (.slice A n c)) (hh : evE E lo = some (.int k j)) (h0 : 0 ≤ j) (hc : j ≤ n) (hd_ : Nat.blt d_ N = true) (h_ : R ((d_, (.slice (if c = j.toNat then A else A.map (·.add (j.toNat * sz))) (n - j.toNat) (c - j.toNat))) :: E)) :
    RL P ops C R N E ⟨some d_, .slice xt x (some lo) none none, t, pos, after, none⟩ := RL.step (fun _ _ => OpV.sliceFrom ht ty hx hh h0 hc) hd_ h_
end
end
section
variable {P : Program} {ops : Array Oper} {K : Env → World → Prop} {H C : World → Prop} {R : Env → Prop} {Q : Exit → Act → World → Prop} {N d j dj i : Nat} {E : Env} {w : World} {rest : List Oper} {op : Op} {t : TypeId} {pos : String}
  {after : Array Edge} {want : Bool} {d' : Option Nat}
theorem WL.yesA (h : WL P ops K N E (⟨d', op, t, pos, after, none⟩ :: rest) w) (hj : (ops[j]?).bind (·.dst) = some dj := by with_unfolding_all exact rfl) (hb : look E dj = some (.bool want) := by with_unfolding_all exact rfl) :
    WL P ops K N E (⟨d', op, t, pos, after, some (j, want)⟩ :: rest) w := WL.yes hj hb h
theorem WL.noA (h : WL P ops K N ((d, undef) :: E) rest w) (hj : (ops[j]?).bind (·.dst) = some dj := by with_unfolding_all exact rfl) (hb : look E dj = some (.bool !want) := by with_unfolding_all exact rfl)
    (hd : Nat.blt d N = true := by with_unfolding_all exact rfl) : WL P ops K N E (⟨some d, op, t, pos, after, some (j, want)⟩ :: rest) w := WL.no hj hb hd h
theorem WL.noUA (h : WL P ops K N ((d, undef) :: E) rest w) (hj : (ops[j]?).bind (·.dst) = some dj := by with_unfolding_all exact rfl) (hb : look E dj = some undef := by with_unfolding_all exact rfl)
    (hd : Nat.blt d N = true := by with_unfolding_all exact rfl) : WL P ops K N E (⟨some d, op, t, pos, after, some (j, want)⟩ :: rest) w := WL.noU hj hb hd h
theorem QL.yesA (h : QL P ops C R N E (⟨d', op, t, pos, after, none⟩ :: rest)) (hj : (ops[j]?).bind (·.dst) = some dj := by with_unfolding_all exact rfl) (hb : look E dj = some (.bool want) := by with_unfolding_all exact rfl) :
    QL P ops C R N E (⟨d', op, t, pos, after, some (j, want)⟩ :: rest) := QL.yes hj hb h
theorem QL.noA (h : QL P ops C R N ((d, undef) :: E) rest) (hj : (ops[j]?).bind (·.dst) = some dj := by with_unfolding_all exact rfl) (hb : look E dj = some (.bool !want) := by with_unfolding_all exact rfl)
    (hd : Nat.blt d N = true := by with_unfolding_all exact rfl) : QL P ops C R N E (⟨some d, op, t, pos, after, some (j, want)⟩ :: rest) := QL.no hj hb hd h
theorem QL.noUA (h : QL P ops C R N ((d, undef) :: E) rest) (hj : (ops[j]?).bind (·.dst) = some dj := by with_unfolding_all exact rfl) (hb : look E dj = some undef := by with_unfolding_all exact rfl)
    (hd : Nat.blt d N = true := by with_unfolding_all exact rfl) : QL P ops C R N E (⟨some d, op, t, pos, after, some (j, want)⟩ :: rest) := QL.noU hj hb hd h
theorem RL.yesA (h : RL P ops C R N E ⟨d', op, t, pos, after, none⟩) (hj : (ops[j]?).bind (·.dst) = some dj := by with_unfolding_all exact rfl) (hb : look E dj = some (.bool want) := by with_unfolding_all exact rfl) :
    RL P ops C R N E ⟨d', op, t, pos, after, some (j, want)⟩ := RL.yes hj hb h
theorem RL.noA (h : R ((d, undef) :: E)) (hj : (ops[j]?).bind (·.dst) = some dj := by with_unfolding_all exact rfl) (hb : look E dj = some (.bool !want) := by with_unfolding_all exact rfl)
    (hd : Nat.blt d N = true := by with_unfolding_all exact rfl) : RL P ops C R N E ⟨some d, op, t, pos, after, some (j, want)⟩ := RL.no hj hb hd h
theorem RL.noUA (h : R ((d, undef) :: E)) (hj : (ops[j]?).bind (·.dst) = some dj := by with_unfolding_all exact rfl) (hb : look E dj = some undef := by with_unfolding_all exact rfl)
    (hd : Nat.blt d N = true := by with_unfolding_all exact rfl) : RL P ops C R N E ⟨some d, op, t, pos, after, some (j, want)⟩ := RL.noU hj hb hd h
theorem WX.block_oA (h : WX Q (.exit j) N E w) (hne : Nat.beq j i = false := by with_unfolding_all exact rfl) : WX (Exit.inBlock i Q) (.exit j) N E w := WX.block_o hne h
theorem OL.pureA {l : List Oper} {r : List (Nat × Nat)} {o : Oper} (h : RL P l.toArray (fun _ => True) (fun E' => OL P l.toArray H K N E' r w) N E o) (ho' : nthO l i = some o := by with_unfolding_all exact rfl) :
    OL P l.toArray H K N E ((i, 0) :: r) w := OL.pure ho' h
end
end Rk
