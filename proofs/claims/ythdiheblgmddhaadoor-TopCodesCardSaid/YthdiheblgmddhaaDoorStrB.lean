/- The walk's own rules: strings as lists of bytes, bytes, bits of numbers (no lists of strings). -/
import Derived.Test.YthdiheblgmddhaaDoorExN
import Derived.Test.YthdiheblgmddhaaDoorShl
import Derived.Test.YthdiheblgmddhaaDoorSort
import Derived.Laws.IdiomStrings
import Derived.Laws.DeepStrings4
import Derived.Laws.Concat
namespace Rk
open Go Go.RowKit Go.Proofs
abbrev Bs := List UInt8
/-- a string of bytes -/
abbrev stV (s : Bs) : Value := .string ⟨s.toArray⟩
def stC (s : Bs) : List Value := [stV s]
theorem stC_len (s : Bs) : (stC s).length = 1 := rfl
theorem stC_one (s : Bs) : ∀ u ∈ stC s, u.oneCell' = true := by simp [stC, Value.oneCell']
abbrev byV (b : UInt8) : Value := .int .u8 (b.toNat : Int)
def byC (b : UInt8) : List Value := [.int .u8 (b.toNat : Int)]
theorem byC_len (s : UInt8) : (byC s).length = 1 := rfl
theorem byC_one (s : UInt8) : ∀ u ∈ byC s, u.oneCell' = true := by simp [byC, Value.oneCell']
theorem unStr : Tryd.prog.underlying 9 = some .string := by kernel_rfl
theorem unByte : Tryd.prog.underlying 5 = some (.int .u8) := by kernel_rfl
theorem unIntT : Tryd.prog.underlying 3 = some (.int .i64) := by kernel_rfl
theorem unBytes : Tryd.prog.underlying 54 = some (.slice 5) := by kernel_rfl
theorem tyStr : Ty Tryd.prog 9 false 1 16 (stV []) := Ty.mk' (by kernel_rfl) (fun _ => by kernel_rfl) rfl
theorem tyByte : Ty Tryd.prog 5 false 1 1 (.int .u8 0) := Ty.mk' (by kernel_rfl) (fun _ => by kernel_rfl) rfl
theorem wrap_u8 {n : Int} (h : 0 ≤ n ∧ n ≤ 255) : IntKind.u8.wrap n = n := by rw [IntKind.wrap_u8]; omega
theorem run_wrap1 (a : Int) (h : 0 ≤ a ∧ a ≤ 9223372036854775807) : bits .and .i64 a 1 = a % 2 := by
  obtain ⟨n, rfl⟩ : ∃ n : Nat, a = n := ⟨a.toNat, by omega⟩
  have h1 : (BitVec.ofInt 64 (n : Int) &&& BitVec.ofInt 64 1).toNat = n % 2 := by
    rw [BitVec.toNat_and]
    have e1 : (BitVec.ofInt 64 (n : Int)).toNat = n := by simp [BitVec.toNat_ofInt]; omega
    have e2 : (BitVec.ofInt 64 1).toNat = 1 := by decide
    rw [e1, e2, Nat.and_one_is_mod]
  unfold bits
  show IntKind.i64.wrap ((BitVec.ofInt 64 (n : Int) &&& BitVec.ofInt 64 1).toNat : Int) = _
  rw [h1, wrap_i64 (by omega)]; omega
section
variable {E : Env} {w : World} {t : TypeId} {x y : Operand} {a b : Int} {s r : Bs} {xt yt : TypeId}
theorem OpV.and1 {a : Nat} (hx : evE E x = some (.int .i64 (a : Int))) (hy : evE E y = some (.int .i64 1)) (h : a ≤ 9223372036854775807) : OpV Tryd.prog (.binOp .and xt x y yt) t E w (.int .i64 ((a % 2 : Nat) : Int)) w := fun ρ hρ _ _ _ _ => by
  simp [execOp, hρ _ _ hx, hρ _ _ hy, go_sem, eqGuard, run_wrap1 (a : Int) (by omega)]
theorem OpV.shrN {a i : Nat} (hx : evE E x = some (.int .i64 (a : Int))) (hy : evE E y = some (.int .i64 (i : Int))) (h : i ≤ 62) : OpV Tryd.prog (.binOp .shr xt x y yt) t E w (.int .i64 ((a / 2 ^ i : Nat) : Int)) w := by
  have := OpV.shr (P := Tryd.prog) (t := t) (w := w) (xt := xt) (yt := yt) hx hy (by omega) (by simp [IntKind.bits]; omega)
  rw [show ((a : Int) / 2 ^ ((i : Int)).toNat) = ((a / 2 ^ i : Nat) : Int) from by simp] at this
  exact this
theorem OpV.addB (hx : evE E x = some (.int .u8 a)) (hy : evE E y = some (.int .u8 b)) (h : 0 ≤ a + b ∧ a + b ≤ 255) : OpV Tryd.prog (.binOp .add 5 x y 5) t E w (.int .u8 (a + b)) w := fun ρ hρ _ _ _ _ => by
  simp only [execOp, hρ _ _ hx, hρ _ _ hy, eqGuard, binOp, Op.intArith, wrap_u8 h]; simp [go_sem]
theorem OpV.subB (hx : evE E x = some (.int .u8 a)) (hy : evE E y = some (.int .u8 b)) (h : 0 ≤ a - b ∧ a - b ≤ 255) : OpV Tryd.prog (.binOp .sub 5 x y 5) t E w (.int .u8 (a - b)) w := fun ρ hρ _ _ _ _ => by
  simp only [execOp, hρ _ _ hx, hρ _ _ hy, eqGuard, binOp, Op.intArith, wrap_u8 h]; simp [go_sem]
theorem OpV.toB (hx : evE E x = some (.int .i64 a)) (h : 0 ≤ a ∧ a ≤ 255) : OpV Tryd.prog (.convert 3 5 x) t E w (.int .u8 a) w := OpV.conv ⟨_, unIntT⟩ unByte hx (wrap_u8 h)
theorem OpV.ofB (hx : evE E x = some (.int .u8 a)) (h : 0 ≤ a ∧ a ≤ 255) : OpV Tryd.prog (.convert 5 3 x) t E w (.int .i64 a) w := OpV.conv ⟨_, unByte⟩ unIntT hx (wrap_i64 (by omega))
theorem OpV.lenS (hx : evE E x = some (stV s)) {rt : TypeId} : OpV Tryd.prog (.call { callee := .builtin .len, args := #[x], argTypes := #[9] }) rt E w (.int .i64 (s.length : Nat)) w := fun ρ hρ _ _ _ _ => by
  simp [execOp, resolve, hρ _ _ hx, go_sem, invoke, builtin, run_len_string w _ _ _ unStr, goInt, ByteArray.size]
theorem OpV.eqS (hx : evE E x = some (stV s)) (hy : evE E y = some (stV r)) : OpV Tryd.prog (.binOp .eql 9 x y 9) t E w (.bool (decide (s = r))) w := fun ρ hρ _ _ _ _ => by
  simp [execOp, hρ _ _ hx, hρ _ _ hy, go_sem, eqGuard]; by_cases h : s = r <;> simp [h]
theorem OpV.neS (hx : evE E x = some (stV s)) (hy : evE E y = some (stV r)) : OpV Tryd.prog (.binOp .neq 9 x y 9) t E w (.bool (decide (s ≠ r))) w := fun ρ hρ _ _ _ _ => by
  simp [execOp, hρ _ _ hx, hρ _ _ hy, go_sem, eqGuard]; by_cases h : s = r <;> simp [h]
theorem OpV.idxS {j : Nat} (hx : evE E x = some (stV s)) (hy : evE E y = some (.int .i64 (j : Int))) (h : j < s.length) : OpV Tryd.prog (.index 9 x y) t E w (.int .u8 ((lf s j).toNat : Int)) w := fun ρ hρ _ _ _ _ => by
  have h1 : (0 : Int) ≤ (j : Int) ∧ (j : Int) < ((⟨s.toArray⟩ : ByteArray).size : Int) := by simp [ByteArray.size]; omega
  have h2 : (⟨s.toArray⟩ : ByteArray)[j]'(by simp [ByteArray.size]; omega) = lf s j := by rw [lf_get h]; rfl
  simp only [execOp, hρ _ _ hx, hρ _ _ hy]
  simp [run_index_string w _ _ _ _ unStr, h1, go_sem, h]
  rw [← h2]
theorem OpV.strTo {j : Nat} {hi : Operand} (hx : evE E x = some (stV s)) (hy : evE E hi = some (.int .i64 (j : Int))) (h : j ≤ s.length) : OpV Tryd.prog (.slice 9 x none (some hi) none) t E w (stV (s.take j)) w := fun ρ hρ _ _ _ _ => by
  have h1 : (j : Int) ≤ (s.length : Int) := by omega
  have hz : (⟨s.toArray⟩ : ByteArray).size = s.length := by simp [ByteArray.size]
  have hx2 : (⟨s.toArray⟩ : ByteArray).extract 0 j = ⟨(s.take j).toArray⟩ := by simp [ByteArray.extract_mk]
  simp [execOp, hρ _ _ hx, hρ _ _ hy, Instr.sliceAt, Instr.slice, Instr.sliceBounds, Instr.sliceBound, asIntOf, run_underlying unStr, h1, hz, h, hx2]
theorem OpV.byAddr {bk o n c j : Nat} (hx : evE E x = some (.slice (some ⟨bk, o, none⟩) n c)) (hi : evE E y = some (.int .i64 (j : Int))) (hn : j < n) :
    OpV Tryd.prog (.indexAddr 54 x y) t E w (.pointer (some ⟨bk, o + j * 1, none⟩)) w := OpV.indexAddr unBytes tyByte.size hx hi (by omega) (by omega)
theorem OpV.lenBytes {A : Option Addr} {n c : Nat} (hx : evE E x = some (.slice A n c)) {rt : TypeId} : OpV Tryd.prog (.call { callee := .builtin .len, args := #[x], argTypes := #[54] }) rt E w (.int .i64 n) w := OpV.len_slice unBytes hx
section
variable {ops : Array Oper} {K : Env → World → Prop} {N d_ : Nat} {rest : List Oper} {pos : String} {after : Array Edge} {C : World → Prop} {R : Env → Prop}
theorem WL.and1 {a : Nat} (h_ : WL Tryd.prog ops K N ((d_, (.int .i64 ((a % 2 : Nat) : Int))) :: E) rest w) (hx : evE E x = some (.int .i64 (a : Int)) := by with_unfolding_all exact rfl) (hy : evE E y = some (.int .i64 1) := by with_unfolding_all exact rfl) (h : a ≤ 9223372036854775807 := by omega) (hd_ : Nat.blt d_ N = true := by with_unfolding_all exact rfl) :
    WL Tryd.prog ops K N E (⟨some d_, .binOp .and xt x y yt, t, pos, after, none⟩ :: rest) w := WL.step (OpV.and1 hx hy h) hd_ h_
theorem QL.and1 {a : Nat} (h_ : QL Tryd.prog ops C R N ((d_, (.int .i64 ((a % 2 : Nat) : Int))) :: E) rest) (hx : evE E x = some (.int .i64 (a : Int)) := by with_unfolding_all exact rfl) (hy : evE E y = some (.int .i64 1) := by with_unfolding_all exact rfl) (h : a ≤ 9223372036854775807 := by omega) (hd_ : Nat.blt d_ N = true := by with_unfolding_all exact rfl) :
    QL Tryd.prog ops C R N E (⟨some d_, .binOp .and xt x y yt, t, pos, after, none⟩ :: rest) := QL.step (fun _ _ => OpV.and1 hx hy h) hd_ h_
theorem RL.and1 {a : Nat} (h_ : R ((d_, (.int .i64 ((a % 2 : Nat) : Int))) :: E)) (hx : evE E x = some (.int .i64 (a : Int)) := by with_unfolding_all exact rfl) (hy : evE E y = some (.int .i64 1) := by with_unfolding_all exact rfl) (h : a ≤ 9223372036854775807 := by omega) (hd_ : Nat.blt d_ N = true := by with_unfolding_all exact rfl) :
    RL Tryd.prog ops C R N E ⟨some d_, .binOp .and xt x y yt, t, pos, after, none⟩ := RL.step (fun _ _ => OpV.and1 hx hy h) hd_ h_
theorem WL.shrN {a i : Nat} (h_ : WL Tryd.prog ops K N ((d_, (.int .i64 ((a / 2 ^ i : Nat) : Int))) :: E) rest w) (hx : evE E x = some (.int .i64 (a : Int)) := by with_unfolding_all exact rfl) (hy : evE E y = some (.int .i64 (i : Int)) := by with_unfolding_all exact rfl) (h : i ≤ 62 := by omega) (hd_ : Nat.blt d_ N = true := by with_unfolding_all exact rfl) :
    WL Tryd.prog ops K N E (⟨some d_, .binOp .shr xt x y yt, t, pos, after, none⟩ :: rest) w := WL.step (OpV.shrN hx hy h) hd_ h_
theorem QL.shrN {a i : Nat} (h_ : QL Tryd.prog ops C R N ((d_, (.int .i64 ((a / 2 ^ i : Nat) : Int))) :: E) rest) (hx : evE E x = some (.int .i64 (a : Int)) := by with_unfolding_all exact rfl) (hy : evE E y = some (.int .i64 (i : Int)) := by with_unfolding_all exact rfl) (h : i ≤ 62 := by omega) (hd_ : Nat.blt d_ N = true := by with_unfolding_all exact rfl) :
    QL Tryd.prog ops C R N E (⟨some d_, .binOp .shr xt x y yt, t, pos, after, none⟩ :: rest) := QL.step (fun _ _ => OpV.shrN hx hy h) hd_ h_
theorem RL.shrN {a i : Nat} (h_ : R ((d_, (.int .i64 ((a / 2 ^ i : Nat) : Int))) :: E)) (hx : evE E x = some (.int .i64 (a : Int)) := by with_unfolding_all exact rfl) (hy : evE E y = some (.int .i64 (i : Int)) := by with_unfolding_all exact rfl) (h : i ≤ 62 := by omega) (hd_ : Nat.blt d_ N = true := by with_unfolding_all exact rfl) :
    RL Tryd.prog ops C R N E ⟨some d_, .binOp .shr xt x y yt, t, pos, after, none⟩ := RL.step (fun _ _ => OpV.shrN hx hy h) hd_ h_
theorem WL.addB  (h_ : WL Tryd.prog ops K N ((d_, (.int .u8 (a + b))) :: E) rest w) (hx : evE E x = some (.int .u8 a) := by with_unfolding_all exact rfl) (hy : evE E y = some (.int .u8 b) := by with_unfolding_all exact rfl) (h : 0 ≤ a + b ∧ a + b ≤ 255 := by omega) (hd_ : Nat.blt d_ N = true := by with_unfolding_all exact rfl) :
    WL Tryd.prog ops K N E (⟨some d_, .binOp .add 5 x y 5, t, pos, after, none⟩ :: rest) w := WL.step (OpV.addB hx hy h) hd_ h_
theorem QL.addB  (h_ : QL Tryd.prog ops C R N ((d_, (.int .u8 (a + b))) :: E) rest) (hx : evE E x = some (.int .u8 a) := by with_unfolding_all exact rfl) (hy : evE E y = some (.int .u8 b) := by with_unfolding_all exact rfl) (h : 0 ≤ a + b ∧ a + b ≤ 255 := by omega) (hd_ : Nat.blt d_ N = true := by with_unfolding_all exact rfl) :
    QL Tryd.prog ops C R N E (⟨some d_, .binOp .add 5 x y 5, t, pos, after, none⟩ :: rest) := QL.step (fun _ _ => OpV.addB hx hy h) hd_ h_
theorem RL.addB  (h_ : R ((d_, (.int .u8 (a + b))) :: E)) (hx : evE E x = some (.int .u8 a) := by with_unfolding_all exact rfl) (hy : evE E y = some (.int .u8 b) := by with_unfolding_all exact rfl) (h : 0 ≤ a + b ∧ a + b ≤ 255 := by omega) (hd_ : Nat.blt d_ N = true := by with_unfolding_all exact rfl) :
    RL Tryd.prog ops C R N E ⟨some d_, .binOp .add 5 x y 5, t, pos, after, none⟩ := RL.step (fun _ _ => OpV.addB hx hy h) hd_ h_
theorem WL.subB  (h_ : WL Tryd.prog ops K N ((d_, (.int .u8 (a - b))) :: E) rest w) (hx : evE E x = some (.int .u8 a) := by with_unfolding_all exact rfl) (hy : evE E y = some (.int .u8 b) := by with_unfolding_all exact rfl) (h : 0 ≤ a - b ∧ a - b ≤ 255 := by omega) (hd_ : Nat.blt d_ N = true := by with_unfolding_all exact rfl) :
    WL Tryd.prog ops K N E (⟨some d_, .binOp .sub 5 x y 5, t, pos, after, none⟩ :: rest) w := WL.step (OpV.subB hx hy h) hd_ h_
theorem QL.subB  (h_ : QL Tryd.prog ops C R N ((d_, (.int .u8 (a - b))) :: E) rest) (hx : evE E x = some (.int .u8 a) := by with_unfolding_all exact rfl) (hy : evE E y = some (.int .u8 b) := by with_unfolding_all exact rfl) (h : 0 ≤ a - b ∧ a - b ≤ 255 := by omega) (hd_ : Nat.blt d_ N = true := by with_unfolding_all exact rfl) :
    QL Tryd.prog ops C R N E (⟨some d_, .binOp .sub 5 x y 5, t, pos, after, none⟩ :: rest) := QL.step (fun _ _ => OpV.subB hx hy h) hd_ h_
theorem RL.subB  (h_ : R ((d_, (.int .u8 (a - b))) :: E)) (hx : evE E x = some (.int .u8 a) := by with_unfolding_all exact rfl) (hy : evE E y = some (.int .u8 b) := by with_unfolding_all exact rfl) (h : 0 ≤ a - b ∧ a - b ≤ 255 := by omega) (hd_ : Nat.blt d_ N = true := by with_unfolding_all exact rfl) :
    RL Tryd.prog ops C R N E ⟨some d_, .binOp .sub 5 x y 5, t, pos, after, none⟩ := RL.step (fun _ _ => OpV.subB hx hy h) hd_ h_
theorem WL.toB  (h_ : WL Tryd.prog ops K N ((d_, (.int .u8 a)) :: E) rest w) (hx : evE E x = some (.int .i64 a) := by with_unfolding_all exact rfl) (h : 0 ≤ a ∧ a ≤ 255 := by omega) (hd_ : Nat.blt d_ N = true := by with_unfolding_all exact rfl) :
    WL Tryd.prog ops K N E (⟨some d_, .convert 3 5 x, t, pos, after, none⟩ :: rest) w := WL.step (OpV.toB hx h) hd_ h_
theorem QL.toB  (h_ : QL Tryd.prog ops C R N ((d_, (.int .u8 a)) :: E) rest) (hx : evE E x = some (.int .i64 a) := by with_unfolding_all exact rfl) (h : 0 ≤ a ∧ a ≤ 255 := by omega) (hd_ : Nat.blt d_ N = true := by with_unfolding_all exact rfl) :
    QL Tryd.prog ops C R N E (⟨some d_, .convert 3 5 x, t, pos, after, none⟩ :: rest) := QL.step (fun _ _ => OpV.toB hx h) hd_ h_
theorem RL.toB  (h_ : R ((d_, (.int .u8 a)) :: E)) (hx : evE E x = some (.int .i64 a) := by with_unfolding_all exact rfl) (h : 0 ≤ a ∧ a ≤ 255 := by omega) (hd_ : Nat.blt d_ N = true := by with_unfolding_all exact rfl) :
    RL Tryd.prog ops C R N E ⟨some d_, .convert 3 5 x, t, pos, after, none⟩ := RL.step (fun _ _ => OpV.toB hx h) hd_ h_
theorem WL.ofB  (h_ : WL Tryd.prog ops K N ((d_, (.int .i64 a)) :: E) rest w) (hx : evE E x = some (.int .u8 a) := by with_unfolding_all exact rfl) (h : 0 ≤ a ∧ a ≤ 255 := by omega) (hd_ : Nat.blt d_ N = true := by with_unfolding_all exact rfl) :
    WL Tryd.prog ops K N E (⟨some d_, .convert 5 3 x, t, pos, after, none⟩ :: rest) w := WL.step (OpV.ofB hx h) hd_ h_
theorem QL.ofB  (h_ : QL Tryd.prog ops C R N ((d_, (.int .i64 a)) :: E) rest) (hx : evE E x = some (.int .u8 a) := by with_unfolding_all exact rfl) (h : 0 ≤ a ∧ a ≤ 255 := by omega) (hd_ : Nat.blt d_ N = true := by with_unfolding_all exact rfl) :
    QL Tryd.prog ops C R N E (⟨some d_, .convert 5 3 x, t, pos, after, none⟩ :: rest) := QL.step (fun _ _ => OpV.ofB hx h) hd_ h_
theorem RL.ofB  (h_ : R ((d_, (.int .i64 a)) :: E)) (hx : evE E x = some (.int .u8 a) := by with_unfolding_all exact rfl) (h : 0 ≤ a ∧ a ≤ 255 := by omega) (hd_ : Nat.blt d_ N = true := by with_unfolding_all exact rfl) :
    RL Tryd.prog ops C R N E ⟨some d_, .convert 5 3 x, t, pos, after, none⟩ := RL.step (fun _ _ => OpV.ofB hx h) hd_ h_
theorem WL.lenS {rt : TypeId} (h_ : WL Tryd.prog ops K N ((d_, (.int .i64 (s.length : Nat))) :: E) rest w) (hx : evE E x = some (stV s) := by with_unfolding_all exact rfl) (hd_ : Nat.blt d_ N = true := by with_unfolding_all exact rfl) :
    WL Tryd.prog ops K N E (⟨some d_, .call { callee := .builtin .len, args := #[x], argTypes := #[9] }, rt, pos, after, none⟩ :: rest) w := WL.step (OpV.lenS hx) hd_ h_
theorem QL.lenS {rt : TypeId} (h_ : QL Tryd.prog ops C R N ((d_, (.int .i64 (s.length : Nat))) :: E) rest) (hx : evE E x = some (stV s) := by with_unfolding_all exact rfl) (hd_ : Nat.blt d_ N = true := by with_unfolding_all exact rfl) :
    QL Tryd.prog ops C R N E (⟨some d_, .call { callee := .builtin .len, args := #[x], argTypes := #[9] }, rt, pos, after, none⟩ :: rest) := QL.step (fun _ _ => OpV.lenS hx) hd_ h_
theorem RL.lenS {rt : TypeId} (h_ : R ((d_, (.int .i64 (s.length : Nat))) :: E)) (hx : evE E x = some (stV s) := by with_unfolding_all exact rfl) (hd_ : Nat.blt d_ N = true := by with_unfolding_all exact rfl) :
    RL Tryd.prog ops C R N E ⟨some d_, .call { callee := .builtin .len, args := #[x], argTypes := #[9] }, rt, pos, after, none⟩ := RL.step (fun _ _ => OpV.lenS hx) hd_ h_
theorem WL.eqS  (h_ : WL Tryd.prog ops K N ((d_, (.bool (decide (s = r)))) :: E) rest w) (hx : evE E x = some (stV s) := by with_unfolding_all exact rfl) (hy : evE E y = some (stV r) := by with_unfolding_all exact rfl) (hd_ : Nat.blt d_ N = true := by with_unfolding_all exact rfl) :
    WL Tryd.prog ops K N E (⟨some d_, .binOp .eql 9 x y 9, t, pos, after, none⟩ :: rest) w := WL.step (OpV.eqS hx hy) hd_ h_
theorem QL.eqS  (h_ : QL Tryd.prog ops C R N ((d_, (.bool (decide (s = r)))) :: E) rest) (hx : evE E x = some (stV s) := by with_unfolding_all exact rfl) (hy : evE E y = some (stV r) := by with_unfolding_all exact rfl) (hd_ : Nat.blt d_ N = true := by with_unfolding_all exact rfl) :
    QL Tryd.prog ops C R N E (⟨some d_, .binOp .eql 9 x y 9, t, pos, after, none⟩ :: rest) := QL.step (fun _ _ => OpV.eqS hx hy) hd_ h_
theorem RL.eqS  (h_ : R ((d_, (.bool (decide (s = r)))) :: E)) (hx : evE E x = some (stV s) := by with_unfolding_all exact rfl) (hy : evE E y = some (stV r) := by with_unfolding_all exact rfl) (hd_ : Nat.blt d_ N = true := by with_unfolding_all exact rfl) :
    RL Tryd.prog ops C R N E ⟨some d_, .binOp .eql 9 x y 9, t, pos, after, none⟩ := RL.step (fun _ _ => OpV.eqS hx hy) hd_ h_
theorem WL.neS  (h_ : WL Tryd.prog ops K N ((d_, (.bool (decide (s ≠ r)))) :: E) rest w) (hx : evE E x = some (stV s) := by with_unfolding_all exact rfl) (hy : evE E y = some (stV r) := by with_unfolding_all exact rfl) (hd_ : Nat.blt d_ N = true := by with_unfolding_all exact rfl) :
    WL Tryd.prog ops K N E (⟨some d_, .binOp .neq 9 x y 9, t, pos, after, none⟩ :: rest) w := WL.step (OpV.neS hx hy) hd_ h_
theorem QL.neS  (h_ : QL Tryd.prog ops C R N ((d_, (.bool (decide (s ≠ r)))) :: E) rest) (hx : evE E x = some (stV s) := by with_unfolding_all exact rfl) (hy : evE E y = some (stV r) := by with_unfolding_all exact rfl) (hd_ : Nat.blt d_ N = true := by with_unfolding_all exact rfl) :
    QL Tryd.prog ops C R N E (⟨some d_, .binOp .neq 9 x y 9, t, pos, after, none⟩ :: rest) := QL.step (fun _ _ => OpV.neS hx hy) hd_ h_
theorem RL.neS  (h_ : R ((d_, (.bool (decide (s ≠ r)))) :: E)) (hx : evE E x = some (stV s) := by with_unfolding_all exact rfl) (hy : evE E y = some (stV r) := by with_unfolding_all exact rfl) (hd_ : Nat.blt d_ N = true := by with_unfolding_all exact rfl) :
    RL Tryd.prog ops C R N E ⟨some d_, .binOp .neq 9 x y 9, t, pos, after, none⟩ := RL.step (fun _ _ => OpV.neS hx hy) hd_ h_
theorem WL.idxS {j : Nat} (h_ : WL Tryd.prog ops K N ((d_, (.int .u8 ((lf s j).toNat : Int))) :: E) rest w) (hx : evE E x = some (stV s) := by with_unfolding_all exact rfl) (hy : evE E y = some (.int .i64 (j : Int)) := by with_unfolding_all exact rfl) (h : j < s.length := by omega) (hd_ : Nat.blt d_ N = true := by with_unfolding_all exact rfl) :
    WL Tryd.prog ops K N E (⟨some d_, .index 9 x y, t, pos, after, none⟩ :: rest) w := WL.step (OpV.idxS hx hy h) hd_ h_
theorem QL.idxS {j : Nat} (h_ : QL Tryd.prog ops C R N ((d_, (.int .u8 ((lf s j).toNat : Int))) :: E) rest) (hx : evE E x = some (stV s) := by with_unfolding_all exact rfl) (hy : evE E y = some (.int .i64 (j : Int)) := by with_unfolding_all exact rfl) (h : j < s.length := by omega) (hd_ : Nat.blt d_ N = true := by with_unfolding_all exact rfl) :
    QL Tryd.prog ops C R N E (⟨some d_, .index 9 x y, t, pos, after, none⟩ :: rest) := QL.step (fun _ _ => OpV.idxS hx hy h) hd_ h_
theorem RL.idxS {j : Nat} (h_ : R ((d_, (.int .u8 ((lf s j).toNat : Int))) :: E)) (hx : evE E x = some (stV s) := by with_unfolding_all exact rfl) (hy : evE E y = some (.int .i64 (j : Int)) := by with_unfolding_all exact rfl) (h : j < s.length := by omega) (hd_ : Nat.blt d_ N = true := by with_unfolding_all exact rfl) :
    RL Tryd.prog ops C R N E ⟨some d_, .index 9 x y, t, pos, after, none⟩ := RL.step (fun _ _ => OpV.idxS hx hy h) hd_ h_
theorem WL.strTo {j : Nat} {hi : Operand} (h_ : WL Tryd.prog ops K N ((d_, (stV (s.take j))) :: E) rest w) (hx : evE E x = some (stV s) := by with_unfolding_all exact rfl) (hy : evE E hi = some (.int .i64 (j : Int)) := by with_unfolding_all exact rfl) (h : j ≤ s.length := by omega) (hd_ : Nat.blt d_ N = true := by with_unfolding_all exact rfl) :
    WL Tryd.prog ops K N E (⟨some d_, .slice 9 x none (some hi) none, t, pos, after, none⟩ :: rest) w := WL.step (OpV.strTo hx hy h) hd_ h_
theorem QL.strTo {j : Nat} {hi : Operand} (h_ : QL Tryd.prog ops C R N ((d_, (stV (s.take j))) :: E) rest) (hx : evE E x = some (stV s) := by with_unfolding_all exact rfl) (hy : evE E hi = some (.int .i64 (j : Int)) := by with_unfolding_all exact rfl) (h : j ≤ s.length := by omega) (hd_ : Nat.blt d_ N = true := by with_unfolding_all exact rfl) :
    QL Tryd.prog ops C R N E (⟨some d_, .slice 9 x none (some hi) none, t, pos, after, none⟩ :: rest) := QL.step (fun _ _ => OpV.strTo hx hy h) hd_ h_
theorem RL.strTo {j : Nat} {hi : Operand} (h_ : R ((d_, (stV (s.take j))) :: E)) (hx : evE E x = some (stV s) := by with_unfolding_all exact rfl) (hy : evE E hi = some (.int .i64 (j : Int)) := by with_unfolding_all exact rfl) (h : j ≤ s.length := by omega) (hd_ : Nat.blt d_ N = true := by with_unfolding_all exact rfl) :
    RL Tryd.prog ops C R N E ⟨some d_, .slice 9 x none (some hi) none, t, pos, after, none⟩ := RL.step (fun _ _ => OpV.strTo hx hy h) hd_ h_
theorem WL.byAddr {bk o n c j : Nat} (h_ : WL Tryd.prog ops K N ((d_, (.pointer (some ⟨bk, o + j * 1, none⟩))) :: E) rest w) (hx : evE E x = some (.slice (some ⟨bk, o, none⟩) n c) := by with_unfolding_all exact rfl) (hi : evE E y = some (.int .i64 (j : Int)) := by with_unfolding_all exact rfl) (hn : j < n := by omega) (hd_ : Nat.blt d_ N = true := by with_unfolding_all exact rfl) :
    WL Tryd.prog ops K N E (⟨some d_, .indexAddr 54 x y, t, pos, after, none⟩ :: rest) w := WL.step (OpV.byAddr hx hi hn) hd_ h_
theorem QL.byAddr {bk o n c j : Nat} (h_ : QL Tryd.prog ops C R N ((d_, (.pointer (some ⟨bk, o + j * 1, none⟩))) :: E) rest) (hx : evE E x = some (.slice (some ⟨bk, o, none⟩) n c) := by with_unfolding_all exact rfl) (hi : evE E y = some (.int .i64 (j : Int)) := by with_unfolding_all exact rfl) (hn : j < n := by omega) (hd_ : Nat.blt d_ N = true := by with_unfolding_all exact rfl) :
    QL Tryd.prog ops C R N E (⟨some d_, .indexAddr 54 x y, t, pos, after, none⟩ :: rest) := QL.step (fun _ _ => OpV.byAddr hx hi hn) hd_ h_
theorem RL.byAddr {bk o n c j : Nat} (h_ : R ((d_, (.pointer (some ⟨bk, o + j * 1, none⟩))) :: E)) (hx : evE E x = some (.slice (some ⟨bk, o, none⟩) n c) := by with_unfolding_all exact rfl) (hi : evE E y = some (.int .i64 (j : Int)) := by with_unfolding_all exact rfl) (hn : j < n := by omega) (hd_ : Nat.blt d_ N = true := by with_unfolding_all exact rfl) :
    RL Tryd.prog ops C R N E ⟨some d_, .indexAddr 54 x y, t, pos, after, none⟩ := RL.step (fun _ _ => OpV.byAddr hx hi hn) hd_ h_
theorem WL.lenBytes {A : Option Addr} {n c : Nat} {rt : TypeId} (h_ : WL Tryd.prog ops K N ((d_, (.int .i64 n)) :: E) rest w) (hx : evE E x = some (.slice A n c) := by with_unfolding_all exact rfl) (hd_ : Nat.blt d_ N = true := by with_unfolding_all exact rfl) :
    WL Tryd.prog ops K N E (⟨some d_, .call { callee := .builtin .len, args := #[x], argTypes := #[54] }, rt, pos, after, none⟩ :: rest) w := WL.step (OpV.lenBytes hx) hd_ h_
theorem QL.lenBytes {A : Option Addr} {n c : Nat} {rt : TypeId} (h_ : QL Tryd.prog ops C R N ((d_, (.int .i64 n)) :: E) rest) (hx : evE E x = some (.slice A n c) := by with_unfolding_all exact rfl) (hd_ : Nat.blt d_ N = true := by with_unfolding_all exact rfl) :
    QL Tryd.prog ops C R N E (⟨some d_, .call { callee := .builtin .len, args := #[x], argTypes := #[54] }, rt, pos, after, none⟩ :: rest) := QL.step (fun _ _ => OpV.lenBytes hx) hd_ h_
theorem RL.lenBytes {A : Option Addr} {n c : Nat} {rt : TypeId} (h_ : R ((d_, (.int .i64 n)) :: E)) (hx : evE E x = some (.slice A n c) := by with_unfolding_all exact rfl) (hd_ : Nat.blt d_ N = true := by with_unfolding_all exact rfl) :
    RL Tryd.prog ops C R N E ⟨some d_, .call { callee := .builtin .len, args := #[x], argTypes := #[54] }, rt, pos, after, none⟩ := RL.step (fun _ _ => OpV.lenBytes hx) hd_ h_
end
end
section
variable {ops : Array Oper} {K : Env → World → Prop} {R : Env → Prop} {N : Nat} {E : Env} {rest : List Oper} {w : World} {t : TypeId} {pos : String} {after : Array Edge} {d : Nat} {x : Operand} {b o i n : Nat} {f : Nat → UInt8}
theorem WL.ldByte (h : WL Tryd.prog ops K N ((d, byV (f i)) :: E) rest w) (hx : evE E x = some (.pointer (some ⟨b, o + i * 1, none⟩)) := by with_unfolding_all exact rfl) (hr : RowOf byC 1 w (some ⟨b, o, none⟩) n f := by first | assumption | exact OwnS.toRow (by assumption)) (hi : i < n := by omega) (hd : Nat.blt d N = true := by with_unfolding_all exact rfl) : WL Tryd.prog ops K N E (⟨some d, .load 5 x, t, pos, after, none⟩ :: rest) w := WL.step (OpV.load1 tyByte hx (hr.get hi 0 _ rfl)) hd h
theorem QL.ldByte (h : QL Tryd.prog ops (fun w' => Below w.heap.size w w') R N ((d, byV (f i)) :: E) rest) (hx : evE E x = some (.pointer (some ⟨b, o + i * 1, none⟩)) := by with_unfolding_all exact rfl) (hr : RowOf byC 1 w (some ⟨b, o, none⟩) n f := by first | assumption | exact OwnS.toRow (by assumption)) (hi : i < n := by omega) (hd : Nat.blt d N = true := by with_unfolding_all exact rfl) : QL Tryd.prog ops (fun w' => Below w.heap.size w w') R N E (⟨some d, .load 5 x, t, pos, after, none⟩ :: rest) := QL.step (fun _ hw => (OpV.load1 tyByte hx ((hr.below hw).get hi 0 _ rfl))) hd h
theorem RL.ldByteB (h : R ((d, byV (f i)) :: E)) (hx : evE E x = some (.pointer (some ⟨b, o + i * 1, none⟩)) := by with_unfolding_all exact rfl) (hr : RowOf byC 1 w (some ⟨b, o, none⟩) n f := by first | assumption | exact OwnS.toRow (by assumption)) (hi : i < n := by omega) (hd : Nat.blt d N = true := by with_unfolding_all exact rfl) : RL Tryd.prog ops (fun w' => Below w.heap.size w w') R N E ⟨some d, .load 5 x, t, pos, after, none⟩ := RL.step (fun _ hw => (OpV.load1 tyByte hx ((hr.below hw).get hi 0 _ rfl))) hd h
theorem RL.ldByteH (h : R ((d, byV (f i)) :: E)) (hx : evE E x = some (.pointer (some ⟨b, o + i * 1, none⟩)) := by with_unfolding_all exact rfl) (hr : RowOf byC 1 w (some ⟨b, o, none⟩) n f := by first | assumption | exact OwnS.toRow (by assumption)) (hi : i < n := by omega) (hd : Nat.blt d N = true := by with_unfolding_all exact rfl) : RL Tryd.prog ops (fun w' => w'.heap = w.heap) R N E ⟨some d, .load 5 x, t, pos, after, none⟩ := RL.step (fun _ hw => (OpV.load1 tyByte hx ((hr.heap hw).get hi 0 _ rfl))) hd h
end
/-- string(b) -/
theorem OpV.bytesStr {E : Env} {w : World} {t : TypeId} {x : Operand} {bk o n c : Nat} {f : Nat → UInt8} (hx : evE E x = some (.slice (some ⟨bk, o, none⟩) n c)) (hr : RowOf byC 1 w (some ⟨bk, o, none⟩) n f) :
    OpV Tryd.prog (.convert 54 9 x) t E w (stV (segL f n)) w := fun ρ hρ _ _ _ _ => by
  have h := run_convert_bytes_back (P := Tryd.prog) w 54 9 5 ⟨bk, o, none⟩ c (segL f n) unBytes unByte unStr (fun j hj => by
    rw [segL_length] at hj
    obtain ⟨b', o', e, _, hc⟩ := hr (by omega)
    cases e
    have := hc j hj 0 (.int .u8 ((f j).toNat : Int)) rfl
    rw [segL_get]
    have hp : (⟨bk, o, none⟩ : Addr).add j = ⟨bk, o + j, none⟩ := by unfold Addr.add; split <;> simp_all
    rw [hp]
    simpa using this)
  rw [segL_length] at h
  simp [execOp, hρ _ _ hx, h]
/-- string(b), of bytes of one's own -/
theorem OpV.bytesStrL {E : Env} {w : World} {t : TypeId} {x : Operand} {A : Option Addr} {c B : Nat} {l : Bs} (hx : evE E x = some (.slice A l.length c)) (ho : OwnL byC 1 5 w B (.slice A l.length c) l) :
    OpV Tryd.prog (.convert 54 9 x) t E w (stV l) w := by
  by_cases h : l = []
  · subst h
    intro ρ hρ _ _ _ _
    have h0 : (convert 54 9 (.slice A 0 c)).run Tryd.prog w = .ok (.string ⟨#[]⟩) w := by
      rw [run_convert_bytes_string w _ _ 5 A 0 c unBytes unByte unStr]
      cases A <;> simp [Conv.bytesToString, loadCells]
      all_goals rfl
    simp [execOp, hρ _ _ hx, h0]
  · obtain ⟨g, cap, hv, hS⟩ := ho.toS byC_len h
    obtain ⟨rfl, rfl⟩ : A = some ⟨g, 0, none⟩ ∧ c = cap := by injection hv with a b c; exact ⟨a, c⟩
    have := OpV.bytesStr (t := t) hx hS.toRow
    rw [segL_lf] at this
    exact this
end Rk
