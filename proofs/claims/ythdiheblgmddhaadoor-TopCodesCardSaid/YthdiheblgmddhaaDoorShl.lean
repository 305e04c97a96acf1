/- The walk's own rules: powers of two by shifts. -/
import Derived.Test.YthdiheblgmddhaaDoorEx
namespace Rk
open Go Go.RowKit
section
variable {P : Program} {E : Env} {w : World} {t : TypeId} {x y : Operand} {xt yt : TypeId}
theorem OpV.shl1 {j : Nat} {k : IntKind} (hx : evE E x = some (.int .i64 1)) (hy : evE E y = some (.int k (j : Int))) (h : j ≤ 62) : OpV P (.binOp .shl xt x y yt) t E w (.int .i64 ((2 ^ j : Nat) : Int)) w := fun ρ hρ _ _ _ _ => by
  have h1 : IntKind.i64.wrap ((2 : Int) ^ j) = ((2 ^ j : Nat) : Int) := by
    have h2 : (2 : Nat) ^ j ≤ 2 ^ 62 := Nat.pow_le_pow_right (by omega) h
    rw [show ((2 : Int) ^ j) = ((2 ^ j : Nat) : Int) from by simp]
    have h3 : (2 : Nat) ^ 62 = 4611686018427387904 := by decide
    generalize (2 : Nat) ^ j = q at *
    exact wrap_i64 (by omega)
  simp [execOp, hρ _ _ hx, hρ _ _ hy, go_sem, eqGuard, shift_shl .i64 k 1 j (by omega) (by simp [IntKind.bits]; omega), h1]
theorem OpV.dbl {a : Nat} {k : IntKind} (hx : evE E x = some (.int .i64 (a : Int))) (hy : evE E y = some (.int k 1)) (h : a ≤ 4611686018427387903) : OpV P (.binOp .shl xt x y yt) t E w (.int .i64 ((2 * a : Nat) : Int)) w := fun ρ hρ _ _ _ _ => by
  have h1 : IntKind.i64.wrap ((a : Int) * 2 ^ (1 : Int).toNat) = ((2 * a : Nat) : Int) := by
    rw [show ((a : Int) * 2 ^ (1 : Int).toNat) = ((2 * a : Nat) : Int) from by simp; omega]
    exact wrap_i64 (by omega)
  simp [execOp, hρ _ _ hx, hρ _ _ hy, go_sem, eqGuard, shift_shl .i64 k (a : Int) 1 (by omega) (by simp [IntKind.bits])]
  simpa using h1
end
end Rk
