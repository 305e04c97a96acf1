/- Numbers that a heap holds, as the walk wants them. -/
import Derived.Test.YtkgdfkgkkjcahaaCell
import Derived.Test.YtkgdfkgkkjcahaaInts
import Derived.Test.YtkgdfkgkkjcahaaGH2
namespace Rk
open Go Go.RowKit Go.Proofs
abbrev El_int := Int
abbrev enc_int (x : El_int) : List Value := inC x
abbrev val_int (x : El_int) : Value := .int .i64 x
theorem enc_len_int (x : El_int) : (enc_int x).length = 1 := rfl
theorem enc_one_int (x : El_int) : ∀ u ∈ enc_int x, u.oneCell' = true := inC_one x
theorem val_cells_int (x : El_int) : (val_int x).cells.toList = enc_int x := rfl
theorem tyT_int : Ty Try.prog 3 false 1 8 (.int .i64 0) := tyInt
def okE_int (_ : El_int) : Prop := True
end Rk
