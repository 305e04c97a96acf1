/- Items as values; what a literal of items makes; errors as numbers. -/
import Derived.Test.YtkkbmbkfjfdleaaDoorOrd1
import Derived.Test.YtkkbmbkfjfdleaaDoorLit
namespace Rk
open Go Go.RowKit Go.Proofs
attribute [local irreducible] OpV OpU OpC WL QL WC WX OL RL
abbrev OwnIL (w : World) (B : Nat) (v : Value) (l : List It) : Prop := OwnL itC 2 30 w B v l
abbrev itV (x : It) : Value := .agg (itC x).toArray
end Rk
