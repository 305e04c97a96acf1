/- Items as values; what a literal of items makes; errors as numbers. -/
import Derived.Test.YtlocmbnbfjonbaaDoorOrd1
import Derived.Test.YtlocmbnbfjonbaaDoorLit
namespace Rk
open Go Go.RowKit Go.Proofs
attribute [local irreducible] OpV OpU OpC WL QL WC WX OL RL
abbrev OwnIL (w : World) (B : Nat) (v : Value) (l : List It) : Prop := OwnL itC 2 42 w B v l
abbrev itV (x : It) : Value := .agg (itC x).toArray
end Rk
