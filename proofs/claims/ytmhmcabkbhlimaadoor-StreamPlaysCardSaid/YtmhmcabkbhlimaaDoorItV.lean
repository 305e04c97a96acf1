/- Items as values; what a literal of items makes; errors as numbers. -/
import Derived.Test.YtmhmcabkbhlimaaDoorOrd1
import Derived.Test.YtmhmcabkbhlimaaDoorOwn
namespace Rk
open Go Go.RowKit Go.Proofs
attribute [local irreducible] OpV OpU OpC WL QL WC WX OL RL
abbrev OwnIL (w : World) (B : Nat) (v : Value) (l : List It) : Prop := OwnL itC 2 41 w B v l
abbrev itV (x : It) : Value := .agg (itC x).toArray
theorem OwnL.lit {α : Type} {enc : α → List Value} {k : Nat} (hk : ∀ x, (enc x).length = k) {e : TypeId} {w : World} {B g : Nat} {l : List α} (hb : Bk w g e (l.flatMap enc)) (hB : B ≤ g) (hm : l.length ≤ maxLen) {n : Nat} (hn : n = l.length) :
    OwnL enc k e w B (.slice (some ⟨g, 0, none⟩) n n) l := by
  subst hn
  exact Own.whole hb hB (flat_length hk l) hm
end Rk
