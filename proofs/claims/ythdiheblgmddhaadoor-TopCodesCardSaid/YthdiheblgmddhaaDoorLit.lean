/- What a literal makes. -/
import Derived.Test.YthdiheblgmddhaaDoorOwn
namespace Rk
open Go Go.RowKit
theorem OwnL.lit {α : Type} {enc : α → List Value} {k : Nat} (hk : ∀ x, (enc x).length = k) {e : TypeId} {w : World} {B g : Nat} {l : List α} (hb : Bk w g e (l.flatMap enc)) (hB : B ≤ g) (hm : l.length ≤ maxLen) {n : Nat} (hn : n = l.length) :
    OwnL enc k e w B (.slice (some ⟨g, 0, none⟩) n n) l := by
  subst hn
  exact Own.whole hb hB (flat_length hk l) hm
end Rk
