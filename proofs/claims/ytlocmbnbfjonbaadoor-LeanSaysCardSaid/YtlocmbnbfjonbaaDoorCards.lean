/-
  DERIVED. GIVEN WITH THE SEED: THE CARDS: each row of YtlocmbnbfjonbaaDoorRows.lean that lists a variable, with what it lists TIED to the program's text (the seventh form; the later family's looks); each row that meets fmt, with fmt's text TOLD by the authors' own Lean function (tested against real Go, not proved from fmt's source: count such statements apart). THE CARD IS WHAT COUNTS. Prove the row's statement (the work); the ties are given (YtlocmbnbfjonbaaDoorTie.lean); close each card by the builder's one call (the guide's Derived/Test/ToyasCard.lean, 'card_holds'). Laid BY PROGRAM, IN A SANDBOX (cutbox-door.mjs). By AI agents, Wed Nov 11 2026. No macro, syntax, notation, axiom, sorry.
-/
import Derived.Test.YtlocmbnbfjonbaaDoorRows
import GoSem.ClaimSeven
namespace Go.Proofs.YtlocmbnbfjonbaaDoor
namespace Rows

/-- THE TIED CARD OF 'ricksteadlaw1.LeanSame'. -/
def leanSameCard : Claim7 := { stood := { row := leanSameRow, standIns := [], harness := (true, "6fd5ef8a4062d5c92f3f7ca01b9d9032ba655154012a8dee24a1866fa96dfa12"), looks := true }, kinds := [], alts := [], laidByText := true, laidKinds := [.handle], laidTests := true, laidLooks := .later }
def LeanSameCardSaid : Prop := Claim7.holds Tryd.pinned (.plain (OpenSpec.ofChange leanSameSpec)) leanSameCard

/-- THE TIED CARD OF 'ricksteadlaw1.LeanSpine'. -/
def leanSpineCard : Claim7 := { stood := { row := leanSpineRow, standIns := [], harness := (true, "6fd5ef8a4062d5c92f3f7ca01b9d9032ba655154012a8dee24a1866fa96dfa12"), looks := true }, kinds := [], alts := [], laidByText := true, laidKinds := [.handle], laidTests := true, laidLooks := .later }
def LeanSpineCardSaid : Prop := Claim7.holds Tryd.pinned (.plain (OpenSpec.ofChange leanSpineSpec)) leanSpineCard

/-- THE TIED CARD OF 'ricksteadlaw1.LeanHolds'. -/
def leanHoldsCard : Claim7 := { stood := { row := leanHoldsRow, standIns := [], harness := (true, "6fd5ef8a4062d5c92f3f7ca01b9d9032ba655154012a8dee24a1866fa96dfa12"), looks := true }, kinds := [], alts := [], laidByText := true, laidKinds := [.handle], laidTests := true, laidLooks := .later }
def LeanHoldsCardSaid : Prop := Claim7.holds Tryd.pinned (.plain (OpenSpec.ofChange leanHoldsSpec)) leanHoldsCard

/-- THE TIED CARD OF 'ricksteadlaw1.LeanSays'. -/
def leanSaysCard : Claim7 := { stood := { row := leanSaysRow, standIns := [], harness := (true, "6fd5ef8a4062d5c92f3f7ca01b9d9032ba655154012a8dee24a1866fa96dfa12"), looks := true }, kinds := [], alts := [], laidByText := true, laidKinds := [.handle], laidTests := true, laidLooks := .later }
def LeanSaysCardSaid : Prop := Claim7.holds Tryd.pinned (.plain (OpenSpec.ofChange leanSaysSpec)) leanSaysCard

/-- THE TIED CARD OF 'ricksteadlaw1.BinoDigits'. -/
def binoDigitsCard : Claim7 := { stood := { row := binoDigitsRow, standIns := [], harness := (true, "6fd5ef8a4062d5c92f3f7ca01b9d9032ba655154012a8dee24a1866fa96dfa12"), looks := true }, kinds := [], alts := [], laidByText := true, laidKinds := [.handle], laidTests := true, laidLooks := .later }
def BinoDigitsCardSaid : Prop := Claim7.holds Tryd.pinned (.plain (OpenSpec.ofChange binoDigitsSpec)) binoDigitsCard

/-- THE TIED CARD OF 'ricksteadlaw1.BinoSays'. -/
def binoSaysCard : Claim7 := { stood := { row := binoSaysRow, standIns := [], harness := (true, "6fd5ef8a4062d5c92f3f7ca01b9d9032ba655154012a8dee24a1866fa96dfa12"), looks := true }, kinds := [], alts := [], laidByText := true, laidKinds := [.handle], laidTests := true, laidLooks := .later }
def BinoSaysCardSaid : Prop := Claim7.holds Tryd.pinned (.plain (OpenSpec.ofChange binoSaysSpec)) binoSaysCard

/-- THE TIED CARD OF 'ricksteadlaw1.BinoHolds'. -/
def binoHoldsCard : Claim7 := { stood := { row := binoHoldsRow, standIns := [], harness := (true, "6fd5ef8a4062d5c92f3f7ca01b9d9032ba655154012a8dee24a1866fa96dfa12"), looks := true }, kinds := [], alts := [], laidByText := true, laidKinds := [.handle], laidTests := true, laidLooks := .later }
def BinoHoldsCardSaid : Prop := Claim7.holds Tryd.pinned (.plain (OpenSpec.ofChange binoHoldsSpec)) binoHoldsCard

/-- THE TIED CARD OF 'ricksteadlaw1.LeanSorts'. -/
def leanSortsCard : Claim7 := { stood := { row := leanSortsRow, standIns := [], harness := (true, "6fd5ef8a4062d5c92f3f7ca01b9d9032ba655154012a8dee24a1866fa96dfa12"), looks := true }, kinds := [], alts := [], laidByText := true, laidKinds := [.handle], laidTests := true, laidLooks := .later }
def LeanSortsCardSaid : Prop := Claim7.holds Tryd.pinned (.plain (OpenSpec.ofChange leanSortsSpec)) leanSortsCard

/-- THE TIED CARD OF 'ricksteadlaw1.BinoSorts'. -/
def binoSortsCard : Claim7 := { stood := { row := binoSortsRow, standIns := [], harness := (true, "6fd5ef8a4062d5c92f3f7ca01b9d9032ba655154012a8dee24a1866fa96dfa12"), looks := true }, kinds := [], alts := [], laidByText := true, laidKinds := [.handle], laidTests := true, laidLooks := .later }
def BinoSortsCardSaid : Prop := Claim7.holds Tryd.pinned (.plain (OpenSpec.ofChange binoSortsSpec)) binoSortsCard

/-- THE SECOND FORM's CARD OF 'ricksteadlaw1.LeanSame'. -/
def leanSameUptoCard : Claim7 := { stood := { row := leanSameUptoRow, standIns := [], harness := (true, "6fd5ef8a4062d5c92f3f7ca01b9d9032ba655154012a8dee24a1866fa96dfa12"), looks := true }, kinds := [], alts := [], laidByText := true, laidKinds := [.handle], laidTests := true, laidLooks := .later }
def LeanSameUptoCardSaid : Prop := Claim7.holds Tryd.pinned (.plain (OpenSpec.upto leanSameSpec)) leanSameUptoCard

/-- THE SECOND FORM's CARD OF 'ricksteadlaw1.LeanSpine'. -/
def leanSpineUptoCard : Claim7 := { stood := { row := leanSpineUptoRow, standIns := [], harness := (true, "6fd5ef8a4062d5c92f3f7ca01b9d9032ba655154012a8dee24a1866fa96dfa12"), looks := true }, kinds := [], alts := [], laidByText := true, laidKinds := [.handle], laidTests := true, laidLooks := .later }
def LeanSpineUptoCardSaid : Prop := Claim7.holds Tryd.pinned (.plain (OpenSpec.upto leanSpineSpec)) leanSpineUptoCard

/-- THE SECOND FORM's CARD OF 'ricksteadlaw1.LeanHolds'. -/
def leanHoldsUptoCard : Claim7 := { stood := { row := leanHoldsUptoRow, standIns := [], harness := (true, "6fd5ef8a4062d5c92f3f7ca01b9d9032ba655154012a8dee24a1866fa96dfa12"), looks := true }, kinds := [], alts := [], laidByText := true, laidKinds := [.handle], laidTests := true, laidLooks := .later }
def LeanHoldsUptoCardSaid : Prop := Claim7.holds Tryd.pinned (.plain (OpenSpec.upto leanHoldsSpec)) leanHoldsUptoCard

/-- THE SECOND FORM's CARD OF 'ricksteadlaw1.LeanSays'. -/
def leanSaysUptoCard : Claim7 := { stood := { row := leanSaysUptoRow, standIns := [], harness := (true, "6fd5ef8a4062d5c92f3f7ca01b9d9032ba655154012a8dee24a1866fa96dfa12"), looks := true }, kinds := [], alts := [], laidByText := true, laidKinds := [.handle], laidTests := true, laidLooks := .later }
def LeanSaysUptoCardSaid : Prop := Claim7.holds Tryd.pinned (.plain (OpenSpec.upto leanSaysSpec)) leanSaysUptoCard

/-- THE SECOND FORM's CARD OF 'ricksteadlaw1.BinoDigits'. -/
def binoDigitsUptoCard : Claim7 := { stood := { row := binoDigitsUptoRow, standIns := [], harness := (true, "6fd5ef8a4062d5c92f3f7ca01b9d9032ba655154012a8dee24a1866fa96dfa12"), looks := true }, kinds := [], alts := [], laidByText := true, laidKinds := [.handle], laidTests := true, laidLooks := .later }
def BinoDigitsUptoCardSaid : Prop := Claim7.holds Tryd.pinned (.plain (OpenSpec.upto binoDigitsSpec)) binoDigitsUptoCard

/-- THE SECOND FORM's CARD OF 'ricksteadlaw1.BinoSays'. -/
def binoSaysUptoCard : Claim7 := { stood := { row := binoSaysUptoRow, standIns := [], harness := (true, "6fd5ef8a4062d5c92f3f7ca01b9d9032ba655154012a8dee24a1866fa96dfa12"), looks := true }, kinds := [], alts := [], laidByText := true, laidKinds := [.handle], laidTests := true, laidLooks := .later }
def BinoSaysUptoCardSaid : Prop := Claim7.holds Tryd.pinned (.plain (OpenSpec.upto binoSaysSpec)) binoSaysUptoCard

/-- THE SECOND FORM's CARD OF 'ricksteadlaw1.BinoHolds'. -/
def binoHoldsUptoCard : Claim7 := { stood := { row := binoHoldsUptoRow, standIns := [], harness := (true, "6fd5ef8a4062d5c92f3f7ca01b9d9032ba655154012a8dee24a1866fa96dfa12"), looks := true }, kinds := [], alts := [], laidByText := true, laidKinds := [.handle], laidTests := true, laidLooks := .later }
def BinoHoldsUptoCardSaid : Prop := Claim7.holds Tryd.pinned (.plain (OpenSpec.upto binoHoldsSpec)) binoHoldsUptoCard

/-- THE SECOND FORM's CARD OF 'ricksteadlaw1.LeanSorts'. -/
def leanSortsUptoCard : Claim7 := { stood := { row := leanSortsUptoRow, standIns := [], harness := (true, "6fd5ef8a4062d5c92f3f7ca01b9d9032ba655154012a8dee24a1866fa96dfa12"), looks := true }, kinds := [], alts := [], laidByText := true, laidKinds := [.handle], laidTests := true, laidLooks := .later }
def LeanSortsUptoCardSaid : Prop := Claim7.holds Tryd.pinned (.plain (OpenSpec.upto leanSortsSpec)) leanSortsUptoCard

/-- THE SECOND FORM's CARD OF 'ricksteadlaw1.BinoSorts'. -/
def binoSortsUptoCard : Claim7 := { stood := { row := binoSortsUptoRow, standIns := [], harness := (true, "6fd5ef8a4062d5c92f3f7ca01b9d9032ba655154012a8dee24a1866fa96dfa12"), looks := true }, kinds := [], alts := [], laidByText := true, laidKinds := [.handle], laidTests := true, laidLooks := .later }
def BinoSortsUptoCardSaid : Prop := Claim7.holds Tryd.pinned (.plain (OpenSpec.upto binoSortsSpec)) binoSortsUptoCard
end Rows
end Go.Proofs.YtlocmbnbfjonbaaDoor
