/-
  DERIVED. GIVEN WITH THE SEED: THE CARDS: each row of YtkgdfkgkkjcahaaDoorRows.lean that lists a variable, with what it lists TIED to the program's text (the seventh form; the later family's looks); each row that meets fmt, with fmt's text TOLD by the authors' own Lean function (tested against real Go, not proved from fmt's source: count such statements apart). THE CARD IS WHAT COUNTS. Prove the row's statement (the work); the ties are given (YtkgdfkgkkjcahaaDoorTie.lean); close each card by the builder's one call (the guide's Derived/Test/ToyasCard.lean, 'card_holds'). Laid BY PROGRAM, IN A SANDBOX (cutbox-door.mjs). By AI agents, Wed Nov 11 2026. No macro, syntax, notation, axiom, sorry.
-/
import Derived.Test.YtkgdfkgkkjcahaaDoorRows
import GoSem.ClaimSeven
namespace Go.Proofs.YtkgdfkgkkjcahaaDoor
namespace Rows

/-- THE TIED CARD OF 'ricksteadlaw1.BinoDigits'. -/
def binoDigitsCard : Claim7 := { stood := { row := binoDigitsRow, standIns := [], harness := (true, "a8fc26775ec5d258404b51ac77f8476898e8ae31e956f8e015cd55429427b8af"), looks := true }, kinds := [], alts := [], laidByText := true, laidKinds := [.handle], laidTests := true, laidLooks := .later }
def BinoDigitsCardSaid : Prop := Claim7.holds Tryd.pinned (.plain (OpenSpec.ofChange binoDigitsSpec)) binoDigitsCard

/-- THE TIED CARD OF 'ricksteadlaw1.BinoSays'. -/
def binoSaysCard : Claim7 := { stood := { row := binoSaysRow, standIns := [], harness := (true, "a8fc26775ec5d258404b51ac77f8476898e8ae31e956f8e015cd55429427b8af"), looks := true }, kinds := [], alts := [], laidByText := true, laidKinds := [.handle], laidTests := true, laidLooks := .later }
def BinoSaysCardSaid : Prop := Claim7.holds Tryd.pinned (.plain (OpenSpec.ofChange binoSaysSpec)) binoSaysCard

/-- THE TIED CARD OF 'ricksteadlaw1.BinoHolds'. -/
def binoHoldsCard : Claim7 := { stood := { row := binoHoldsRow, standIns := [], harness := (true, "a8fc26775ec5d258404b51ac77f8476898e8ae31e956f8e015cd55429427b8af"), looks := true }, kinds := [], alts := [], laidByText := true, laidKinds := [.handle], laidTests := true, laidLooks := .later }
def BinoHoldsCardSaid : Prop := Claim7.holds Tryd.pinned (.plain (OpenSpec.ofChange binoHoldsSpec)) binoHoldsCard

/-- THE TIED CARD OF 'ricksteadlaw1.BinoSorts'. -/
def binoSortsCard : Claim7 := { stood := { row := binoSortsRow, standIns := [], harness := (true, "a8fc26775ec5d258404b51ac77f8476898e8ae31e956f8e015cd55429427b8af"), looks := true }, kinds := [], alts := [], laidByText := true, laidKinds := [.handle], laidTests := true, laidLooks := .later }
def BinoSortsCardSaid : Prop := Claim7.holds Tryd.pinned (.plain (OpenSpec.ofChange binoSortsSpec)) binoSortsCard

/-- THE SECOND FORM's CARD OF 'ricksteadlaw1.BinoDigits'. -/
def binoDigitsUptoCard : Claim7 := { stood := { row := binoDigitsUptoRow, standIns := [], harness := (true, "a8fc26775ec5d258404b51ac77f8476898e8ae31e956f8e015cd55429427b8af"), looks := true }, kinds := [], alts := [], laidByText := true, laidKinds := [.handle], laidTests := true, laidLooks := .later }
def BinoDigitsUptoCardSaid : Prop := Claim7.holds Tryd.pinned (.plain (OpenSpec.upto binoDigitsSpec)) binoDigitsUptoCard

/-- THE SECOND FORM's CARD OF 'ricksteadlaw1.BinoSays'. -/
def binoSaysUptoCard : Claim7 := { stood := { row := binoSaysUptoRow, standIns := [], harness := (true, "a8fc26775ec5d258404b51ac77f8476898e8ae31e956f8e015cd55429427b8af"), looks := true }, kinds := [], alts := [], laidByText := true, laidKinds := [.handle], laidTests := true, laidLooks := .later }
def BinoSaysUptoCardSaid : Prop := Claim7.holds Tryd.pinned (.plain (OpenSpec.upto binoSaysSpec)) binoSaysUptoCard

/-- THE SECOND FORM's CARD OF 'ricksteadlaw1.BinoHolds'. -/
def binoHoldsUptoCard : Claim7 := { stood := { row := binoHoldsUptoRow, standIns := [], harness := (true, "a8fc26775ec5d258404b51ac77f8476898e8ae31e956f8e015cd55429427b8af"), looks := true }, kinds := [], alts := [], laidByText := true, laidKinds := [.handle], laidTests := true, laidLooks := .later }
def BinoHoldsUptoCardSaid : Prop := Claim7.holds Tryd.pinned (.plain (OpenSpec.upto binoHoldsSpec)) binoHoldsUptoCard

/-- THE SECOND FORM's CARD OF 'ricksteadlaw1.BinoSorts'. -/
def binoSortsUptoCard : Claim7 := { stood := { row := binoSortsUptoRow, standIns := [], harness := (true, "a8fc26775ec5d258404b51ac77f8476898e8ae31e956f8e015cd55429427b8af"), looks := true }, kinds := [], alts := [], laidByText := true, laidKinds := [.handle], laidTests := true, laidLooks := .later }
def BinoSortsUptoCardSaid : Prop := Claim7.holds Tryd.pinned (.plain (OpenSpec.upto binoSortsSpec)) binoSortsUptoCard
end Rows
end Go.Proofs.YtkgdfkgkkjcahaaDoor
