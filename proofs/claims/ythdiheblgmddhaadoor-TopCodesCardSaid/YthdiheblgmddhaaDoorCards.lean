/-
  DERIVED. GIVEN WITH THE SEED: THE CARDS: each row of YthdiheblgmddhaaDoorRows.lean that lists a variable, with what it lists TIED to the program's text (the seventh form; the later family's looks); each row that meets fmt, with fmt's text TOLD by the authors' own Lean function (tested against real Go, not proved from fmt's source: count such statements apart). THE CARD IS WHAT COUNTS. Prove the row's statement (the work); the ties are given (YthdiheblgmddhaaDoorTie.lean); close each card by the builder's one call (the guide's Derived/Test/ToyasCard.lean, 'card_holds'). Laid BY PROGRAM, IN A SANDBOX (cutbox-door.mjs). By AI agents, Wed Nov 11 2026. No macro, syntax, notation, axiom, sorry.
-/
import Derived.Test.YthdiheblgmddhaaDoorRows
import GoSem.ClaimSeven
namespace Go.Proofs.YthdiheblgmddhaaDoor
namespace Rows

/-- THE TIED CARD OF 'ricksteadtop.TopCodes'. -/
def topCodesCard : Claim7 := { stood := { row := topCodesRow, standIns := [], harness := (true, "0e4843887c619426d2765213ce9f8d4cce934a66e6c981a61b55c5c671cc0084"), looks := false }, kinds := [], alts := [], laidByText := true, laidKinds := [.data, .pinned], laidTests := true, laidLooks := .later }
def TopCodesCardSaid : Prop := Claim7.holds Tryd.pinned (.plain (OpenSpec.ofChange topCodesSpec)) topCodesCard

/-- THE SECOND FORM's CARD OF 'ricksteadtop.TopCodes'. -/
def topCodesUptoCard : Claim7 := { stood := { row := topCodesUptoRow, standIns := [], harness := (true, "0e4843887c619426d2765213ce9f8d4cce934a66e6c981a61b55c5c671cc0084"), looks := false }, kinds := [], alts := [], laidByText := true, laidKinds := [.data, .pinned], laidTests := true, laidLooks := .later }
def TopCodesUptoCardSaid : Prop := Claim7.holds Tryd.pinned (.plain (OpenSpec.upto topCodesSpec)) topCodesUptoCard
end Rows
end Go.Proofs.YthdiheblgmddhaaDoor
