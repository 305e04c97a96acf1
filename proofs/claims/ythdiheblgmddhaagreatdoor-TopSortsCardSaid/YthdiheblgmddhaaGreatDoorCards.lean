/-
  DERIVED. GIVEN WITH THE SEED: THE CARDS: each row of YthdiheblgmddhaaGreatDoorRows.lean that lists a variable, with what it lists TIED to the program's text (the seventh form; the later family's looks); each row that meets fmt, with fmt's text TOLD by the authors' own Lean function (tested against real Go, not proved from fmt's source: count such statements apart). THE CARD IS WHAT COUNTS. Prove the row's statement (the work); the ties are given (YthdiheblgmddhaaGreatDoorTie.lean); close each card by the builder's one call (the guide's Derived/Test/ToyasCard.lean, 'card_holds'). Laid BY PROGRAM, IN A SANDBOX (cutbox-door.mjs). By AI agents, Wed Nov 11 2026. No macro, syntax, notation, axiom, sorry.
-/
import Derived.Test.YthdiheblgmddhaaGreatDoorRows
import GoSem.ClaimSeven
namespace Go.Proofs.YthdiheblgmddhaaGreatDoor
namespace Rows

/-- THE TIED CARD OF 'ricksteadtop.TopSorts'. -/
def topSortsCard : Claim7 := { stood := { row := topSortsRow, standIns := [], harness := (true, "a568a189bb133c36b5f74d06dc90295c5263c4156aa62c8e7811c4852d01cdc7"), looks := false }, kinds := [], alts := [], goes := true, laidByText := true, laidKinds := [.data, .data, .data], laidTests := true, laidLooks := .later }
def TopSortsCardSaid : Prop := Claim7.holds Tryz.pinned (.plain (OpenSpec.ofChange topSortsSpec)) topSortsCard

/-- THE SECOND FORM's CARD OF 'ricksteadtop.TopSorts'. -/
def topSortsUptoCard : Claim7 := { stood := { row := topSortsUptoRow, standIns := [], harness := (true, "a568a189bb133c36b5f74d06dc90295c5263c4156aa62c8e7811c4852d01cdc7"), looks := false }, kinds := [], alts := [], goes := true, laidByText := true, laidKinds := [.data, .data, .data], laidTests := true, laidLooks := .later }
def TopSortsUptoCardSaid : Prop := Claim7.holds Tryz.pinned (.plain (OpenSpec.upto topSortsSpec)) topSortsUptoCard
end Rows
end Go.Proofs.YthdiheblgmddhaaGreatDoor
