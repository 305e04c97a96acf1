/-
  DERIVED. GIVEN WITH THE SEED: THE CARDS: each row of YtagochiomonmhaaDoorRows.lean that lists a variable, with what it lists TIED to the program's text (the seventh form; the later family's looks); each row that meets fmt, with fmt's text TOLD by the authors' own Lean function (tested against real Go, not proved from fmt's source: count such statements apart). THE CARD IS WHAT COUNTS. Prove the row's statement (the work); the ties are given (YtagochiomonmhaaDoorTie.lean); close each card by the builder's one call (the guide's Derived/Test/ToyasCard.lean, 'card_holds'). Laid BY PROGRAM, IN A SANDBOX (cutbox-door.mjs). By AI agents, Wed Nov 11 2026. No macro, syntax, notation, axiom, sorry.
-/
import Derived.Test.YtagochiomonmhaaDoorRows
import GoSem.ClaimSeven
namespace Go.Proofs.YtagochiomonmhaaDoor
namespace Rows

/-- THE TIED CARD OF 'ricksteadlaw1.BinoSays'. -/
def binoSaysCard : Claim7 := { stood := { row := binoSaysRow, standIns := [], harness := (true, "2e28af09dcbe8dbe25c330ab65514756d45c3b7ea572c7bd3f6784db204b4544"), looks := true }, kinds := [], alts := [], laidByText := true, laidKinds := [.handle], laidTests := true, laidLooks := .later }
def BinoSaysCardSaid : Prop := Claim7.holds Tryd.pinned (.plain (OpenSpec.ofChange binoSaysSpec)) binoSaysCard

/-- THE SECOND FORM's CARD OF 'ricksteadlaw1.BinoSays'. -/
def binoSaysUptoCard : Claim7 := { stood := { row := binoSaysUptoRow, standIns := [], harness := (true, "2e28af09dcbe8dbe25c330ab65514756d45c3b7ea572c7bd3f6784db204b4544"), looks := true }, kinds := [], alts := [], laidByText := true, laidKinds := [.handle], laidTests := true, laidLooks := .later }
def BinoSaysUptoCardSaid : Prop := Claim7.holds Tryd.pinned (.plain (OpenSpec.upto binoSaysSpec)) binoSaysUptoCard
end Rows
end Go.Proofs.YtagochiomonmhaaDoor
