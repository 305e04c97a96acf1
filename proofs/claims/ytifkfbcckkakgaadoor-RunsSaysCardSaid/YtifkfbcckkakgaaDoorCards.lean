/-
  DERIVED. GIVEN WITH THE SEED: THE CARDS: each row of YtifkfbcckkakgaaDoorRows.lean that lists a variable, with what it lists TIED to the program's text (the seventh form; the later family's looks); each row that meets fmt, with fmt's text TOLD by the authors' own Lean function (tested against real Go, not proved from fmt's source: count such statements apart). THE CARD IS WHAT COUNTS. Prove the row's statement (the work); the ties are given (YtifkfbcckkakgaaDoorTie.lean); close each card by the builder's one call (the guide's Derived/Test/ToyasCard.lean, 'card_holds'). Laid BY PROGRAM, IN A SANDBOX (cutbox-door.mjs). By AI agents, Wed Nov 11 2026. No macro, syntax, notation, axiom, sorry.
-/
import Derived.Test.YtifkfbcckkakgaaDoorRows
import GoSem.ClaimSeven
namespace Go.Proofs.YtifkfbcckkakgaaDoor
namespace Rows

/-- THE TIED CARD OF 'ricksteadlaw2.CodeText'. -/
def codeTextCard : Claim7 := { stood := { row := codeTextRow, standIns := [], harness := (true, "2b349ac357d2e0e514b0a5521c9b34d89f88acda7982d6b762d000cb5d43604c"), looks := true }, kinds := [], alts := [], laidByText := true, laidKinds := [.data, .pinned], laidTests := true, laidLooks := .later }
def CodeTextCardSaid : Prop := Claim7.holds Tryd.pinned (.plain (OpenSpec.ofChange codeTextSpec)) codeTextCard

/-- THE TIED CARD OF 'ricksteadlaw2.RunsSays'. -/
def runsSaysCard : Claim7 := { stood := { row := runsSaysRow, standIns := [], harness := (true, "2b349ac357d2e0e514b0a5521c9b34d89f88acda7982d6b762d000cb5d43604c"), looks := true }, kinds := [], alts := [], laidByText := true, laidKinds := [.handle], laidTests := true, laidLooks := .later }
def RunsSaysCardSaid : Prop := Claim7.holds Tryd.pinned (.plain (OpenSpec.ofChange runsSaysSpec)) runsSaysCard

/-- THE TIED CARD OF 'ricksteadlaw2.CodeRunes'. -/
def codeRunesCard : Claim7 := { stood := { row := codeRunesRow, standIns := [], harness := (true, "2b349ac357d2e0e514b0a5521c9b34d89f88acda7982d6b762d000cb5d43604c"), looks := true }, kinds := [], alts := [], laidByText := true, laidKinds := [.data, .handle, .pinned], laidTests := true, laidLooks := .later }
def CodeRunesCardSaid : Prop := Claim7.holds Tryd.pinned (.plain (OpenSpec.ofChange codeRunesSpec)) codeRunesCard

/-- THE TIED CARD OF 'ricksteadlaw1.BinoSays'. -/
def binoSaysCard : Claim7 := { stood := { row := binoSaysRow, standIns := [], harness := (true, "2b349ac357d2e0e514b0a5521c9b34d89f88acda7982d6b762d000cb5d43604c"), looks := true }, kinds := [], alts := [], laidByText := true, laidKinds := [.handle], laidTests := true, laidLooks := .later }
def BinoSaysCardSaid : Prop := Claim7.holds Tryd.pinned (.plain (OpenSpec.ofChange binoSaysSpec)) binoSaysCard

/-- THE SECOND FORM's CARD OF 'ricksteadlaw2.CodeText'. -/
def codeTextUptoCard : Claim7 := { stood := { row := codeTextUptoRow, standIns := [], harness := (true, "2b349ac357d2e0e514b0a5521c9b34d89f88acda7982d6b762d000cb5d43604c"), looks := true }, kinds := [], alts := [], laidByText := true, laidKinds := [.data, .pinned], laidTests := true, laidLooks := .later }
def CodeTextUptoCardSaid : Prop := Claim7.holds Tryd.pinned (.plain (OpenSpec.upto codeTextSpec)) codeTextUptoCard

/-- THE SECOND FORM's CARD OF 'ricksteadlaw2.RunsSays'. -/
def runsSaysUptoCard : Claim7 := { stood := { row := runsSaysUptoRow, standIns := [], harness := (true, "2b349ac357d2e0e514b0a5521c9b34d89f88acda7982d6b762d000cb5d43604c"), looks := true }, kinds := [], alts := [], laidByText := true, laidKinds := [.handle], laidTests := true, laidLooks := .later }
def RunsSaysUptoCardSaid : Prop := Claim7.holds Tryd.pinned (.plain (OpenSpec.upto runsSaysSpec)) runsSaysUptoCard

/-- THE SECOND FORM's CARD OF 'ricksteadlaw2.CodeRunes'. -/
def codeRunesUptoCard : Claim7 := { stood := { row := codeRunesUptoRow, standIns := [], harness := (true, "2b349ac357d2e0e514b0a5521c9b34d89f88acda7982d6b762d000cb5d43604c"), looks := true }, kinds := [], alts := [], laidByText := true, laidKinds := [.data, .handle, .pinned], laidTests := true, laidLooks := .later }
def CodeRunesUptoCardSaid : Prop := Claim7.holds Tryd.pinned (.plain (OpenSpec.upto codeRunesSpec)) codeRunesUptoCard

/-- THE SECOND FORM's CARD OF 'ricksteadlaw1.BinoSays'. -/
def binoSaysUptoCard : Claim7 := { stood := { row := binoSaysUptoRow, standIns := [], harness := (true, "2b349ac357d2e0e514b0a5521c9b34d89f88acda7982d6b762d000cb5d43604c"), looks := true }, kinds := [], alts := [], laidByText := true, laidKinds := [.handle], laidTests := true, laidLooks := .later }
def BinoSaysUptoCardSaid : Prop := Claim7.holds Tryd.pinned (.plain (OpenSpec.upto binoSaysSpec)) binoSaysUptoCard
end Rows
end Go.Proofs.YtifkfbcckkakgaaDoor
