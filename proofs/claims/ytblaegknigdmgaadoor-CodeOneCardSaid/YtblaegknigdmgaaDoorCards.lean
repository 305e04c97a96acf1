/-
  DERIVED. GIVEN WITH THE SEED: THE CARDS: each row of YtblaegknigdmgaaDoorRows.lean that lists a variable, with what it lists TIED to the program's text (the seventh form; the later family's looks); each row that meets fmt, with fmt's text TOLD by the authors' own Lean function (tested against real Go, not proved from fmt's source: count such statements apart). THE CARD IS WHAT COUNTS. Prove the row's statement (the work); the ties are given (YtblaegknigdmgaaDoorTie.lean); close each card by the builder's one call (the guide's Derived/Test/ToyasCard.lean, 'card_holds'). Laid BY PROGRAM, IN A SANDBOX (cutbox-door.mjs). By AI agents, Wed Nov 11 2026. No macro, syntax, notation, axiom, sorry.
-/
import Derived.Test.YtblaegknigdmgaaDoorRows
import GoSem.ClaimSeven
namespace Go.Proofs.YtblaegknigdmgaaDoor
namespace Rows

/-- THE TIED CARD OF 'ricksteadlaw2.CodeText'. -/
def codeTextCard : Claim7 := { stood := { row := codeTextRow, standIns := [], harness := (true, "7328c2c55a28b9fa445273b46c7d37a84743a0d21ad5d3e41804b592d22a790a"), looks := true }, kinds := [], alts := [], laidByText := true, laidKinds := [.data, .pinned], laidTests := true, laidLooks := .later }
def CodeTextCardSaid : Prop := Claim7.holds Tryd.pinned (.plain (OpenSpec.ofChange codeTextSpec)) codeTextCard

/-- THE TIED CARD OF 'ricksteadlaw2.CodeKraft'. -/
def codeKraftCard : Claim7 := { stood := { row := codeKraftRow, standIns := [], harness := (true, "7328c2c55a28b9fa445273b46c7d37a84743a0d21ad5d3e41804b592d22a790a"), looks := true }, kinds := [], alts := [], laidByText := true, laidKinds := [.handle], laidTests := true, laidLooks := .later }
def CodeKraftCardSaid : Prop := Claim7.holds Tryd.pinned (.plain (OpenSpec.ofChange codeKraftSpec)) codeKraftCard

/-- THE TIED CARD OF 'ricksteadlaw2.CodeSays'. -/
def codeSaysCard : Claim7 := { stood := { row := codeSaysRow, standIns := [], harness := (true, "7328c2c55a28b9fa445273b46c7d37a84743a0d21ad5d3e41804b592d22a790a"), looks := true }, kinds := [], alts := [], laidByText := true, laidKinds := [.handle], laidTests := true, laidLooks := .later }
def CodeSaysCardSaid : Prop := Claim7.holds Tryd.pinned (.plain (OpenSpec.ofChange codeSaysSpec)) codeSaysCard

/-- THE TIED CARD OF 'ricksteadlaw2.CodeOne'. -/
def codeOneCard : Claim7 := { stood := { row := codeOneRow, standIns := [], harness := (true, "7328c2c55a28b9fa445273b46c7d37a84743a0d21ad5d3e41804b592d22a790a"), looks := true }, kinds := [], alts := [], laidByText := true, laidKinds := [.handle], laidTests := true, laidLooks := .later }
def CodeOneCardSaid : Prop := Claim7.holds Tryd.pinned (.plain (OpenSpec.ofChange codeOneSpec)) codeOneCard

/-- THE TIED CARD OF 'ricksteadlaw2.CodeRunes'. -/
def codeRunesCard : Claim7 := { stood := { row := codeRunesRow, standIns := [], harness := (true, "7328c2c55a28b9fa445273b46c7d37a84743a0d21ad5d3e41804b592d22a790a"), looks := true }, kinds := [], alts := [], laidByText := true, laidKinds := [.data, .handle, .pinned], laidTests := true, laidLooks := .later }
def CodeRunesCardSaid : Prop := Claim7.holds Tryd.pinned (.plain (OpenSpec.ofChange codeRunesSpec)) codeRunesCard

/-- THE SECOND FORM's CARD OF 'ricksteadlaw2.CodeText'. -/
def codeTextUptoCard : Claim7 := { stood := { row := codeTextUptoRow, standIns := [], harness := (true, "7328c2c55a28b9fa445273b46c7d37a84743a0d21ad5d3e41804b592d22a790a"), looks := true }, kinds := [], alts := [], laidByText := true, laidKinds := [.data, .pinned], laidTests := true, laidLooks := .later }
def CodeTextUptoCardSaid : Prop := Claim7.holds Tryd.pinned (.plain (OpenSpec.upto codeTextSpec)) codeTextUptoCard

/-- THE SECOND FORM's CARD OF 'ricksteadlaw2.CodeKraft'. -/
def codeKraftUptoCard : Claim7 := { stood := { row := codeKraftUptoRow, standIns := [], harness := (true, "7328c2c55a28b9fa445273b46c7d37a84743a0d21ad5d3e41804b592d22a790a"), looks := true }, kinds := [], alts := [], laidByText := true, laidKinds := [.handle], laidTests := true, laidLooks := .later }
def CodeKraftUptoCardSaid : Prop := Claim7.holds Tryd.pinned (.plain (OpenSpec.upto codeKraftSpec)) codeKraftUptoCard

/-- THE SECOND FORM's CARD OF 'ricksteadlaw2.CodeSays'. -/
def codeSaysUptoCard : Claim7 := { stood := { row := codeSaysUptoRow, standIns := [], harness := (true, "7328c2c55a28b9fa445273b46c7d37a84743a0d21ad5d3e41804b592d22a790a"), looks := true }, kinds := [], alts := [], laidByText := true, laidKinds := [.handle], laidTests := true, laidLooks := .later }
def CodeSaysUptoCardSaid : Prop := Claim7.holds Tryd.pinned (.plain (OpenSpec.upto codeSaysSpec)) codeSaysUptoCard

/-- THE SECOND FORM's CARD OF 'ricksteadlaw2.CodeOne'. -/
def codeOneUptoCard : Claim7 := { stood := { row := codeOneUptoRow, standIns := [], harness := (true, "7328c2c55a28b9fa445273b46c7d37a84743a0d21ad5d3e41804b592d22a790a"), looks := true }, kinds := [], alts := [], laidByText := true, laidKinds := [.handle], laidTests := true, laidLooks := .later }
def CodeOneUptoCardSaid : Prop := Claim7.holds Tryd.pinned (.plain (OpenSpec.upto codeOneSpec)) codeOneUptoCard

/-- THE SECOND FORM's CARD OF 'ricksteadlaw2.CodeRunes'. -/
def codeRunesUptoCard : Claim7 := { stood := { row := codeRunesUptoRow, standIns := [], harness := (true, "7328c2c55a28b9fa445273b46c7d37a84743a0d21ad5d3e41804b592d22a790a"), looks := true }, kinds := [], alts := [], laidByText := true, laidKinds := [.data, .handle, .pinned], laidTests := true, laidLooks := .later }
def CodeRunesUptoCardSaid : Prop := Claim7.holds Tryd.pinned (.plain (OpenSpec.upto codeRunesSpec)) codeRunesUptoCard
end Rows
end Go.Proofs.YtblaegknigdmgaaDoor
