/-
  DERIVED. GIVEN WITH THE SEED: THE CARDS: each row of YtihoogpglemlaaaDoorRows.lean that lists a variable, with what it lists TIED to the program's text (the seventh form; the later family's looks); each row that meets fmt, with fmt's text TOLD by the authors' own Lean function (tested against real Go, not proved from fmt's source: count such statements apart). THE CARD IS WHAT COUNTS. Prove the row's statement (the work); the ties are given (YtihoogpglemlaaaDoorTie.lean); close each card by the builder's one call (the guide's Derived/Test/ToyasCard.lean, 'card_holds'). Laid BY PROGRAM, IN A SANDBOX (cutbox-door.mjs). By AI agents, Wed Nov 11 2026. No macro, syntax, notation, axiom, sorry.
-/
import Derived.Test.YtihoogpglemlaaaDoorRows
import GoSem.ClaimSeven
namespace Go.Proofs.YtihoogpglemlaaaDoor
namespace Rows

/-- THE TIED CARD OF 'ricksteadlaw2.CodeText'. -/
def codeTextCard : Claim7 := { stood := { row := codeTextRow, standIns := [], harness := (true, "91f273a6e6e3c1619dfd901ec03eff6fca9804b361c87ba21859f9fee69c2a32"), looks := true }, kinds := [], alts := [], laidByText := true, laidKinds := [.data, .pinned], laidTests := true, laidLooks := .later }
def CodeTextCardSaid : Prop := Claim7.holds Tryd.pinned (.plain (OpenSpec.ofChange codeTextSpec)) codeTextCard

/-- THE TIED CARD OF 'ricksteadlaw2.CodeRunes'. -/
def codeRunesCard : Claim7 := { stood := { row := codeRunesRow, standIns := [], harness := (true, "91f273a6e6e3c1619dfd901ec03eff6fca9804b361c87ba21859f9fee69c2a32"), looks := true }, kinds := [], alts := [], laidByText := true, laidKinds := [.data, .handle, .pinned], laidTests := true, laidLooks := .later }
def CodeRunesCardSaid : Prop := Claim7.holds Tryd.pinned (.plain (OpenSpec.ofChange codeRunesSpec)) codeRunesCard

/-- THE SECOND FORM's CARD OF 'ricksteadlaw2.CodeText'. -/
def codeTextUptoCard : Claim7 := { stood := { row := codeTextUptoRow, standIns := [], harness := (true, "91f273a6e6e3c1619dfd901ec03eff6fca9804b361c87ba21859f9fee69c2a32"), looks := true }, kinds := [], alts := [], laidByText := true, laidKinds := [.data, .pinned], laidTests := true, laidLooks := .later }
def CodeTextUptoCardSaid : Prop := Claim7.holds Tryd.pinned (.plain (OpenSpec.upto codeTextSpec)) codeTextUptoCard

/-- THE SECOND FORM's CARD OF 'ricksteadlaw2.CodeRunes'. -/
def codeRunesUptoCard : Claim7 := { stood := { row := codeRunesUptoRow, standIns := [], harness := (true, "91f273a6e6e3c1619dfd901ec03eff6fca9804b361c87ba21859f9fee69c2a32"), looks := true }, kinds := [], alts := [], laidByText := true, laidKinds := [.data, .handle, .pinned], laidTests := true, laidLooks := .later }
def CodeRunesUptoCardSaid : Prop := Claim7.holds Tryd.pinned (.plain (OpenSpec.upto codeRunesSpec)) codeRunesUptoCard
end Rows
end Go.Proofs.YtihoogpglemlaaaDoor
