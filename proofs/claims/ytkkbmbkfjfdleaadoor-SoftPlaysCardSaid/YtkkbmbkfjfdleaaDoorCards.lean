/-
  DERIVED. GIVEN WITH THE SEED: THE CARDS: each row of YtkkbmbkfjfdleaaDoorRows.lean that lists a variable, with what it lists TIED to the program's text (the seventh form; the later family's looks); each row that meets fmt, with fmt's text TOLD by the authors' own Lean function (tested against real Go, not proved from fmt's source: count such statements apart). THE CARD IS WHAT COUNTS. Prove the row's statement (the work); the ties are given (YtkkbmbkfjfdleaaDoorTie.lean); close each card by the builder's one call (the guide's Derived/Test/ToyasCard.lean, 'card_holds'). Laid BY PROGRAM, IN A SANDBOX (cutbox-door.mjs). By AI agents, Wed Nov 11 2026. No macro, syntax, notation, axiom, sorry.
-/
import Derived.Test.YtkkbmbkfjfdleaaDoorRows
import GoSem.ClaimSeven
namespace Go.Proofs.YtkkbmbkfjfdleaaDoor
namespace Rows

/-- THE TIED CARD OF 'ricksteadlaw1.SoftRight'. -/
def softRightCard : Claim7 := { stood := { row := softRightRow, standIns := [], harness := (true, "ca139cb987b45cf5f933e62c781c53097959e10888f7a69ecbc15827a95e089a"), looks := true }, kinds := [], alts := [], laidByText := true, laidKinds := [.handle], laidTests := true, laidLooks := .later }
def SoftRightCardSaid : Prop := Claim7.holds Tryd.pinned (.plain (OpenSpec.ofChange softRightSpec)) softRightCard

/-- THE TIED CARD OF 'ricksteadlaw1.SoftPlays'. -/
def softPlaysCard : Claim7 := { stood := { row := softPlaysRow, standIns := [], harness := (true, "ca139cb987b45cf5f933e62c781c53097959e10888f7a69ecbc15827a95e089a"), looks := true }, kinds := [], alts := [], laidByText := true, laidKinds := [.handle], laidTests := true, laidLooks := .later }
def SoftPlaysCardSaid : Prop := Claim7.holds Tryd.pinned (.plain (OpenSpec.ofChange softPlaysSpec)) softPlaysCard

/-- THE SECOND FORM's CARD OF 'ricksteadlaw1.SoftRight'. -/
def softRightUptoCard : Claim7 := { stood := { row := softRightUptoRow, standIns := [], harness := (true, "ca139cb987b45cf5f933e62c781c53097959e10888f7a69ecbc15827a95e089a"), looks := true }, kinds := [], alts := [], laidByText := true, laidKinds := [.handle], laidTests := true, laidLooks := .later }
def SoftRightUptoCardSaid : Prop := Claim7.holds Tryd.pinned (.plain (OpenSpec.upto softRightSpec)) softRightUptoCard

/-- THE SECOND FORM's CARD OF 'ricksteadlaw1.SoftPlays'. -/
def softPlaysUptoCard : Claim7 := { stood := { row := softPlaysUptoRow, standIns := [], harness := (true, "ca139cb987b45cf5f933e62c781c53097959e10888f7a69ecbc15827a95e089a"), looks := true }, kinds := [], alts := [], laidByText := true, laidKinds := [.handle], laidTests := true, laidLooks := .later }
def SoftPlaysUptoCardSaid : Prop := Claim7.holds Tryd.pinned (.plain (OpenSpec.upto softPlaysSpec)) softPlaysUptoCard
end Rows
end Go.Proofs.YtkkbmbkfjfdleaaDoor
