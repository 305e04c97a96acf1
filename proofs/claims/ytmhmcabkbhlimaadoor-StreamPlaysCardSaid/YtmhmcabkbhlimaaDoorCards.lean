/-
  DERIVED. GIVEN WITH THE SEED: THE CARDS: each row of YtmhmcabkbhlimaaDoorRows.lean that lists a variable, with what it lists TIED to the program's text (the seventh form; the later family's looks); each row that meets fmt, with fmt's text TOLD by the authors' own Lean function (tested against real Go, not proved from fmt's source: count such statements apart). THE CARD IS WHAT COUNTS. Prove the row's statement (the work); the ties are given (YtmhmcabkbhlimaaDoorTie.lean); close each card by the builder's one call (the guide's Derived/Test/ToyasCard.lean, 'card_holds'). Laid BY PROGRAM, IN A SANDBOX (cutbox-door.mjs). By AI agents, Wed Nov 11 2026. No macro, syntax, notation, axiom, sorry.
-/
import Derived.Test.YtmhmcabkbhlimaaDoorRows
import GoSem.ClaimSeven
namespace Go.Proofs.YtmhmcabkbhlimaaDoor
namespace Rows

/-- THE TIED CARD OF 'ricksteadlaw2.StreamPlays'. -/
def streamPlaysCard : Claim7 := { stood := { row := streamPlaysRow, standIns := [], harness := (true, "11287e5f9819da8301027ddd12b86772376d1020ed16695ec5a800080ab00775"), looks := true }, kinds := [], alts := [], laidByText := true, laidKinds := [.handle], laidTests := true, laidLooks := .later }
def StreamPlaysCardSaid : Prop := Claim7.holds Tryd.pinned (.plain (OpenSpec.ofChange streamPlaysSpec)) streamPlaysCard

/-- THE TIED CARD OF 'ricksteadlaw1.SoftRight'. -/
def softRightCard : Claim7 := { stood := { row := softRightRow, standIns := [], harness := (true, "11287e5f9819da8301027ddd12b86772376d1020ed16695ec5a800080ab00775"), looks := true }, kinds := [], alts := [], laidByText := true, laidKinds := [.handle], laidTests := true, laidLooks := .later }
def SoftRightCardSaid : Prop := Claim7.holds Tryd.pinned (.plain (OpenSpec.ofChange softRightSpec)) softRightCard

/-- THE TIED CARD OF 'ricksteadlaw1.SoftPlays'. -/
def softPlaysCard : Claim7 := { stood := { row := softPlaysRow, standIns := [], harness := (true, "11287e5f9819da8301027ddd12b86772376d1020ed16695ec5a800080ab00775"), looks := true }, kinds := [], alts := [], laidByText := true, laidKinds := [.handle], laidTests := true, laidLooks := .later }
def SoftPlaysCardSaid : Prop := Claim7.holds Tryd.pinned (.plain (OpenSpec.ofChange softPlaysSpec)) softPlaysCard

/-- THE TIED CARD OF 'ricksteadlaw2.PickAll'. -/
def pickAllCard : Claim7 := { stood := { row := pickAllRow, standIns := [], harness := (true, "11287e5f9819da8301027ddd12b86772376d1020ed16695ec5a800080ab00775"), looks := true }, kinds := [], alts := [], laidByText := true, laidKinds := [.handle], laidTests := true, laidLooks := .later }
def PickAllCardSaid : Prop := Claim7.holds Tryd.pinned (.plain (OpenSpec.ofChange pickAllSpec)) pickAllCard

/-- THE TIED CARD OF 'ricksteadlaw2.PickSays'. -/
def pickSaysCard : Claim7 := { stood := { row := pickSaysRow, standIns := [], harness := (true, "11287e5f9819da8301027ddd12b86772376d1020ed16695ec5a800080ab00775"), looks := true }, kinds := [], alts := [], laidByText := true, laidKinds := [.handle], laidTests := true, laidLooks := .later }
def PickSaysCardSaid : Prop := Claim7.holds Tryd.pinned (.plain (OpenSpec.ofChange pickSaysSpec)) pickSaysCard

/-- THE SECOND FORM's CARD OF 'ricksteadlaw2.StreamPlays'. -/
def streamPlaysUptoCard : Claim7 := { stood := { row := streamPlaysUptoRow, standIns := [], harness := (true, "11287e5f9819da8301027ddd12b86772376d1020ed16695ec5a800080ab00775"), looks := true }, kinds := [], alts := [], laidByText := true, laidKinds := [.handle], laidTests := true, laidLooks := .later }
def StreamPlaysUptoCardSaid : Prop := Claim7.holds Tryd.pinned (.plain (OpenSpec.upto streamPlaysSpec)) streamPlaysUptoCard

/-- THE SECOND FORM's CARD OF 'ricksteadlaw1.SoftRight'. -/
def softRightUptoCard : Claim7 := { stood := { row := softRightUptoRow, standIns := [], harness := (true, "11287e5f9819da8301027ddd12b86772376d1020ed16695ec5a800080ab00775"), looks := true }, kinds := [], alts := [], laidByText := true, laidKinds := [.handle], laidTests := true, laidLooks := .later }
def SoftRightUptoCardSaid : Prop := Claim7.holds Tryd.pinned (.plain (OpenSpec.upto softRightSpec)) softRightUptoCard

/-- THE SECOND FORM's CARD OF 'ricksteadlaw1.SoftPlays'. -/
def softPlaysUptoCard : Claim7 := { stood := { row := softPlaysUptoRow, standIns := [], harness := (true, "11287e5f9819da8301027ddd12b86772376d1020ed16695ec5a800080ab00775"), looks := true }, kinds := [], alts := [], laidByText := true, laidKinds := [.handle], laidTests := true, laidLooks := .later }
def SoftPlaysUptoCardSaid : Prop := Claim7.holds Tryd.pinned (.plain (OpenSpec.upto softPlaysSpec)) softPlaysUptoCard

/-- THE SECOND FORM's CARD OF 'ricksteadlaw2.PickAll'. -/
def pickAllUptoCard : Claim7 := { stood := { row := pickAllUptoRow, standIns := [], harness := (true, "11287e5f9819da8301027ddd12b86772376d1020ed16695ec5a800080ab00775"), looks := true }, kinds := [], alts := [], laidByText := true, laidKinds := [.handle], laidTests := true, laidLooks := .later }
def PickAllUptoCardSaid : Prop := Claim7.holds Tryd.pinned (.plain (OpenSpec.upto pickAllSpec)) pickAllUptoCard

/-- THE SECOND FORM's CARD OF 'ricksteadlaw2.PickSays'. -/
def pickSaysUptoCard : Claim7 := { stood := { row := pickSaysUptoRow, standIns := [], harness := (true, "11287e5f9819da8301027ddd12b86772376d1020ed16695ec5a800080ab00775"), looks := true }, kinds := [], alts := [], laidByText := true, laidKinds := [.handle], laidTests := true, laidLooks := .later }
def PickSaysUptoCardSaid : Prop := Claim7.holds Tryd.pinned (.plain (OpenSpec.upto pickSaysSpec)) pickSaysUptoCard
end Rows
end Go.Proofs.YtmhmcabkbhlimaaDoor
