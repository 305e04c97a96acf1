/-
  DERIVED. GIVEN WITH THE SEED: THE CARDS: each row of YtdpnlimhmpnhpaaDoorRows.lean that lists a variable, with what it lists TIED to the program's text (the seventh form; the later family's looks); each row that meets fmt, with fmt's text TOLD by the authors' own Lean function (tested against real Go, not proved from fmt's source: count such statements apart). THE CARD IS WHAT COUNTS. Prove the row's statement (the work); the ties are given (YtdpnlimhmpnhpaaDoorTie.lean); close each card by the builder's one call (the guide's Derived/Test/ToyasCard.lean, 'card_holds'). Laid BY PROGRAM, IN A SANDBOX (cutbox-door.mjs). By AI agents, Wed Nov 11 2026. No macro, syntax, notation, axiom, sorry.
-/
import Derived.Test.YtdpnlimhmpnhpaaDoorRows
import GoSem.ClaimSeven
namespace Go.Proofs.YtdpnlimhmpnhpaaDoor
namespace Rows

/-- THE TIED CARD OF 'ricksteadlaw2.HuffSays'. -/
def huffSaysCard : Claim7 := { stood := { row := huffSaysRow, standIns := [], harness := (true, "1edd760b1aa95ef1ede4fdb6e5c962e34c3519f34cd24af5eefc9b82c53183ac"), looks := true }, kinds := [], alts := [], laidByText := true, laidKinds := [.handle], laidTests := true, laidLooks := .later }
def HuffSaysCardSaid : Prop := Claim7.holds Tryd.pinned (.plain (OpenSpec.ofChange huffSaysSpec)) huffSaysCard

/-- THE TIED CARD OF 'ricksteadlaw2.RunsSays'. -/
def runsSaysCard : Claim7 := { stood := { row := runsSaysRow, standIns := [], harness := (true, "1edd760b1aa95ef1ede4fdb6e5c962e34c3519f34cd24af5eefc9b82c53183ac"), looks := true }, kinds := [], alts := [], laidByText := true, laidKinds := [.handle], laidTests := true, laidLooks := .later }
def RunsSaysCardSaid : Prop := Claim7.holds Tryd.pinned (.plain (OpenSpec.ofChange runsSaysSpec)) runsSaysCard

/-- THE SECOND FORM's CARD OF 'ricksteadlaw2.HuffSays'. -/
def huffSaysUptoCard : Claim7 := { stood := { row := huffSaysUptoRow, standIns := [], harness := (true, "1edd760b1aa95ef1ede4fdb6e5c962e34c3519f34cd24af5eefc9b82c53183ac"), looks := true }, kinds := [], alts := [], laidByText := true, laidKinds := [.handle], laidTests := true, laidLooks := .later }
def HuffSaysUptoCardSaid : Prop := Claim7.holds Tryd.pinned (.plain (OpenSpec.upto huffSaysSpec)) huffSaysUptoCard

/-- THE SECOND FORM's CARD OF 'ricksteadlaw2.RunsSays'. -/
def runsSaysUptoCard : Claim7 := { stood := { row := runsSaysUptoRow, standIns := [], harness := (true, "1edd760b1aa95ef1ede4fdb6e5c962e34c3519f34cd24af5eefc9b82c53183ac"), looks := true }, kinds := [], alts := [], laidByText := true, laidKinds := [.handle], laidTests := true, laidLooks := .later }
def RunsSaysUptoCardSaid : Prop := Claim7.holds Tryd.pinned (.plain (OpenSpec.upto runsSaysSpec)) runsSaysUptoCard
end Rows
end Go.Proofs.YtdpnlimhmpnhpaaDoor
