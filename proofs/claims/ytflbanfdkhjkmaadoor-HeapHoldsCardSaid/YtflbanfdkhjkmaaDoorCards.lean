/-
  DERIVED. GIVEN WITH THE SEED: THE CARDS: each row of YtflbanfdkhjkmaaDoorRows.lean that lists a variable, with what it lists TIED to the program's text (the seventh form; the later family's looks); each row that meets fmt, with fmt's text TOLD by the authors' own Lean function (tested against real Go, not proved from fmt's source: count such statements apart). THE CARD IS WHAT COUNTS. Prove the row's statement (the work); the ties are given (YtflbanfdkhjkmaaDoorTie.lean); close each card by the builder's one call (the guide's Derived/Test/ToyasCard.lean, 'card_holds'). Laid BY PROGRAM, IN A SANDBOX (cutbox-door.mjs). By AI agents, Wed Nov 11 2026. No macro, syntax, notation, axiom, sorry.
-/
import Derived.Test.YtflbanfdkhjkmaaDoorRows
import GoSem.ClaimSeven
namespace Go.Proofs.YtflbanfdkhjkmaaDoor
namespace Rows

/-- THE TIED CARD OF 'ricksteadlaw1.HeapSays'. -/
def heapSaysCard : Claim7 := { stood := { row := heapSaysRow, standIns := [], harness := (true, "8739cc54d4a095c24ba6355604eba613479884707a81eed41ceeac980b3d2526"), looks := true }, kinds := [], alts := [], laidByText := true, laidKinds := [.handle], laidTests := true, laidLooks := .later }
def HeapSaysCardSaid : Prop := Claim7.holds Tryd.pinned (.plain (OpenSpec.ofChange heapSaysSpec)) heapSaysCard

/-- THE TIED CARD OF 'ricksteadlaw1.HeapHolds'. -/
def heapHoldsCard : Claim7 := { stood := { row := heapHoldsRow, standIns := [], harness := (true, "8739cc54d4a095c24ba6355604eba613479884707a81eed41ceeac980b3d2526"), looks := true }, kinds := [], alts := [], laidByText := true, laidKinds := [.handle], laidTests := true, laidLooks := .later }
def HeapHoldsCardSaid : Prop := Claim7.holds Tryd.pinned (.plain (OpenSpec.ofChange heapHoldsSpec)) heapHoldsCard

/-- THE TIED CARD OF 'ricksteadlaw1.OrderTells'. -/
def orderTellsCard : Claim7 := { stood := { row := orderTellsRow, standIns := [], harness := (true, "8739cc54d4a095c24ba6355604eba613479884707a81eed41ceeac980b3d2526"), looks := true }, kinds := [], alts := [], laidByText := true, laidKinds := [.handle], laidTests := true, laidLooks := .later }
def OrderTellsCardSaid : Prop := Claim7.holds Tryd.pinned (.plain (OpenSpec.ofChange orderTellsSpec)) orderTellsCard

/-- THE TIED CARD OF 'ricksteadlaw1.OrderSays'. -/
def orderSaysCard : Claim7 := { stood := { row := orderSaysRow, standIns := [], harness := (true, "8739cc54d4a095c24ba6355604eba613479884707a81eed41ceeac980b3d2526"), looks := true }, kinds := [], alts := [], laidByText := true, laidKinds := [.handle], laidTests := true, laidLooks := .later }
def OrderSaysCardSaid : Prop := Claim7.holds Tryd.pinned (.plain (OpenSpec.ofChange orderSaysSpec)) orderSaysCard

/-- THE TIED CARD OF 'ricksteadlaw1.OrderMerges'. -/
def orderMergesCard : Claim7 := { stood := { row := orderMergesRow, standIns := [], harness := (true, "8739cc54d4a095c24ba6355604eba613479884707a81eed41ceeac980b3d2526"), looks := true }, kinds := [], alts := [], laidByText := true, laidKinds := [.handle], laidTests := true, laidLooks := .later }
def OrderMergesCardSaid : Prop := Claim7.holds Tryd.pinned (.plain (OpenSpec.ofChange orderMergesSpec)) orderMergesCard

/-- THE SECOND FORM's CARD OF 'ricksteadlaw1.HeapSays'. -/
def heapSaysUptoCard : Claim7 := { stood := { row := heapSaysUptoRow, standIns := [], harness := (true, "8739cc54d4a095c24ba6355604eba613479884707a81eed41ceeac980b3d2526"), looks := true }, kinds := [], alts := [], laidByText := true, laidKinds := [.handle], laidTests := true, laidLooks := .later }
def HeapSaysUptoCardSaid : Prop := Claim7.holds Tryd.pinned (.plain (OpenSpec.upto heapSaysSpec)) heapSaysUptoCard

/-- THE SECOND FORM's CARD OF 'ricksteadlaw1.HeapHolds'. -/
def heapHoldsUptoCard : Claim7 := { stood := { row := heapHoldsUptoRow, standIns := [], harness := (true, "8739cc54d4a095c24ba6355604eba613479884707a81eed41ceeac980b3d2526"), looks := true }, kinds := [], alts := [], laidByText := true, laidKinds := [.handle], laidTests := true, laidLooks := .later }
def HeapHoldsUptoCardSaid : Prop := Claim7.holds Tryd.pinned (.plain (OpenSpec.upto heapHoldsSpec)) heapHoldsUptoCard

/-- THE SECOND FORM's CARD OF 'ricksteadlaw1.OrderTells'. -/
def orderTellsUptoCard : Claim7 := { stood := { row := orderTellsUptoRow, standIns := [], harness := (true, "8739cc54d4a095c24ba6355604eba613479884707a81eed41ceeac980b3d2526"), looks := true }, kinds := [], alts := [], laidByText := true, laidKinds := [.handle], laidTests := true, laidLooks := .later }
def OrderTellsUptoCardSaid : Prop := Claim7.holds Tryd.pinned (.plain (OpenSpec.upto orderTellsSpec)) orderTellsUptoCard

/-- THE SECOND FORM's CARD OF 'ricksteadlaw1.OrderSays'. -/
def orderSaysUptoCard : Claim7 := { stood := { row := orderSaysUptoRow, standIns := [], harness := (true, "8739cc54d4a095c24ba6355604eba613479884707a81eed41ceeac980b3d2526"), looks := true }, kinds := [], alts := [], laidByText := true, laidKinds := [.handle], laidTests := true, laidLooks := .later }
def OrderSaysUptoCardSaid : Prop := Claim7.holds Tryd.pinned (.plain (OpenSpec.upto orderSaysSpec)) orderSaysUptoCard

/-- THE SECOND FORM's CARD OF 'ricksteadlaw1.OrderMerges'. -/
def orderMergesUptoCard : Claim7 := { stood := { row := orderMergesUptoRow, standIns := [], harness := (true, "8739cc54d4a095c24ba6355604eba613479884707a81eed41ceeac980b3d2526"), looks := true }, kinds := [], alts := [], laidByText := true, laidKinds := [.handle], laidTests := true, laidLooks := .later }
def OrderMergesUptoCardSaid : Prop := Claim7.holds Tryd.pinned (.plain (OpenSpec.upto orderMergesSpec)) orderMergesUptoCard
end Rows
end Go.Proofs.YtflbanfdkhjkmaaDoor
