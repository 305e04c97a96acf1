/-
  No cell of these rows narrows 'for every input' (looked for: loops, veiled, ifaces, maps, wideKeys, modest, calm, conditions, laid).
  DERIVED. THE GIVEN ROWS OF THIS SEAT. 7 by the template 'for every input the law returns true; each argument reads behind the call as it read before'; 0 by the template 'total and deterministic' (their statements: YtdpnlimhmpnhpaaTotals.lean).
  GIVEN WITH THE SEED: the statements are not yours to turn. If you find one false, say at which input.
  Laid BY PROGRAM, IN A SANDBOX (cutbox-rows.mjs): the forced cells as the released guide's own fill.sh prints them over the translation e96c775c75d8e98b… (all of the seat's roots in one cut). By AI agents, Wed Nov 11 2026. No macro, syntax, notation, axiom, sorry.
-/
import Derived.Test.YtdpnlimhmpnhpaaChecked
import GoSem.Claim
import GoSem.ClaimJoined
import GoSem.ClaimMapViews
import Derived.JoinedTies
import Derived.KernelRfl
namespace Go.Proofs.Ytdpnlimhmpnhpaa
/- THE CELL 'sum', in the pinned program and in every row, IS THE sha256 OF THE DUMP (.gsa) THAT YtdpnlimhmpnhpaaProg.lean LOADS. Nothing in Lean hashes anything: it is a label: what it is worth is what the hold of that sum in a sandbox is worth. -/
noncomputable def Try.pinned : Pinned := { name := "ytdpnlimhmpnhpaa", sum := "e96c775c75d8e98bdac5e6fcb76f6a6140b54bda4b1ae898d539f762e913e668", checked := Try.checked }
namespace Rows
def none {H : Type} : Left H := { results := [], args := [] }

/-- 'ricksteadlaw2.HuffFits': WHATEVER THE INPUT: true; the input reads as it did. -/
def huffFitsSpec : ChangeSpec := { name := "huffFits", fn := fun _ => fun
  | [d1, d2] => { results := [.lit (.bool true)], args := [d1, d2] }
  | _ => none }
def huffFitsRow : OpenClaim := { program := "ytdpnlimhmpnhpaa", sum := "e96c775c75d8e98bdac5e6fcb76f6a6140b54bda4b1ae898d539f762e913e668", func := "rickstead/ricksteadlaw2.HuffFits", spec := "huffFits", apart := false }
def HuffFitsSaid : Prop := huffFitsRow.holds Try.pinned (OpenSpec.ofChange huffFitsSpec)

/-- ITS FALSE NEIGHBOUR: 'it returns false'. Refute it at one input. -/
def huffFitsWrong : ChangeSpec := { name := "huffFits", fn := fun _ => fun
  | [d1, d2] => { results := [.lit (.bool false)], args := [d1, d2] }
  | _ => none }
def HuffFitsWrongFalsely : Prop := huffFitsRow.holds Try.pinned (OpenSpec.ofChange huffFitsWrong)

/-- 'ricksteadlaw2.RunsLong': WHATEVER THE INPUT: true; the input reads as it did. -/
def runsLongSpec : ChangeSpec := { name := "runsLong", fn := fun _ => fun
  | [d1, d2] => { results := [.lit (.bool true)], args := [d1, d2] }
  | _ => none }
def runsLongRow : OpenClaim := { program := "ytdpnlimhmpnhpaa", sum := "e96c775c75d8e98bdac5e6fcb76f6a6140b54bda4b1ae898d539f762e913e668", func := "rickstead/ricksteadlaw2.RunsLong", spec := "runsLong", unfollowed := true, recurses := true, apart := false }
def RunsLongSaid : Prop := runsLongRow.holds Try.pinned (OpenSpec.ofChange runsLongSpec)

/-- ITS FALSE NEIGHBOUR: 'it returns false'. Refute it at one input. -/
def runsLongWrong : ChangeSpec := { name := "runsLong", fn := fun _ => fun
  | [d1, d2] => { results := [.lit (.bool false)], args := [d1, d2] }
  | _ => none }
def RunsLongWrongFalsely : Prop := runsLongRow.holds Try.pinned (OpenSpec.ofChange runsLongWrong)

/-- 'ricksteadlaw2.RunsOne': WHATEVER THE INPUT: true; the input reads as it did. -/
def runsOneSpec : ChangeSpec := { name := "runsOne", fn := fun _ => fun
  | [d1, d2] => { results := [.lit (.bool true)], args := [d1, d2] }
  | _ => none }
def runsOneRow : OpenClaim := { program := "ytdpnlimhmpnhpaa", sum := "e96c775c75d8e98bdac5e6fcb76f6a6140b54bda4b1ae898d539f762e913e668", func := "rickstead/ricksteadlaw2.RunsOne", spec := "runsOne", unfollowed := true, recurses := true, apart := false }
def RunsOneSaid : Prop := runsOneRow.holds Try.pinned (OpenSpec.ofChange runsOneSpec)

/-- ITS FALSE NEIGHBOUR: 'it returns false'. Refute it at one input. -/
def runsOneWrong : ChangeSpec := { name := "runsOne", fn := fun _ => fun
  | [d1, d2] => { results := [.lit (.bool false)], args := [d1, d2] }
  | _ => none }
def RunsOneWrongFalsely : Prop := runsOneRow.holds Try.pinned (OpenSpec.ofChange runsOneWrong)

/-- 'ricksteadlaw2.HuffFull': WHATEVER THE INPUT: true; the input reads as it did. -/
def huffFullSpec : ChangeSpec := { name := "huffFull", fn := fun _ => fun
  | [d] => { results := [.lit (.bool true)], args := [d] }
  | _ => none }
def huffFullRow : OpenClaim := { program := "ytdpnlimhmpnhpaa", sum := "e96c775c75d8e98bdac5e6fcb76f6a6140b54bda4b1ae898d539f762e913e668", func := "rickstead/ricksteadlaw2.HuffFull", spec := "huffFull", unfollowed := true, recurses := true, apart := false }
def HuffFullSaid : Prop := huffFullRow.holds Try.pinned (OpenSpec.ofChange huffFullSpec)

/-- ITS FALSE NEIGHBOUR: 'it returns false'. Refute it at one input. -/
def huffFullWrong : ChangeSpec := { name := "huffFull", fn := fun _ => fun
  | [d] => { results := [.lit (.bool false)], args := [d] }
  | _ => none }
def HuffFullWrongFalsely : Prop := huffFullRow.holds Try.pinned (OpenSpec.ofChange huffFullWrong)

/-- 'ricksteadlaw2.HuffOrder': WHATEVER THE INPUT: true; the input reads as it did. -/
def huffOrderSpec : ChangeSpec := { name := "huffOrder", fn := fun _ => fun
  | [d1, d2] => { results := [.lit (.bool true)], args := [d1, d2] }
  | _ => none }
def huffOrderRow : OpenClaim := { program := "ytdpnlimhmpnhpaa", sum := "e96c775c75d8e98bdac5e6fcb76f6a6140b54bda4b1ae898d539f762e913e668", func := "rickstead/ricksteadlaw2.HuffOrder", spec := "huffOrder", unfollowed := true, recurses := true, apart := false }
def HuffOrderSaid : Prop := huffOrderRow.holds Try.pinned (OpenSpec.ofChange huffOrderSpec)

/-- ITS FALSE NEIGHBOUR: 'it returns false'. Refute it at one input. -/
def huffOrderWrong : ChangeSpec := { name := "huffOrder", fn := fun _ => fun
  | [d1, d2] => { results := [.lit (.bool false)], args := [d1, d2] }
  | _ => none }
def HuffOrderWrongFalsely : Prop := huffOrderRow.holds Try.pinned (OpenSpec.ofChange huffOrderWrong)

/-- 'ricksteadlaw2.HuffBest': WHATEVER THE INPUT: true; the input reads as it did. -/
def huffBestSpec : ChangeSpec := { name := "huffBest", fn := fun _ => fun
  | [d1, d2] => { results := [.lit (.bool true)], args := [d1, d2] }
  | _ => none }
def huffBestRow : OpenClaim := { program := "ytdpnlimhmpnhpaa", sum := "e96c775c75d8e98bdac5e6fcb76f6a6140b54bda4b1ae898d539f762e913e668", func := "rickstead/ricksteadlaw2.HuffBest", spec := "huffBest", unfollowed := true, recurses := true, apart := false }
def HuffBestSaid : Prop := huffBestRow.holds Try.pinned (OpenSpec.ofChange huffBestSpec)

/-- ITS FALSE NEIGHBOUR: 'it returns false'. Refute it at one input. -/
def huffBestWrong : ChangeSpec := { name := "huffBest", fn := fun _ => fun
  | [d1, d2] => { results := [.lit (.bool false)], args := [d1, d2] }
  | _ => none }
def HuffBestWrongFalsely : Prop := huffBestRow.holds Try.pinned (OpenSpec.ofChange huffBestWrong)

/-- 'ricksteadlaw2.RunsSorted': WHATEVER THE INPUT: true; the input reads as it did. -/
def runsSortedSpec : ChangeSpec := { name := "runsSorted", fn := fun _ => fun
  | [d1, d2] => { results := [.lit (.bool true)], args := [d1, d2] }
  | _ => none }
def runsSortedRow : OpenClaim := { program := "ytdpnlimhmpnhpaa", sum := "e96c775c75d8e98bdac5e6fcb76f6a6140b54bda4b1ae898d539f762e913e668", func := "rickstead/ricksteadlaw2.RunsSorted", spec := "runsSorted", unfollowed := true, recurses := true, apart := false }
def RunsSortedSaid : Prop := runsSortedRow.holds Try.pinned (OpenSpec.ofChange runsSortedSpec)

/-- ITS FALSE NEIGHBOUR: 'it returns false'. Refute it at one input. -/
def runsSortedWrong : ChangeSpec := { name := "runsSorted", fn := fun _ => fun
  | [d1, d2] => { results := [.lit (.bool false)], args := [d1, d2] }
  | _ => none }
def RunsSortedWrongFalsely : Prop := runsSortedRow.holds Try.pinned (OpenSpec.ofChange runsSortedWrong)

/- THE SECOND FORM. 'bulk': how many values and letters a reading holds, each counted each time it is reached (what is shared counts as often as it is met; a slice's spare places count too). A statement '..UptoSaid' is the law's where the arguments, and the package variables that the reading takes, are together of bulk at most 1048576: NARROWER than '..Said'. Prove '..Said' where nothing that the law and all that it calls make is longer than what came in: it says more and counts as full. Else prove '..UptoSaid'. A law counts once. -/
mutual
def uptoBulk {H : Type} : DataW H → Nat
  | .lit (.string bytes) => bytes.length + 1
  | .lit _ => 1
  | .nil => 1
  | .ptr d => uptoBulk d + 1
  | .slice elems spare => uptoBulkAll elems + uptoBulkAll spare + 1
  | .agg parts => uptoBulkAll parts + 1
  | .iface _ d => uptoBulk d + 1
  | .map entries => uptoBulkEntries entries + 1
  | .held _ => 1
def uptoBulkAll {H : Type} : List (DataW H) → Nat
  | [] => 0
  | d :: r => uptoBulk d + uptoBulkAll r
def uptoBulkEntries {H : Type} : List (Lit × DataW H) → Nat
  | [] => 0
  | x :: r => uptoBulkEntry x + uptoBulkEntries r
def uptoBulkEntry {H : Type} : Lit × DataW H → Nat
  | (.string bytes, d) => bytes.length + uptoBulk d + 1
  | (_, d) => uptoBulk d + 1
 end
def uptoSmall : (H : Type) → List (DataW H) → Bool := fun _ ds => decide (uptoBulkAll ds ≤ 1048576)
def OpenSpec.upto (s : _root_.Go.ChangeSpec) : _root_.Go.OpenSpec := { _root_.Go.OpenSpec.ofChange s with cond := some uptoSmall }

/-- 'ricksteadlaw2.HuffFits', WHERE WHAT IT READS IS OF BULK AT MOST 1048576: true; the input reads as it did. -/
def huffFitsUptoRow : OpenClaim := { program := "ytdpnlimhmpnhpaa", sum := "e96c775c75d8e98bdac5e6fcb76f6a6140b54bda4b1ae898d539f762e913e668", func := "rickstead/ricksteadlaw2.HuffFits", spec := "huffFits", apart := false, narrowed := true }
def HuffFitsUptoSaid : Prop := huffFitsUptoRow.holds Try.pinned (OpenSpec.upto huffFitsSpec)

/-- 'ricksteadlaw2.RunsLong', WHERE WHAT IT READS IS OF BULK AT MOST 1048576: true; the input reads as it did. -/
def runsLongUptoRow : OpenClaim := { program := "ytdpnlimhmpnhpaa", sum := "e96c775c75d8e98bdac5e6fcb76f6a6140b54bda4b1ae898d539f762e913e668", func := "rickstead/ricksteadlaw2.RunsLong", spec := "runsLong", unfollowed := true, recurses := true, apart := false, narrowed := true }
def RunsLongUptoSaid : Prop := runsLongUptoRow.holds Try.pinned (OpenSpec.upto runsLongSpec)

/-- 'ricksteadlaw2.RunsOne', WHERE WHAT IT READS IS OF BULK AT MOST 1048576: true; the input reads as it did. -/
def runsOneUptoRow : OpenClaim := { program := "ytdpnlimhmpnhpaa", sum := "e96c775c75d8e98bdac5e6fcb76f6a6140b54bda4b1ae898d539f762e913e668", func := "rickstead/ricksteadlaw2.RunsOne", spec := "runsOne", unfollowed := true, recurses := true, apart := false, narrowed := true }
def RunsOneUptoSaid : Prop := runsOneUptoRow.holds Try.pinned (OpenSpec.upto runsOneSpec)

/-- 'ricksteadlaw2.HuffFull', WHERE WHAT IT READS IS OF BULK AT MOST 1048576: true; the input reads as it did. -/
def huffFullUptoRow : OpenClaim := { program := "ytdpnlimhmpnhpaa", sum := "e96c775c75d8e98bdac5e6fcb76f6a6140b54bda4b1ae898d539f762e913e668", func := "rickstead/ricksteadlaw2.HuffFull", spec := "huffFull", unfollowed := true, recurses := true, apart := false, narrowed := true }
def HuffFullUptoSaid : Prop := huffFullUptoRow.holds Try.pinned (OpenSpec.upto huffFullSpec)

/-- 'ricksteadlaw2.HuffOrder', WHERE WHAT IT READS IS OF BULK AT MOST 1048576: true; the input reads as it did. -/
def huffOrderUptoRow : OpenClaim := { program := "ytdpnlimhmpnhpaa", sum := "e96c775c75d8e98bdac5e6fcb76f6a6140b54bda4b1ae898d539f762e913e668", func := "rickstead/ricksteadlaw2.HuffOrder", spec := "huffOrder", unfollowed := true, recurses := true, apart := false, narrowed := true }
def HuffOrderUptoSaid : Prop := huffOrderUptoRow.holds Try.pinned (OpenSpec.upto huffOrderSpec)

/-- 'ricksteadlaw2.HuffBest', WHERE WHAT IT READS IS OF BULK AT MOST 1048576: true; the input reads as it did. -/
def huffBestUptoRow : OpenClaim := { program := "ytdpnlimhmpnhpaa", sum := "e96c775c75d8e98bdac5e6fcb76f6a6140b54bda4b1ae898d539f762e913e668", func := "rickstead/ricksteadlaw2.HuffBest", spec := "huffBest", unfollowed := true, recurses := true, apart := false, narrowed := true }
def HuffBestUptoSaid : Prop := huffBestUptoRow.holds Try.pinned (OpenSpec.upto huffBestSpec)

/-- 'ricksteadlaw2.RunsSorted', WHERE WHAT IT READS IS OF BULK AT MOST 1048576: true; the input reads as it did. -/
def runsSortedUptoRow : OpenClaim := { program := "ytdpnlimhmpnhpaa", sum := "e96c775c75d8e98bdac5e6fcb76f6a6140b54bda4b1ae898d539f762e913e668", func := "rickstead/ricksteadlaw2.RunsSorted", spec := "runsSorted", unfollowed := true, recurses := true, apart := false, narrowed := true }
def RunsSortedUptoSaid : Prop := runsSortedUptoRow.holds Try.pinned (OpenSpec.upto runsSortedSpec)

end Rows
end Go.Proofs.Ytdpnlimhmpnhpaa
