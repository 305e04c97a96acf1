/-
  NARROWER THAN 'FOR EVERY INPUT', by the rows' own cells (each row's printed sentence says how): LeanSame: laid · LeanSpine: laid · LeanHolds: laid · LeanSays: laid · BinoDigits: laid · BinoSays: laid · BinoHolds: laid · LeanSorts: laid · BinoSorts: laid.
  DERIVED. THE GIVEN ROWS OF THIS SEAT. 9 by the template 'for every input the law returns true; each argument reads behind the call as it read before'; 0 by the template 'total and deterministic' (their statements: YtlocmbnbfjonbaaDoorTotals.lean).
  GIVEN WITH THE SEED: the statements are not yours to turn. If you find one false, say at which input.
  Laid BY PROGRAM, IN A SANDBOX (cutbox-rows.mjs): the forced cells as the released guide's own fill.sh prints them over the translation 7c699115d93d7a4b… (all of the seat's roots in one cut). By AI agents, Wed Nov 11 2026. No macro, syntax, notation, axiom, sorry.
-/
import Derived.Test.YtlocmbnbfjonbaaDoorChecked
import GoSem.Claim
import GoSem.ClaimJoined
import GoSem.ClaimMapViews
import Derived.JoinedTies
import Derived.KernelRfl
namespace Go.Proofs.YtlocmbnbfjonbaaDoor
/- THE CELL 'sum', in the pinned program and in every row, IS THE sha256 OF THE DUMP (.gsa) THAT YtlocmbnbfjonbaaDoorProg.lean LOADS. Nothing in Lean hashes anything: it is a label: what it is worth is what the hold of that sum in a sandbox is worth. -/
noncomputable def Tryd.pinned : Pinned := { name := "ytlocmbnbfjonbaadoor", sum := "7c699115d93d7a4b42845377e022284bde2a5d0a942d0335cdf06bf23f573b5f", checked := Tryd.checked }
namespace Rows
def none {H : Type} : Left H := { results := [], args := [] }

/- WHAT THE LISTED PACKAGE-LEVEL VARIABLES READ AS WHEN THE CALL BEGINS. Each datum BY PROGRAM (the guide's laid-datum.mjs) off the statement by which the dump's own 'gosem.cut.vars' lays the variable. In a bare row this is a premise. The card (YtlocmbnbfjonbaaDoorCards.lean) ties it to the program's text. -/
def laid_errors_errorType {H : Type} : DataW H := .iface "internal/reflectlite.rtype" (.agg [.ptr (.lit (.string [101, 114, 114, 111, 114]))])

/-- 'ricksteadlaw1.LeanSame': WHATEVER THE INPUT: true; the input reads as it did. -/
def leanSameSpec : ChangeSpec := { name := "leanSame", fn := fun _ => fun
  | [d1, d2] => { results := [.lit (.bool true)], args := [d1, d2] }
  | _ => none }
def leanSameRow : OpenClaim := { program := "ytlocmbnbfjonbaadoor", sum := "7c699115d93d7a4b42845377e022284bde2a5d0a942d0335cdf06bf23f573b5f", func := "rickstead/ricksteadlaw1.LeanSame", spec := "leanSame", inPlace := ["internal/reflectlite.ValueOf", "(internal/reflectlite.Value).Type", "(internal/reflectlite.Value).IsNil", "internal/reflectlite.TypeOf", "(internal/reflectlite.Value).Elem", "(internal/reflectlite.Value).Set"], unfollowed := true, recurses := true, named := ["errors.errorType"], apart := false, laid := [("errors.errorType", laid_errors_errorType)] }
def LeanSameSaid : Prop := leanSameRow.holds Tryd.pinned (OpenSpec.ofChange leanSameSpec)

/-- ITS FALSE NEIGHBOUR: 'it returns false'. Refute it at one input. -/
def leanSameWrong : ChangeSpec := { name := "leanSame", fn := fun _ => fun
  | [d1, d2] => { results := [.lit (.bool false)], args := [d1, d2] }
  | _ => none }
def LeanSameWrongFalsely : Prop := leanSameRow.holds Tryd.pinned (OpenSpec.ofChange leanSameWrong)

/-- 'ricksteadlaw1.LeanSpine': WHATEVER THE INPUT: true; the input reads as it did. -/
def leanSpineSpec : ChangeSpec := { name := "leanSpine", fn := fun _ => fun
  | [d1, d2] => { results := [.lit (.bool true)], args := [d1, d2] }
  | _ => none }
def leanSpineRow : OpenClaim := { program := "ytlocmbnbfjonbaadoor", sum := "7c699115d93d7a4b42845377e022284bde2a5d0a942d0335cdf06bf23f573b5f", func := "rickstead/ricksteadlaw1.LeanSpine", spec := "leanSpine", inPlace := ["internal/reflectlite.ValueOf", "(internal/reflectlite.Value).Type", "(internal/reflectlite.Value).IsNil", "internal/reflectlite.TypeOf", "(internal/reflectlite.Value).Elem", "(internal/reflectlite.Value).Set"], unfollowed := true, recurses := true, named := ["errors.errorType"], apart := false, laid := [("errors.errorType", laid_errors_errorType)] }
def LeanSpineSaid : Prop := leanSpineRow.holds Tryd.pinned (OpenSpec.ofChange leanSpineSpec)

/-- ITS FALSE NEIGHBOUR: 'it returns false'. Refute it at one input. -/
def leanSpineWrong : ChangeSpec := { name := "leanSpine", fn := fun _ => fun
  | [d1, d2] => { results := [.lit (.bool false)], args := [d1, d2] }
  | _ => none }
def LeanSpineWrongFalsely : Prop := leanSpineRow.holds Tryd.pinned (OpenSpec.ofChange leanSpineWrong)

/-- 'ricksteadlaw1.LeanHolds': WHATEVER THE INPUT: true; the input reads as it did. -/
def leanHoldsSpec : ChangeSpec := { name := "leanHolds", fn := fun _ => fun
  | [d1, d2] => { results := [.lit (.bool true)], args := [d1, d2] }
  | _ => none }
def leanHoldsRow : OpenClaim := { program := "ytlocmbnbfjonbaadoor", sum := "7c699115d93d7a4b42845377e022284bde2a5d0a942d0335cdf06bf23f573b5f", func := "rickstead/ricksteadlaw1.LeanHolds", spec := "leanHolds", inPlace := ["internal/reflectlite.ValueOf", "(internal/reflectlite.Value).Type", "(internal/reflectlite.Value).IsNil", "internal/reflectlite.TypeOf", "(internal/reflectlite.Value).Elem", "(internal/reflectlite.Value).Set"], unfollowed := true, recurses := true, named := ["errors.errorType"], apart := false, laid := [("errors.errorType", laid_errors_errorType)] }
def LeanHoldsSaid : Prop := leanHoldsRow.holds Tryd.pinned (OpenSpec.ofChange leanHoldsSpec)

/-- ITS FALSE NEIGHBOUR: 'it returns false'. Refute it at one input. -/
def leanHoldsWrong : ChangeSpec := { name := "leanHolds", fn := fun _ => fun
  | [d1, d2] => { results := [.lit (.bool false)], args := [d1, d2] }
  | _ => none }
def LeanHoldsWrongFalsely : Prop := leanHoldsRow.holds Tryd.pinned (OpenSpec.ofChange leanHoldsWrong)

/-- 'ricksteadlaw1.LeanSays': WHATEVER THE INPUT: true; the input reads as it did. -/
def leanSaysSpec : ChangeSpec := { name := "leanSays", fn := fun _ => fun
  | [d1, d2, d3] => { results := [.lit (.bool true)], args := [d1, d2, d3] }
  | _ => none }
def leanSaysRow : OpenClaim := { program := "ytlocmbnbfjonbaadoor", sum := "7c699115d93d7a4b42845377e022284bde2a5d0a942d0335cdf06bf23f573b5f", func := "rickstead/ricksteadlaw1.LeanSays", spec := "leanSays", inPlace := ["internal/reflectlite.ValueOf", "(internal/reflectlite.Value).Type", "(internal/reflectlite.Value).IsNil", "internal/reflectlite.TypeOf", "(internal/reflectlite.Value).Elem", "(internal/reflectlite.Value).Set"], unfollowed := true, recurses := true, named := ["errors.errorType"], apart := false, laid := [("errors.errorType", laid_errors_errorType)] }
def LeanSaysSaid : Prop := leanSaysRow.holds Tryd.pinned (OpenSpec.ofChange leanSaysSpec)

/-- ITS FALSE NEIGHBOUR: 'it returns false'. Refute it at one input. -/
def leanSaysWrong : ChangeSpec := { name := "leanSays", fn := fun _ => fun
  | [d1, d2, d3] => { results := [.lit (.bool false)], args := [d1, d2, d3] }
  | _ => none }
def LeanSaysWrongFalsely : Prop := leanSaysRow.holds Tryd.pinned (OpenSpec.ofChange leanSaysWrong)

/-- 'ricksteadlaw1.BinoDigits': WHATEVER THE INPUT: true; the input reads as it did. -/
def binoDigitsSpec : ChangeSpec := { name := "binoDigits", fn := fun _ => fun
  | [d1, d2] => { results := [.lit (.bool true)], args := [d1, d2] }
  | _ => none }
def binoDigitsRow : OpenClaim := { program := "ytlocmbnbfjonbaadoor", sum := "7c699115d93d7a4b42845377e022284bde2a5d0a942d0335cdf06bf23f573b5f", func := "rickstead/ricksteadlaw1.BinoDigits", spec := "binoDigits", inPlace := ["internal/reflectlite.ValueOf", "(internal/reflectlite.Value).Type", "(internal/reflectlite.Value).IsNil", "internal/reflectlite.TypeOf", "(internal/reflectlite.Value).Elem", "(internal/reflectlite.Value).Set"], unfollowed := true, recurses := true, named := ["errors.errorType"], apart := false, laid := [("errors.errorType", laid_errors_errorType)] }
def BinoDigitsSaid : Prop := binoDigitsRow.holds Tryd.pinned (OpenSpec.ofChange binoDigitsSpec)

/-- ITS FALSE NEIGHBOUR: 'it returns false'. Refute it at one input. -/
def binoDigitsWrong : ChangeSpec := { name := "binoDigits", fn := fun _ => fun
  | [d1, d2] => { results := [.lit (.bool false)], args := [d1, d2] }
  | _ => none }
def BinoDigitsWrongFalsely : Prop := binoDigitsRow.holds Tryd.pinned (OpenSpec.ofChange binoDigitsWrong)

/-- 'ricksteadlaw1.BinoSays': WHATEVER THE INPUT: true; the input reads as it did. -/
def binoSaysSpec : ChangeSpec := { name := "binoSays", fn := fun _ => fun
  | [d1, d2, d3] => { results := [.lit (.bool true)], args := [d1, d2, d3] }
  | _ => none }
def binoSaysRow : OpenClaim := { program := "ytlocmbnbfjonbaadoor", sum := "7c699115d93d7a4b42845377e022284bde2a5d0a942d0335cdf06bf23f573b5f", func := "rickstead/ricksteadlaw1.BinoSays", spec := "binoSays", inPlace := ["internal/reflectlite.ValueOf", "(internal/reflectlite.Value).Type", "(internal/reflectlite.Value).IsNil", "internal/reflectlite.TypeOf", "(internal/reflectlite.Value).Elem", "(internal/reflectlite.Value).Set"], unfollowed := true, recurses := true, named := ["errors.errorType"], apart := false, laid := [("errors.errorType", laid_errors_errorType)] }
def BinoSaysSaid : Prop := binoSaysRow.holds Tryd.pinned (OpenSpec.ofChange binoSaysSpec)

/-- ITS FALSE NEIGHBOUR: 'it returns false'. Refute it at one input. -/
def binoSaysWrong : ChangeSpec := { name := "binoSays", fn := fun _ => fun
  | [d1, d2, d3] => { results := [.lit (.bool false)], args := [d1, d2, d3] }
  | _ => none }
def BinoSaysWrongFalsely : Prop := binoSaysRow.holds Tryd.pinned (OpenSpec.ofChange binoSaysWrong)

/-- 'ricksteadlaw1.BinoHolds': WHATEVER THE INPUT: true; the input reads as it did. -/
def binoHoldsSpec : ChangeSpec := { name := "binoHolds", fn := fun _ => fun
  | [d1, d2] => { results := [.lit (.bool true)], args := [d1, d2] }
  | _ => none }
def binoHoldsRow : OpenClaim := { program := "ytlocmbnbfjonbaadoor", sum := "7c699115d93d7a4b42845377e022284bde2a5d0a942d0335cdf06bf23f573b5f", func := "rickstead/ricksteadlaw1.BinoHolds", spec := "binoHolds", inPlace := ["internal/reflectlite.ValueOf", "(internal/reflectlite.Value).Type", "(internal/reflectlite.Value).IsNil", "internal/reflectlite.TypeOf", "(internal/reflectlite.Value).Elem", "(internal/reflectlite.Value).Set"], unfollowed := true, recurses := true, named := ["errors.errorType"], apart := false, laid := [("errors.errorType", laid_errors_errorType)] }
def BinoHoldsSaid : Prop := binoHoldsRow.holds Tryd.pinned (OpenSpec.ofChange binoHoldsSpec)

/-- ITS FALSE NEIGHBOUR: 'it returns false'. Refute it at one input. -/
def binoHoldsWrong : ChangeSpec := { name := "binoHolds", fn := fun _ => fun
  | [d1, d2] => { results := [.lit (.bool false)], args := [d1, d2] }
  | _ => none }
def BinoHoldsWrongFalsely : Prop := binoHoldsRow.holds Tryd.pinned (OpenSpec.ofChange binoHoldsWrong)

/-- 'ricksteadlaw1.LeanSorts': WHATEVER THE INPUT: true; the input reads as it did. -/
def leanSortsSpec : ChangeSpec := { name := "leanSorts", fn := fun _ => fun
  | [d1, d2] => { results := [.lit (.bool true)], args := [d1, d2] }
  | _ => none }
def leanSortsRow : OpenClaim := { program := "ytlocmbnbfjonbaadoor", sum := "7c699115d93d7a4b42845377e022284bde2a5d0a942d0335cdf06bf23f573b5f", func := "rickstead/ricksteadlaw1.LeanSorts", spec := "leanSorts", inPlace := ["internal/reflectlite.ValueOf", "(internal/reflectlite.Value).Type", "(internal/reflectlite.Value).IsNil", "internal/reflectlite.TypeOf", "(internal/reflectlite.Value).Elem", "(internal/reflectlite.Value).Set"], unfollowed := true, recurses := true, named := ["errors.errorType"], apart := false, laid := [("errors.errorType", laid_errors_errorType)] }
def LeanSortsSaid : Prop := leanSortsRow.holds Tryd.pinned (OpenSpec.ofChange leanSortsSpec)

/-- ITS FALSE NEIGHBOUR: 'it returns false'. Refute it at one input. -/
def leanSortsWrong : ChangeSpec := { name := "leanSorts", fn := fun _ => fun
  | [d1, d2] => { results := [.lit (.bool false)], args := [d1, d2] }
  | _ => none }
def LeanSortsWrongFalsely : Prop := leanSortsRow.holds Tryd.pinned (OpenSpec.ofChange leanSortsWrong)

/-- 'ricksteadlaw1.BinoSorts': WHATEVER THE INPUT: true; the input reads as it did. -/
def binoSortsSpec : ChangeSpec := { name := "binoSorts", fn := fun _ => fun
  | [d1, d2] => { results := [.lit (.bool true)], args := [d1, d2] }
  | _ => none }
def binoSortsRow : OpenClaim := { program := "ytlocmbnbfjonbaadoor", sum := "7c699115d93d7a4b42845377e022284bde2a5d0a942d0335cdf06bf23f573b5f", func := "rickstead/ricksteadlaw1.BinoSorts", spec := "binoSorts", inPlace := ["internal/reflectlite.ValueOf", "(internal/reflectlite.Value).Type", "(internal/reflectlite.Value).IsNil", "internal/reflectlite.TypeOf", "(internal/reflectlite.Value).Elem", "(internal/reflectlite.Value).Set"], unfollowed := true, recurses := true, named := ["errors.errorType"], apart := false, laid := [("errors.errorType", laid_errors_errorType)] }
def BinoSortsSaid : Prop := binoSortsRow.holds Tryd.pinned (OpenSpec.ofChange binoSortsSpec)

/-- ITS FALSE NEIGHBOUR: 'it returns false'. Refute it at one input. -/
def binoSortsWrong : ChangeSpec := { name := "binoSorts", fn := fun _ => fun
  | [d1, d2] => { results := [.lit (.bool false)], args := [d1, d2] }
  | _ => none }
def BinoSortsWrongFalsely : Prop := binoSortsRow.holds Tryd.pinned (OpenSpec.ofChange binoSortsWrong)

/- THE SECOND FORM. 'bulk': how many values and letters a reading holds, each counted each time it is reached (what is shared counts as often as it is met; a slice's spare places count too). A statement '..UptoSaid' is the law's where the arguments, and the package variables that the reading takes, are together of bulk at most 1048576: NARROWER than '..Said'. Prove '..Said' where nothing that the law and all that it calls make is longer than what came in: it says more and counts as full. Else prove '..UptoSaid'. A law counts once. -/
mutual
def uptoBulk {H : Type} : DataW H → Nat
  | .lit (.string bytes) => bytes.length + 1
  | .lit _ => 1
  | .nil => 1
  | .ptr d => uptoBulk d + 1
  | .slice elems spare => uptoBulkAll elems + uptoBulkAll spare + 1
  | .agg parts => uptoBulkAll parts + 1
  | .iface _ d => uptoBulk d + 1
  | .map entries => uptoBulkEntries entries + 1
  | .held _ => 1
def uptoBulkAll {H : Type} : List (DataW H) → Nat
  | [] => 0
  | d :: r => uptoBulk d + uptoBulkAll r
def uptoBulkEntries {H : Type} : List (Lit × DataW H) → Nat
  | [] => 0
  | x :: r => uptoBulkEntry x + uptoBulkEntries r
def uptoBulkEntry {H : Type} : Lit × DataW H → Nat
  | (.string bytes, d) => bytes.length + uptoBulk d + 1
  | (_, d) => uptoBulk d + 1
 end
def uptoSmall : (H : Type) → List (DataW H) → Bool := fun _ ds => decide (uptoBulkAll ds ≤ 1048576)
def OpenSpec.upto (s : _root_.Go.ChangeSpec) : _root_.Go.OpenSpec := { _root_.Go.OpenSpec.ofChange s with cond := some uptoSmall }

/-- 'ricksteadlaw1.LeanSame', WHERE WHAT IT READS IS OF BULK AT MOST 1048576: true; the input reads as it did. -/
def leanSameUptoRow : OpenClaim := { program := "ytlocmbnbfjonbaadoor", sum := "7c699115d93d7a4b42845377e022284bde2a5d0a942d0335cdf06bf23f573b5f", func := "rickstead/ricksteadlaw1.LeanSame", spec := "leanSame", inPlace := ["internal/reflectlite.ValueOf", "(internal/reflectlite.Value).Type", "(internal/reflectlite.Value).IsNil", "internal/reflectlite.TypeOf", "(internal/reflectlite.Value).Elem", "(internal/reflectlite.Value).Set"], unfollowed := true, recurses := true, named := ["errors.errorType"], apart := false, laid := [("errors.errorType", laid_errors_errorType)], narrowed := true }
def LeanSameUptoSaid : Prop := leanSameUptoRow.holds Tryd.pinned (OpenSpec.upto leanSameSpec)

/-- 'ricksteadlaw1.LeanSpine', WHERE WHAT IT READS IS OF BULK AT MOST 1048576: true; the input reads as it did. -/
def leanSpineUptoRow : OpenClaim := { program := "ytlocmbnbfjonbaadoor", sum := "7c699115d93d7a4b42845377e022284bde2a5d0a942d0335cdf06bf23f573b5f", func := "rickstead/ricksteadlaw1.LeanSpine", spec := "leanSpine", inPlace := ["internal/reflectlite.ValueOf", "(internal/reflectlite.Value).Type", "(internal/reflectlite.Value).IsNil", "internal/reflectlite.TypeOf", "(internal/reflectlite.Value).Elem", "(internal/reflectlite.Value).Set"], unfollowed := true, recurses := true, named := ["errors.errorType"], apart := false, laid := [("errors.errorType", laid_errors_errorType)], narrowed := true }
def LeanSpineUptoSaid : Prop := leanSpineUptoRow.holds Tryd.pinned (OpenSpec.upto leanSpineSpec)

/-- 'ricksteadlaw1.LeanHolds', WHERE WHAT IT READS IS OF BULK AT MOST 1048576: true; the input reads as it did. -/
def leanHoldsUptoRow : OpenClaim := { program := "ytlocmbnbfjonbaadoor", sum := "7c699115d93d7a4b42845377e022284bde2a5d0a942d0335cdf06bf23f573b5f", func := "rickstead/ricksteadlaw1.LeanHolds", spec := "leanHolds", inPlace := ["internal/reflectlite.ValueOf", "(internal/reflectlite.Value).Type", "(internal/reflectlite.Value).IsNil", "internal/reflectlite.TypeOf", "(internal/reflectlite.Value).Elem", "(internal/reflectlite.Value).Set"], unfollowed := true, recurses := true, named := ["errors.errorType"], apart := false, laid := [("errors.errorType", laid_errors_errorType)], narrowed := true }
def LeanHoldsUptoSaid : Prop := leanHoldsUptoRow.holds Tryd.pinned (OpenSpec.upto leanHoldsSpec)

/-- 'ricksteadlaw1.LeanSays', WHERE WHAT IT READS IS OF BULK AT MOST 1048576: true; the input reads as it did. -/
def leanSaysUptoRow : OpenClaim := { program := "ytlocmbnbfjonbaadoor", sum := "7c699115d93d7a4b42845377e022284bde2a5d0a942d0335cdf06bf23f573b5f", func := "rickstead/ricksteadlaw1.LeanSays", spec := "leanSays", inPlace := ["internal/reflectlite.ValueOf", "(internal/reflectlite.Value).Type", "(internal/reflectlite.Value).IsNil", "internal/reflectlite.TypeOf", "(internal/reflectlite.Value).Elem", "(internal/reflectlite.Value).Set"], unfollowed := true, recurses := true, named := ["errors.errorType"], apart := false, laid := [("errors.errorType", laid_errors_errorType)], narrowed := true }
def LeanSaysUptoSaid : Prop := leanSaysUptoRow.holds Tryd.pinned (OpenSpec.upto leanSaysSpec)

/-- 'ricksteadlaw1.BinoDigits', WHERE WHAT IT READS IS OF BULK AT MOST 1048576: true; the input reads as it did. -/
def binoDigitsUptoRow : OpenClaim := { program := "ytlocmbnbfjonbaadoor", sum := "7c699115d93d7a4b42845377e022284bde2a5d0a942d0335cdf06bf23f573b5f", func := "rickstead/ricksteadlaw1.BinoDigits", spec := "binoDigits", inPlace := ["internal/reflectlite.ValueOf", "(internal/reflectlite.Value).Type", "(internal/reflectlite.Value).IsNil", "internal/reflectlite.TypeOf", "(internal/reflectlite.Value).Elem", "(internal/reflectlite.Value).Set"], unfollowed := true, recurses := true, named := ["errors.errorType"], apart := false, laid := [("errors.errorType", laid_errors_errorType)], narrowed := true }
def BinoDigitsUptoSaid : Prop := binoDigitsUptoRow.holds Tryd.pinned (OpenSpec.upto binoDigitsSpec)

/-- 'ricksteadlaw1.BinoSays', WHERE WHAT IT READS IS OF BULK AT MOST 1048576: true; the input reads as it did. -/
def binoSaysUptoRow : OpenClaim := { program := "ytlocmbnbfjonbaadoor", sum := "7c699115d93d7a4b42845377e022284bde2a5d0a942d0335cdf06bf23f573b5f", func := "rickstead/ricksteadlaw1.BinoSays", spec := "binoSays", inPlace := ["internal/reflectlite.ValueOf", "(internal/reflectlite.Value).Type", "(internal/reflectlite.Value).IsNil", "internal/reflectlite.TypeOf", "(internal/reflectlite.Value).Elem", "(internal/reflectlite.Value).Set"], unfollowed := true, recurses := true, named := ["errors.errorType"], apart := false, laid := [("errors.errorType", laid_errors_errorType)], narrowed := true }
def BinoSaysUptoSaid : Prop := binoSaysUptoRow.holds Tryd.pinned (OpenSpec.upto binoSaysSpec)

/-- 'ricksteadlaw1.BinoHolds', WHERE WHAT IT READS IS OF BULK AT MOST 1048576: true; the input reads as it did. -/
def binoHoldsUptoRow : OpenClaim := { program := "ytlocmbnbfjonbaadoor", sum := "7c699115d93d7a4b42845377e022284bde2a5d0a942d0335cdf06bf23f573b5f", func := "rickstead/ricksteadlaw1.BinoHolds", spec := "binoHolds", inPlace := ["internal/reflectlite.ValueOf", "(internal/reflectlite.Value).Type", "(internal/reflectlite.Value).IsNil", "internal/reflectlite.TypeOf", "(internal/reflectlite.Value).Elem", "(internal/reflectlite.Value).Set"], unfollowed := true, recurses := true, named := ["errors.errorType"], apart := false, laid := [("errors.errorType", laid_errors_errorType)], narrowed := true }
def BinoHoldsUptoSaid : Prop := binoHoldsUptoRow.holds Tryd.pinned (OpenSpec.upto binoHoldsSpec)

/-- 'ricksteadlaw1.LeanSorts', WHERE WHAT IT READS IS OF BULK AT MOST 1048576: true; the input reads as it did. -/
def leanSortsUptoRow : OpenClaim := { program := "ytlocmbnbfjonbaadoor", sum := "7c699115d93d7a4b42845377e022284bde2a5d0a942d0335cdf06bf23f573b5f", func := "rickstead/ricksteadlaw1.LeanSorts", spec := "leanSorts", inPlace := ["internal/reflectlite.ValueOf", "(internal/reflectlite.Value).Type", "(internal/reflectlite.Value).IsNil", "internal/reflectlite.TypeOf", "(internal/reflectlite.Value).Elem", "(internal/reflectlite.Value).Set"], unfollowed := true, recurses := true, named := ["errors.errorType"], apart := false, laid := [("errors.errorType", laid_errors_errorType)], narrowed := true }
def LeanSortsUptoSaid : Prop := leanSortsUptoRow.holds Tryd.pinned (OpenSpec.upto leanSortsSpec)

/-- 'ricksteadlaw1.BinoSorts', WHERE WHAT IT READS IS OF BULK AT MOST 1048576: true; the input reads as it did. -/
def binoSortsUptoRow : OpenClaim := { program := "ytlocmbnbfjonbaadoor", sum := "7c699115d93d7a4b42845377e022284bde2a5d0a942d0335cdf06bf23f573b5f", func := "rickstead/ricksteadlaw1.BinoSorts", spec := "binoSorts", inPlace := ["internal/reflectlite.ValueOf", "(internal/reflectlite.Value).Type", "(internal/reflectlite.Value).IsNil", "internal/reflectlite.TypeOf", "(internal/reflectlite.Value).Elem", "(internal/reflectlite.Value).Set"], unfollowed := true, recurses := true, named := ["errors.errorType"], apart := false, laid := [("errors.errorType", laid_errors_errorType)], narrowed := true }
def BinoSortsUptoSaid : Prop := binoSortsUptoRow.holds Tryd.pinned (OpenSpec.upto binoSortsSpec)

end Rows
end Go.Proofs.YtlocmbnbfjonbaaDoor
