/-
  NARROWER THAN 'FOR EVERY INPUT', by the rows' own cells (each row's printed sentence says how): YardDone: laid · YardBrackets: laid · TopSums: laid · YardFirst: laid · YardSays: laid · YardRead: laid.
  DERIVED. THE GIVEN ROWS OF THIS SEAT. 6 by the template 'for every input the law returns true; each argument reads behind the call as it read before'; 0 by the template 'total and deterministic' (their statements: YtehecbfgdpaemaaDoorTotals.lean).
  GIVEN WITH THE SEED: the statements are not yours to turn. If you find one false, say at which input.
  Laid BY PROGRAM, IN A SANDBOX (cutbox-rows.mjs): the forced cells as the released guide's own fill.sh prints them over the translation 325c0c64567d3f83… (all of the seat's roots in one cut). By AI agents, Wed Nov 11 2026. No macro, syntax, notation, axiom, sorry.
-/
import Derived.Test.YtehecbfgdpaemaaDoorChecked
import GoSem.Claim
import GoSem.ClaimJoined
import GoSem.ClaimMapViews
import Derived.JoinedTies
import Derived.KernelRfl
namespace Go.Proofs.YtehecbfgdpaemaaDoor
/- THE CELL 'sum', in the pinned program and in every row, IS THE sha256 OF THE DUMP (.gsa) THAT YtehecbfgdpaemaaDoorProg.lean LOADS. Nothing in Lean hashes anything: it is a label: what it is worth is what the hold of that sum in a sandbox is worth. -/
noncomputable def Tryd.pinned : Pinned := { name := "ytehecbfgdpaemaadoor", sum := "325c0c64567d3f83a57cc8ff874b4d03477235807f73b5f69a150c7e7b57a0ca", checked := Tryd.checked }
namespace Rows
def none {H : Type} : Left H := { results := [], args := [] }

/- WHAT THE LISTED PACKAGE-LEVEL VARIABLES READ AS WHEN THE CALL BEGINS. Each datum BY PROGRAM (the guide's laid-datum.mjs) off the statement by which the dump's own 'gosem.cut.vars' lays the variable. In a bare row this is a premise. The card (YtehecbfgdpaemaaDoorCards.lean) ties it to the program's text. -/
def laid_letterbeck_yard_kinds {H : Type} : DataW H := .iface "func table" (.map [(.int .u8 42, .agg [.lit (.int .i64 2), .lit (.bool false), .iface "func" (.lit (.string [108, 101, 116, 116, 101, 114, 98, 101, 99, 107, 47, 121, 97, 114, 100, 46, 107, 105, 110, 100, 115, 36, 51]))]), (.int .u8 43, .agg [.lit (.int .i64 1), .lit (.bool false), .iface "func" (.lit (.string [108, 101, 116, 116, 101, 114, 98, 101, 99, 107, 47, 121, 97, 114, 100, 46, 107, 105, 110, 100, 115, 36, 49]))]), (.int .u8 45, .agg [.lit (.int .i64 1), .lit (.bool false), .iface "func" (.lit (.string [108, 101, 116, 116, 101, 114, 98, 101, 99, 107, 47, 121, 97, 114, 100, 46, 107, 105, 110, 100, 115, 36, 50]))]), (.int .u8 94, .agg [.lit (.int .i64 3), .lit (.bool true), .iface "func" (.lit (.string [108, 101, 116, 116, 101, 114, 98, 101, 99, 107, 47, 121, 97, 114, 100, 46, 112, 111, 119]))])])
def laid_letterbeck_roman_parts {H : Type} : DataW H := .agg [.agg [.lit (.int .i64 1000), .lit (.string [77])], .agg [.lit (.int .i64 900), .lit (.string [67, 77])], .agg [.lit (.int .i64 500), .lit (.string [68])], .agg [.lit (.int .i64 400), .lit (.string [67, 68])], .agg [.lit (.int .i64 100), .lit (.string [67])], .agg [.lit (.int .i64 90), .lit (.string [88, 67])], .agg [.lit (.int .i64 50), .lit (.string [76])], .agg [.lit (.int .i64 40), .lit (.string [88, 76])], .agg [.lit (.int .i64 10), .lit (.string [88])], .agg [.lit (.int .i64 9), .lit (.string [73, 88])], .agg [.lit (.int .i64 5), .lit (.string [86])], .agg [.lit (.int .i64 4), .lit (.string [73, 86])], .agg [.lit (.int .i64 1), .lit (.string [73])]]
def laid_errors_errorType {H : Type} : DataW H := .iface "internal/reflectlite.rtype" (.agg [.ptr (.lit (.string [101, 114, 114, 111, 114]))])

/-- 'letterbecklaw4.YardDone': WHATEVER THE INPUT: true; the input reads as it did. -/
def yardDoneSpec : ChangeSpec := { name := "yardDone", fn := fun _ => fun
  | [d] => { results := [.lit (.bool true)], args := [d] }
  | _ => none }
def yardDoneRow : OpenClaim := { program := "ytehecbfgdpaemaadoor", sum := "325c0c64567d3f83a57cc8ff874b4d03477235807f73b5f69a150c7e7b57a0ca", func := "letterbeck/letterbecklaw4.YardDone", spec := "yardDone", inPlace := ["internal/abi.NoEscape"], unfollowed := true, recurses := true, named := ["letterbeck/yard.kinds"], apart := false, laid := [("letterbeck/yard.kinds", laid_letterbeck_yard_kinds)] }
def YardDoneSaid : Prop := yardDoneRow.holds Tryd.pinned (OpenSpec.ofChange yardDoneSpec)

/-- ITS FALSE NEIGHBOUR: 'it returns false'. Refute it at one input. -/
def yardDoneWrong : ChangeSpec := { name := "yardDone", fn := fun _ => fun
  | [d] => { results := [.lit (.bool false)], args := [d] }
  | _ => none }
def YardDoneWrongFalsely : Prop := yardDoneRow.holds Tryd.pinned (OpenSpec.ofChange yardDoneWrong)

/-- 'letterbecklaw4.YardBrackets': WHATEVER THE INPUT: true; the input reads as it did. -/
def yardBracketsSpec : ChangeSpec := { name := "yardBrackets", fn := fun _ => fun
  | [d1, d2] => { results := [.lit (.bool true)], args := [d1, d2] }
  | _ => none }
def yardBracketsRow : OpenClaim := { program := "ytehecbfgdpaemaadoor", sum := "325c0c64567d3f83a57cc8ff874b4d03477235807f73b5f69a150c7e7b57a0ca", func := "letterbeck/letterbecklaw4.YardBrackets", spec := "yardBrackets", inPlace := ["internal/abi.NoEscape"], unfollowed := true, recurses := true, named := ["letterbeck/yard.kinds"], apart := false, laid := [("letterbeck/yard.kinds", laid_letterbeck_yard_kinds)] }
def YardBracketsSaid : Prop := yardBracketsRow.holds Tryd.pinned (OpenSpec.ofChange yardBracketsSpec)

/-- ITS FALSE NEIGHBOUR: 'it returns false'. Refute it at one input. -/
def yardBracketsWrong : ChangeSpec := { name := "yardBrackets", fn := fun _ => fun
  | [d1, d2] => { results := [.lit (.bool false)], args := [d1, d2] }
  | _ => none }
def YardBracketsWrongFalsely : Prop := yardBracketsRow.holds Tryd.pinned (OpenSpec.ofChange yardBracketsWrong)

/-- 'letterbecktop.TopSums': WHATEVER THE INPUT: true; the input reads as it did. -/
def topSumsSpec : ChangeSpec := { name := "topSums", fn := fun _ => fun
  | [d1, d2] => { results := [.lit (.bool true)], args := [d1, d2] }
  | _ => none }
def topSumsRow : OpenClaim := { program := "ytehecbfgdpaemaadoor", sum := "325c0c64567d3f83a57cc8ff874b4d03477235807f73b5f69a150c7e7b57a0ca", func := "letterbeck/letterbecktop.TopSums", spec := "topSums", inPlace := ["internal/abi.NoEscape"], unfollowed := true, recurses := true, named := ["letterbeck/yard.kinds", "letterbeck/roman.parts"], apart := false, laid := [("letterbeck/roman.parts", laid_letterbeck_roman_parts), ("letterbeck/yard.kinds", laid_letterbeck_yard_kinds)] }
def TopSumsSaid : Prop := topSumsRow.holds Tryd.pinned (OpenSpec.ofChange topSumsSpec)

/-- ITS FALSE NEIGHBOUR: 'it returns false'. Refute it at one input. -/
def topSumsWrong : ChangeSpec := { name := "topSums", fn := fun _ => fun
  | [d1, d2] => { results := [.lit (.bool false)], args := [d1, d2] }
  | _ => none }
def TopSumsWrongFalsely : Prop := topSumsRow.holds Tryd.pinned (OpenSpec.ofChange topSumsWrong)

/-- 'letterbecklaw4.YardFirst': WHATEVER THE INPUT: true; the input reads as it did. -/
def yardFirstSpec : ChangeSpec := { name := "yardFirst", fn := fun _ => fun
  | [d1, d2, d3] => { results := [.lit (.bool true)], args := [d1, d2, d3] }
  | _ => none }
def yardFirstRow : OpenClaim := { program := "ytehecbfgdpaemaadoor", sum := "325c0c64567d3f83a57cc8ff874b4d03477235807f73b5f69a150c7e7b57a0ca", func := "letterbeck/letterbecklaw4.YardFirst", spec := "yardFirst", inPlace := ["internal/abi.NoEscape"], unfollowed := true, recurses := true, named := ["letterbeck/yard.kinds"], apart := false, laid := [("letterbeck/yard.kinds", laid_letterbeck_yard_kinds)] }
def YardFirstSaid : Prop := yardFirstRow.holds Tryd.pinned (OpenSpec.ofChange yardFirstSpec)

/-- ITS FALSE NEIGHBOUR: 'it returns false'. Refute it at one input. -/
def yardFirstWrong : ChangeSpec := { name := "yardFirst", fn := fun _ => fun
  | [d1, d2, d3] => { results := [.lit (.bool false)], args := [d1, d2, d3] }
  | _ => none }
def YardFirstWrongFalsely : Prop := yardFirstRow.holds Tryd.pinned (OpenSpec.ofChange yardFirstWrong)

/-- 'letterbecklaw4.YardSays': WHATEVER THE INPUT: true; the input reads as it did. -/
def yardSaysSpec : ChangeSpec := { name := "yardSays", fn := fun _ => fun
  | [d1, d2] => { results := [.lit (.bool true)], args := [d1, d2] }
  | _ => none }
def yardSaysRow : OpenClaim := { program := "ytehecbfgdpaemaadoor", sum := "325c0c64567d3f83a57cc8ff874b4d03477235807f73b5f69a150c7e7b57a0ca", func := "letterbeck/letterbecklaw4.YardSays", spec := "yardSays", inPlace := ["internal/abi.NoEscape", "internal/reflectlite.ValueOf", "(internal/reflectlite.Value).Type", "(internal/reflectlite.Value).IsNil", "internal/reflectlite.TypeOf", "(internal/reflectlite.Value).Elem", "(internal/reflectlite.Value).Set"], unfollowed := true, recurses := true, named := ["letterbeck/yard.kinds", "errors.errorType"], apart := false, laid := [("errors.errorType", laid_errors_errorType), ("letterbeck/yard.kinds", laid_letterbeck_yard_kinds)] }
def YardSaysSaid : Prop := yardSaysRow.holds Tryd.pinned (OpenSpec.ofChange yardSaysSpec)

/-- ITS FALSE NEIGHBOUR: 'it returns false'. Refute it at one input. -/
def yardSaysWrong : ChangeSpec := { name := "yardSays", fn := fun _ => fun
  | [d1, d2] => { results := [.lit (.bool false)], args := [d1, d2] }
  | _ => none }
def YardSaysWrongFalsely : Prop := yardSaysRow.holds Tryd.pinned (OpenSpec.ofChange yardSaysWrong)

/-- 'letterbecklaw4.YardRead': WHATEVER THE INPUT: true; the input reads as it did. -/
def yardReadSpec : ChangeSpec := { name := "yardRead", fn := fun _ => fun
  | [d1, d2] => { results := [.lit (.bool true)], args := [d1, d2] }
  | _ => none }
def yardReadRow : OpenClaim := { program := "ytehecbfgdpaemaadoor", sum := "325c0c64567d3f83a57cc8ff874b4d03477235807f73b5f69a150c7e7b57a0ca", func := "letterbeck/letterbecklaw4.YardRead", spec := "yardRead", inPlace := ["internal/abi.NoEscape", "internal/reflectlite.ValueOf", "(internal/reflectlite.Value).Type", "(internal/reflectlite.Value).IsNil", "internal/reflectlite.TypeOf", "(internal/reflectlite.Value).Elem", "(internal/reflectlite.Value).Set"], unfollowed := true, recurses := true, named := ["letterbeck/yard.kinds", "errors.errorType"], apart := false, laid := [("errors.errorType", laid_errors_errorType), ("letterbeck/yard.kinds", laid_letterbeck_yard_kinds)] }
def YardReadSaid : Prop := yardReadRow.holds Tryd.pinned (OpenSpec.ofChange yardReadSpec)

/-- ITS FALSE NEIGHBOUR: 'it returns false'. Refute it at one input. -/
def yardReadWrong : ChangeSpec := { name := "yardRead", fn := fun _ => fun
  | [d1, d2] => { results := [.lit (.bool false)], args := [d1, d2] }
  | _ => none }
def YardReadWrongFalsely : Prop := yardReadRow.holds Tryd.pinned (OpenSpec.ofChange yardReadWrong)

/- THE SECOND FORM. 'bulk': how many values and letters a reading holds, each counted each time it is reached (what is shared counts as often as it is met; a slice's spare places count too). A statement '..UptoSaid' is the law's where the arguments, and the package variables that the reading takes, are together of bulk at most 1048576: NARROWER than '..Said'. Prove '..Said' where nothing that the law and all that it calls make is longer than what came in: it says more and counts as full. Else prove '..UptoSaid'. A law counts once. -/
mutual
def uptoBulk {H : Type} : DataW H → Nat
  | .lit (.string bytes) => bytes.length + 1
  | .lit _ => 1
  | .nil => 1
  | .ptr d => uptoBulk d + 1
  | .slice elems spare => uptoBulkAll elems + uptoBulkAll spare + 1
  | .agg parts => uptoBulkAll parts + 1
  | .iface _ d => uptoBulk d + 1
  | .map entries => uptoBulkEntries entries + 1
  | .held _ => 1
def uptoBulkAll {H : Type} : List (DataW H) → Nat
  | [] => 0
  | d :: r => uptoBulk d + uptoBulkAll r
def uptoBulkEntries {H : Type} : List (Lit × DataW H) → Nat
  | [] => 0
  | x :: r => uptoBulkEntry x + uptoBulkEntries r
def uptoBulkEntry {H : Type} : Lit × DataW H → Nat
  | (.string bytes, d) => bytes.length + uptoBulk d + 1
  | (_, d) => uptoBulk d + 1
 end
def uptoSmall : (H : Type) → List (DataW H) → Bool := fun _ ds => decide (uptoBulkAll ds ≤ 1048576)
def OpenSpec.upto (s : _root_.Go.ChangeSpec) : _root_.Go.OpenSpec := { _root_.Go.OpenSpec.ofChange s with cond := some uptoSmall }

/-- 'letterbecklaw4.YardDone', WHERE WHAT IT READS IS OF BULK AT MOST 1048576: true; the input reads as it did. -/
def yardDoneUptoRow : OpenClaim := { program := "ytehecbfgdpaemaadoor", sum := "325c0c64567d3f83a57cc8ff874b4d03477235807f73b5f69a150c7e7b57a0ca", func := "letterbeck/letterbecklaw4.YardDone", spec := "yardDone", inPlace := ["internal/abi.NoEscape"], unfollowed := true, recurses := true, named := ["letterbeck/yard.kinds"], apart := false, laid := [("letterbeck/yard.kinds", laid_letterbeck_yard_kinds)], narrowed := true }
def YardDoneUptoSaid : Prop := yardDoneUptoRow.holds Tryd.pinned (OpenSpec.upto yardDoneSpec)

/-- 'letterbecklaw4.YardBrackets', WHERE WHAT IT READS IS OF BULK AT MOST 1048576: true; the input reads as it did. -/
def yardBracketsUptoRow : OpenClaim := { program := "ytehecbfgdpaemaadoor", sum := "325c0c64567d3f83a57cc8ff874b4d03477235807f73b5f69a150c7e7b57a0ca", func := "letterbeck/letterbecklaw4.YardBrackets", spec := "yardBrackets", inPlace := ["internal/abi.NoEscape"], unfollowed := true, recurses := true, named := ["letterbeck/yard.kinds"], apart := false, laid := [("letterbeck/yard.kinds", laid_letterbeck_yard_kinds)], narrowed := true }
def YardBracketsUptoSaid : Prop := yardBracketsUptoRow.holds Tryd.pinned (OpenSpec.upto yardBracketsSpec)

/-- 'letterbecktop.TopSums', WHERE WHAT IT READS IS OF BULK AT MOST 1048576: true; the input reads as it did. -/
def topSumsUptoRow : OpenClaim := { program := "ytehecbfgdpaemaadoor", sum := "325c0c64567d3f83a57cc8ff874b4d03477235807f73b5f69a150c7e7b57a0ca", func := "letterbeck/letterbecktop.TopSums", spec := "topSums", inPlace := ["internal/abi.NoEscape"], unfollowed := true, recurses := true, named := ["letterbeck/yard.kinds", "letterbeck/roman.parts"], apart := false, laid := [("letterbeck/roman.parts", laid_letterbeck_roman_parts), ("letterbeck/yard.kinds", laid_letterbeck_yard_kinds)], narrowed := true }
def TopSumsUptoSaid : Prop := topSumsUptoRow.holds Tryd.pinned (OpenSpec.upto topSumsSpec)

/-- 'letterbecklaw4.YardFirst', WHERE WHAT IT READS IS OF BULK AT MOST 1048576: true; the input reads as it did. -/
def yardFirstUptoRow : OpenClaim := { program := "ytehecbfgdpaemaadoor", sum := "325c0c64567d3f83a57cc8ff874b4d03477235807f73b5f69a150c7e7b57a0ca", func := "letterbeck/letterbecklaw4.YardFirst", spec := "yardFirst", inPlace := ["internal/abi.NoEscape"], unfollowed := true, recurses := true, named := ["letterbeck/yard.kinds"], apart := false, laid := [("letterbeck/yard.kinds", laid_letterbeck_yard_kinds)], narrowed := true }
def YardFirstUptoSaid : Prop := yardFirstUptoRow.holds Tryd.pinned (OpenSpec.upto yardFirstSpec)

/-- 'letterbecklaw4.YardSays', WHERE WHAT IT READS IS OF BULK AT MOST 1048576: true; the input reads as it did. -/
def yardSaysUptoRow : OpenClaim := { program := "ytehecbfgdpaemaadoor", sum := "325c0c64567d3f83a57cc8ff874b4d03477235807f73b5f69a150c7e7b57a0ca", func := "letterbeck/letterbecklaw4.YardSays", spec := "yardSays", inPlace := ["internal/abi.NoEscape", "internal/reflectlite.ValueOf", "(internal/reflectlite.Value).Type", "(internal/reflectlite.Value).IsNil", "internal/reflectlite.TypeOf", "(internal/reflectlite.Value).Elem", "(internal/reflectlite.Value).Set"], unfollowed := true, recurses := true, named := ["letterbeck/yard.kinds", "errors.errorType"], apart := false, laid := [("errors.errorType", laid_errors_errorType), ("letterbeck/yard.kinds", laid_letterbeck_yard_kinds)], narrowed := true }
def YardSaysUptoSaid : Prop := yardSaysUptoRow.holds Tryd.pinned (OpenSpec.upto yardSaysSpec)

/-- 'letterbecklaw4.YardRead', WHERE WHAT IT READS IS OF BULK AT MOST 1048576: true; the input reads as it did. -/
def yardReadUptoRow : OpenClaim := { program := "ytehecbfgdpaemaadoor", sum := "325c0c64567d3f83a57cc8ff874b4d03477235807f73b5f69a150c7e7b57a0ca", func := "letterbeck/letterbecklaw4.YardRead", spec := "yardRead", inPlace := ["internal/abi.NoEscape", "internal/reflectlite.ValueOf", "(internal/reflectlite.Value).Type", "(internal/reflectlite.Value).IsNil", "internal/reflectlite.TypeOf", "(internal/reflectlite.Value).Elem", "(internal/reflectlite.Value).Set"], unfollowed := true, recurses := true, named := ["letterbeck/yard.kinds", "errors.errorType"], apart := false, laid := [("errors.errorType", laid_errors_errorType), ("letterbeck/yard.kinds", laid_letterbeck_yard_kinds)], narrowed := true }
def YardReadUptoSaid : Prop := yardReadUptoRow.holds Tryd.pinned (OpenSpec.upto yardReadSpec)

end Rows
end Go.Proofs.YtehecbfgdpaemaaDoor
