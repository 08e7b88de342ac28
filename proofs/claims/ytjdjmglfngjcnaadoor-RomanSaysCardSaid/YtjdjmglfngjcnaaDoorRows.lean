/-
  NARROWER THAN 'FOR EVERY INPUT', by the rows' own cells (each row's printed sentence says how): RomanBack: laid · RomanTens: laid · RomanSays: laid.
  DERIVED. THE GIVEN ROWS OF THIS SEAT. 3 by the template 'for every input the law returns true; each argument reads behind the call as it read before'; 0 by the template 'total and deterministic' (their statements: YtjdjmglfngjcnaaDoorTotals.lean).
  GIVEN WITH THE SEED: the statements are not yours to turn. If you find one false, say at which input.
  Laid BY PROGRAM, IN A SANDBOX (cutbox-rows.mjs): the forced cells as the released guide's own fill.sh prints them over the translation cf6c2982533c39eb… (all of the seat's roots in one cut). By AI agents, Wed Nov 11 2026. No macro, syntax, notation, axiom, sorry.
-/
import Derived.Test.YtjdjmglfngjcnaaDoorChecked
import GoSem.Claim
import GoSem.ClaimJoined
import GoSem.ClaimMapViews
import Derived.JoinedTies
import Derived.KernelRfl
namespace Go.Proofs.YtjdjmglfngjcnaaDoor
/- THE CELL 'sum', in the pinned program and in every row, IS THE sha256 OF THE DUMP (.gsa) THAT YtjdjmglfngjcnaaDoorProg.lean LOADS. Nothing in Lean hashes anything: it is a label: what it is worth is what the hold of that sum in a sandbox is worth. -/
noncomputable def Tryd.pinned : Pinned := { name := "ytjdjmglfngjcnaadoor", sum := "cf6c2982533c39eb7d7a55866b020d6abae60bd07f77e6f4ca3d4f15019b0c5f", checked := Tryd.checked }
namespace Rows
def none {H : Type} : Left H := { results := [], args := [] }

/- WHAT THE LISTED PACKAGE-LEVEL VARIABLES READ AS WHEN THE CALL BEGINS. Each datum BY PROGRAM (the guide's laid-datum.mjs) off the statement by which the dump's own 'gosem.cut.vars' lays the variable. In a bare row this is a premise. The card (YtjdjmglfngjcnaaDoorCards.lean) ties it to the program's text. -/
def laid_letterbeck_roman_parts {H : Type} : DataW H := .agg [.agg [.lit (.int .i64 1000), .lit (.string [77])], .agg [.lit (.int .i64 900), .lit (.string [67, 77])], .agg [.lit (.int .i64 500), .lit (.string [68])], .agg [.lit (.int .i64 400), .lit (.string [67, 68])], .agg [.lit (.int .i64 100), .lit (.string [67])], .agg [.lit (.int .i64 90), .lit (.string [88, 67])], .agg [.lit (.int .i64 50), .lit (.string [76])], .agg [.lit (.int .i64 40), .lit (.string [88, 76])], .agg [.lit (.int .i64 10), .lit (.string [88])], .agg [.lit (.int .i64 9), .lit (.string [73, 88])], .agg [.lit (.int .i64 5), .lit (.string [86])], .agg [.lit (.int .i64 4), .lit (.string [73, 86])], .agg [.lit (.int .i64 1), .lit (.string [73])]]
def laid_errors_errorType {H : Type} : DataW H := .iface "internal/reflectlite.rtype" (.agg [.ptr (.lit (.string [101, 114, 114, 111, 114]))])

/-- 'letterbecklaw4.RomanBack': WHATEVER THE INPUT: true; the input reads as it did. -/
def romanBackSpec : ChangeSpec := { name := "romanBack", fn := fun _ => fun
  | [d1, d2] => { results := [.lit (.bool true)], args := [d1, d2] }
  | _ => none }
def romanBackRow : OpenClaim := { program := "ytjdjmglfngjcnaadoor", sum := "cf6c2982533c39eb7d7a55866b020d6abae60bd07f77e6f4ca3d4f15019b0c5f", func := "letterbeck/letterbecklaw4.RomanBack", spec := "romanBack", inPlace := ["internal/abi.NoEscape"], named := ["letterbeck/roman.parts"], apart := false, laid := [("letterbeck/roman.parts", laid_letterbeck_roman_parts)] }
def RomanBackSaid : Prop := romanBackRow.holds Tryd.pinned (OpenSpec.ofChange romanBackSpec)

/-- ITS FALSE NEIGHBOUR: 'it returns false'. Refute it at one input. -/
def romanBackWrong : ChangeSpec := { name := "romanBack", fn := fun _ => fun
  | [d1, d2] => { results := [.lit (.bool false)], args := [d1, d2] }
  | _ => none }
def RomanBackWrongFalsely : Prop := romanBackRow.holds Tryd.pinned (OpenSpec.ofChange romanBackWrong)

/-- 'letterbecklaw4.RomanTens': WHATEVER THE INPUT: true; the input reads as it did. -/
def romanTensSpec : ChangeSpec := { name := "romanTens", fn := fun _ => fun
  | [d] => { results := [.lit (.bool true)], args := [d] }
  | _ => none }
def romanTensRow : OpenClaim := { program := "ytjdjmglfngjcnaadoor", sum := "cf6c2982533c39eb7d7a55866b020d6abae60bd07f77e6f4ca3d4f15019b0c5f", func := "letterbeck/letterbecklaw4.RomanTens", spec := "romanTens", inPlace := ["internal/abi.NoEscape"], named := ["letterbeck/roman.parts"], apart := false, laid := [("letterbeck/roman.parts", laid_letterbeck_roman_parts)] }
def RomanTensSaid : Prop := romanTensRow.holds Tryd.pinned (OpenSpec.ofChange romanTensSpec)

/-- ITS FALSE NEIGHBOUR: 'it returns false'. Refute it at one input. -/
def romanTensWrong : ChangeSpec := { name := "romanTens", fn := fun _ => fun
  | [d] => { results := [.lit (.bool false)], args := [d] }
  | _ => none }
def RomanTensWrongFalsely : Prop := romanTensRow.holds Tryd.pinned (OpenSpec.ofChange romanTensWrong)

/-- 'letterbecklaw4.RomanSays': WHATEVER THE INPUT: true; the input reads as it did. -/
def romanSaysSpec : ChangeSpec := { name := "romanSays", fn := fun _ => fun
  | [d1, d2] => { results := [.lit (.bool true)], args := [d1, d2] }
  | _ => none }
def romanSaysRow : OpenClaim := { program := "ytjdjmglfngjcnaadoor", sum := "cf6c2982533c39eb7d7a55866b020d6abae60bd07f77e6f4ca3d4f15019b0c5f", func := "letterbeck/letterbecklaw4.RomanSays", spec := "romanSays", inPlace := ["internal/abi.NoEscape", "internal/reflectlite.ValueOf", "(internal/reflectlite.Value).Type", "(internal/reflectlite.Value).IsNil", "internal/reflectlite.TypeOf", "(internal/reflectlite.Value).Elem", "(internal/reflectlite.Value).Set"], unfollowed := true, recurses := true, named := ["letterbeck/roman.parts", "errors.errorType"], apart := false, laid := [("errors.errorType", laid_errors_errorType), ("letterbeck/roman.parts", laid_letterbeck_roman_parts)] }
def RomanSaysSaid : Prop := romanSaysRow.holds Tryd.pinned (OpenSpec.ofChange romanSaysSpec)

/-- ITS FALSE NEIGHBOUR: 'it returns false'. Refute it at one input. -/
def romanSaysWrong : ChangeSpec := { name := "romanSays", fn := fun _ => fun
  | [d1, d2] => { results := [.lit (.bool false)], args := [d1, d2] }
  | _ => none }
def RomanSaysWrongFalsely : Prop := romanSaysRow.holds Tryd.pinned (OpenSpec.ofChange romanSaysWrong)

/- THE SECOND FORM. 'bulk': how many values and letters a reading holds, each counted each time it is reached (what is shared counts as often as it is met; a slice's spare places count too). A statement '..UptoSaid' is the law's where the arguments, and the package variables that the reading takes, are together of bulk at most 1048576: NARROWER than '..Said'. Prove '..Said' where nothing that the law and all that it calls make is longer than what came in: it says more and counts as full. Else prove '..UptoSaid'. A law counts once. -/
mutual
def uptoBulk {H : Type} : DataW H → Nat
  | .lit (.string bytes) => bytes.length + 1
  | .lit _ => 1
  | .nil => 1
  | .ptr d => uptoBulk d + 1
  | .slice elems spare => uptoBulkAll elems + uptoBulkAll spare + 1
  | .agg parts => uptoBulkAll parts + 1
  | .iface _ d => uptoBulk d + 1
  | .map entries => uptoBulkEntries entries + 1
  | .held _ => 1
def uptoBulkAll {H : Type} : List (DataW H) → Nat
  | [] => 0
  | d :: r => uptoBulk d + uptoBulkAll r
def uptoBulkEntries {H : Type} : List (Lit × DataW H) → Nat
  | [] => 0
  | x :: r => uptoBulkEntry x + uptoBulkEntries r
def uptoBulkEntry {H : Type} : Lit × DataW H → Nat
  | (.string bytes, d) => bytes.length + uptoBulk d + 1
  | (_, d) => uptoBulk d + 1
 end
def uptoSmall : (H : Type) → List (DataW H) → Bool := fun _ ds => decide (uptoBulkAll ds ≤ 1048576)
def OpenSpec.upto (s : _root_.Go.ChangeSpec) : _root_.Go.OpenSpec := { _root_.Go.OpenSpec.ofChange s with cond := some uptoSmall }

/-- 'letterbecklaw4.RomanBack', WHERE WHAT IT READS IS OF BULK AT MOST 1048576: true; the input reads as it did. -/
def romanBackUptoRow : OpenClaim := { program := "ytjdjmglfngjcnaadoor", sum := "cf6c2982533c39eb7d7a55866b020d6abae60bd07f77e6f4ca3d4f15019b0c5f", func := "letterbeck/letterbecklaw4.RomanBack", spec := "romanBack", inPlace := ["internal/abi.NoEscape"], named := ["letterbeck/roman.parts"], apart := false, laid := [("letterbeck/roman.parts", laid_letterbeck_roman_parts)], narrowed := true }
def RomanBackUptoSaid : Prop := romanBackUptoRow.holds Tryd.pinned (OpenSpec.upto romanBackSpec)

/-- 'letterbecklaw4.RomanTens', WHERE WHAT IT READS IS OF BULK AT MOST 1048576: true; the input reads as it did. -/
def romanTensUptoRow : OpenClaim := { program := "ytjdjmglfngjcnaadoor", sum := "cf6c2982533c39eb7d7a55866b020d6abae60bd07f77e6f4ca3d4f15019b0c5f", func := "letterbeck/letterbecklaw4.RomanTens", spec := "romanTens", inPlace := ["internal/abi.NoEscape"], named := ["letterbeck/roman.parts"], apart := false, laid := [("letterbeck/roman.parts", laid_letterbeck_roman_parts)], narrowed := true }
def RomanTensUptoSaid : Prop := romanTensUptoRow.holds Tryd.pinned (OpenSpec.upto romanTensSpec)

/-- 'letterbecklaw4.RomanSays', WHERE WHAT IT READS IS OF BULK AT MOST 1048576: true; the input reads as it did. -/
def romanSaysUptoRow : OpenClaim := { program := "ytjdjmglfngjcnaadoor", sum := "cf6c2982533c39eb7d7a55866b020d6abae60bd07f77e6f4ca3d4f15019b0c5f", func := "letterbeck/letterbecklaw4.RomanSays", spec := "romanSays", inPlace := ["internal/abi.NoEscape", "internal/reflectlite.ValueOf", "(internal/reflectlite.Value).Type", "(internal/reflectlite.Value).IsNil", "internal/reflectlite.TypeOf", "(internal/reflectlite.Value).Elem", "(internal/reflectlite.Value).Set"], unfollowed := true, recurses := true, named := ["letterbeck/roman.parts", "errors.errorType"], apart := false, laid := [("errors.errorType", laid_errors_errorType), ("letterbeck/roman.parts", laid_letterbeck_roman_parts)], narrowed := true }
def RomanSaysUptoSaid : Prop := romanSaysUptoRow.holds Tryd.pinned (OpenSpec.upto romanSaysSpec)

end Rows
end Go.Proofs.YtjdjmglfngjcnaaDoor
