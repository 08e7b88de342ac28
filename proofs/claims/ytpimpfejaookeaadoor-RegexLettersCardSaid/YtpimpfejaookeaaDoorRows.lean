/-
  NARROWER THAN 'FOR EVERY INPUT', by the rows' own cells (each row's printed sentence says how): RegexSays: laid · RegexNull: laid · RegexPattern: laid · RegexLetters: laid · NfaSays: laid.
  DERIVED. THE GIVEN ROWS OF THIS SEAT. 5 by the template 'for every input the law returns true; each argument reads behind the call as it read before'; 0 by the template 'total and deterministic' (their statements: YtpimpfejaookeaaDoorTotals.lean).
  GIVEN WITH THE SEED: the statements are not yours to turn. If you find one false, say at which input.
  Laid BY PROGRAM, IN A SANDBOX (cutbox-rows.mjs): the forced cells as the released guide's own fill.sh prints them over the translation fa9e3387246be388… (all of the seat's roots in one cut). By AI agents, Wed Nov 11 2026. No macro, syntax, notation, axiom, sorry.
-/
import Derived.Test.YtpimpfejaookeaaDoorChecked
import GoSem.Claim
import GoSem.ClaimJoined
import GoSem.ClaimMapViews
import Derived.JoinedTies
import Derived.KernelRfl
namespace Go.Proofs.YtpimpfejaookeaaDoor
/- THE CELL 'sum', in the pinned program and in every row, IS THE sha256 OF THE DUMP (.gsa) THAT YtpimpfejaookeaaDoorProg.lean LOADS. Nothing in Lean hashes anything: it is a label: what it is worth is what the hold of that sum in a sandbox is worth. -/
noncomputable def Tryd.pinned : Pinned := { name := "ytpimpfejaookeaadoor", sum := "fa9e3387246be388e39df2d1858e2a39f99524003077b60de7f62c4fd1e47ca6", checked := Tryd.checked }
namespace Rows
def none {H : Type} : Left H := { results := [], args := [] }

/- WHAT THE LISTED PACKAGE-LEVEL VARIABLES READ AS WHEN THE CALL BEGINS. Each datum BY PROGRAM (the guide's laid-datum.mjs) off the statement by which the dump's own 'gosem.cut.vars' lays the variable. In a bare row this is a premise. The card (YtpimpfejaookeaaDoorCards.lean) ties it to the program's text. -/
def laid_errors_errorType {H : Type} : DataW H := .iface "internal/reflectlite.rtype" (.agg [.ptr (.lit (.string [101, 114, 114, 111, 114]))])

/-- 'letterbecklaw3.RegexSays': WHATEVER THE INPUT: true; the input reads as it did. -/
def regexSaysSpec : ChangeSpec := { name := "regexSays", fn := fun _ => fun
  | [d] => { results := [.lit (.bool true)], args := [d] }
  | _ => none }
def regexSaysRow : OpenClaim := { program := "ytpimpfejaookeaadoor", sum := "fa9e3387246be388e39df2d1858e2a39f99524003077b60de7f62c4fd1e47ca6", func := "letterbeck/letterbecklaw3.RegexSays", spec := "regexSays", inPlace := ["internal/reflectlite.ValueOf", "(internal/reflectlite.Value).Type", "(internal/reflectlite.Value).IsNil", "internal/reflectlite.TypeOf", "(internal/reflectlite.Value).Elem", "(internal/reflectlite.Value).Set"], unfollowed := true, recurses := true, named := ["errors.errorType"], plainKeys := false, apart := false, laid := [("errors.errorType", laid_errors_errorType)] }
def RegexSaysSaid : Prop := regexSaysRow.holds Tryd.pinned (OpenSpec.ofChange regexSaysSpec)

/-- ITS FALSE NEIGHBOUR: 'it returns false'. Refute it at one input. -/
def regexSaysWrong : ChangeSpec := { name := "regexSays", fn := fun _ => fun
  | [d] => { results := [.lit (.bool false)], args := [d] }
  | _ => none }
def RegexSaysWrongFalsely : Prop := regexSaysRow.holds Tryd.pinned (OpenSpec.ofChange regexSaysWrong)

/-- 'letterbecklaw3.RegexNull': WHATEVER THE INPUT: true; the input reads as it did. -/
def regexNullSpec : ChangeSpec := { name := "regexNull", fn := fun _ => fun
  | [d1, d2] => { results := [.lit (.bool true)], args := [d1, d2] }
  | _ => none }
def regexNullRow : OpenClaim := { program := "ytpimpfejaookeaadoor", sum := "fa9e3387246be388e39df2d1858e2a39f99524003077b60de7f62c4fd1e47ca6", func := "letterbeck/letterbecklaw3.RegexNull", spec := "regexNull", inPlace := ["internal/reflectlite.ValueOf", "(internal/reflectlite.Value).Type", "(internal/reflectlite.Value).IsNil", "internal/reflectlite.TypeOf", "(internal/reflectlite.Value).Elem", "(internal/reflectlite.Value).Set"], unfollowed := true, recurses := true, named := ["errors.errorType"], plainKeys := false, apart := false, laid := [("errors.errorType", laid_errors_errorType)] }
def RegexNullSaid : Prop := regexNullRow.holds Tryd.pinned (OpenSpec.ofChange regexNullSpec)

/-- ITS FALSE NEIGHBOUR: 'it returns false'. Refute it at one input. -/
def regexNullWrong : ChangeSpec := { name := "regexNull", fn := fun _ => fun
  | [d1, d2] => { results := [.lit (.bool false)], args := [d1, d2] }
  | _ => none }
def RegexNullWrongFalsely : Prop := regexNullRow.holds Tryd.pinned (OpenSpec.ofChange regexNullWrong)

/-- 'letterbecklaw3.RegexPattern': WHATEVER THE INPUT: true; the input reads as it did. -/
def regexPatternSpec : ChangeSpec := { name := "regexPattern", fn := fun _ => fun
  | [d] => { results := [.lit (.bool true)], args := [d] }
  | _ => none }
def regexPatternRow : OpenClaim := { program := "ytpimpfejaookeaadoor", sum := "fa9e3387246be388e39df2d1858e2a39f99524003077b60de7f62c4fd1e47ca6", func := "letterbeck/letterbecklaw3.RegexPattern", spec := "regexPattern", inPlace := ["internal/reflectlite.ValueOf", "(internal/reflectlite.Value).Type", "(internal/reflectlite.Value).IsNil", "internal/reflectlite.TypeOf", "(internal/reflectlite.Value).Elem", "(internal/reflectlite.Value).Set"], unfollowed := true, recurses := true, named := ["errors.errorType"], plainKeys := false, apart := false, laid := [("errors.errorType", laid_errors_errorType)] }
def RegexPatternSaid : Prop := regexPatternRow.holds Tryd.pinned (OpenSpec.ofChange regexPatternSpec)

/-- ITS FALSE NEIGHBOUR: 'it returns false'. Refute it at one input. -/
def regexPatternWrong : ChangeSpec := { name := "regexPattern", fn := fun _ => fun
  | [d] => { results := [.lit (.bool false)], args := [d] }
  | _ => none }
def RegexPatternWrongFalsely : Prop := regexPatternRow.holds Tryd.pinned (OpenSpec.ofChange regexPatternWrong)

/-- 'letterbecklaw3.RegexLetters': WHATEVER THE INPUT: true; the input reads as it did. -/
def regexLettersSpec : ChangeSpec := { name := "regexLetters", fn := fun _ => fun
  | [d1, d2] => { results := [.lit (.bool true)], args := [d1, d2] }
  | _ => none }
def regexLettersRow : OpenClaim := { program := "ytpimpfejaookeaadoor", sum := "fa9e3387246be388e39df2d1858e2a39f99524003077b60de7f62c4fd1e47ca6", func := "letterbeck/letterbecklaw3.RegexLetters", spec := "regexLetters", inPlace := ["internal/reflectlite.ValueOf", "(internal/reflectlite.Value).Type", "(internal/reflectlite.Value).IsNil", "internal/reflectlite.TypeOf", "(internal/reflectlite.Value).Elem", "(internal/reflectlite.Value).Set"], unfollowed := true, recurses := true, named := ["errors.errorType"], plainKeys := false, apart := false, laid := [("errors.errorType", laid_errors_errorType)] }
def RegexLettersSaid : Prop := regexLettersRow.holds Tryd.pinned (OpenSpec.ofChange regexLettersSpec)

/-- ITS FALSE NEIGHBOUR: 'it returns false'. Refute it at one input. -/
def regexLettersWrong : ChangeSpec := { name := "regexLetters", fn := fun _ => fun
  | [d1, d2] => { results := [.lit (.bool false)], args := [d1, d2] }
  | _ => none }
def RegexLettersWrongFalsely : Prop := regexLettersRow.holds Tryd.pinned (OpenSpec.ofChange regexLettersWrong)

/-- 'letterbecklaw3.NfaSays': WHATEVER THE INPUT: true; the input reads as it did. -/
def nfaSaysSpec : ChangeSpec := { name := "nfaSays", fn := fun _ => fun
  | [d1, d2] => { results := [.lit (.bool true)], args := [d1, d2] }
  | _ => none }
def nfaSaysRow : OpenClaim := { program := "ytpimpfejaookeaadoor", sum := "fa9e3387246be388e39df2d1858e2a39f99524003077b60de7f62c4fd1e47ca6", func := "letterbeck/letterbecklaw3.NfaSays", spec := "nfaSays", inPlace := ["maps.clone", "internal/reflectlite.ValueOf", "(internal/reflectlite.Value).Type", "(internal/reflectlite.Value).IsNil", "internal/reflectlite.TypeOf", "(internal/reflectlite.Value).Elem", "(internal/reflectlite.Value).Set"], unfollowed := true, recurses := true, named := ["errors.errorType"], plainKeys := false, apart := false, laid := [("errors.errorType", laid_errors_errorType)] }
def NfaSaysSaid : Prop := nfaSaysRow.holds Tryd.pinned (OpenSpec.ofChange nfaSaysSpec)

/-- ITS FALSE NEIGHBOUR: 'it returns false'. Refute it at one input. -/
def nfaSaysWrong : ChangeSpec := { name := "nfaSays", fn := fun _ => fun
  | [d1, d2] => { results := [.lit (.bool false)], args := [d1, d2] }
  | _ => none }
def NfaSaysWrongFalsely : Prop := nfaSaysRow.holds Tryd.pinned (OpenSpec.ofChange nfaSaysWrong)

/- THE SECOND FORM. 'bulk': how many values and letters a reading holds, each counted each time it is reached (what is shared counts as often as it is met; a slice's spare places count too). A statement '..UptoSaid' is the law's where the arguments, and the package variables that the reading takes, are together of bulk at most 1048576: NARROWER than '..Said'. Prove '..Said' where nothing that the law and all that it calls make is longer than what came in: it says more and counts as full. Else prove '..UptoSaid'. A law counts once. -/
mutual
def uptoBulk {H : Type} : DataW H → Nat
  | .lit (.string bytes) => bytes.length + 1
  | .lit _ => 1
  | .nil => 1
  | .ptr d => uptoBulk d + 1
  | .slice elems spare => uptoBulkAll elems + uptoBulkAll spare + 1
  | .agg parts => uptoBulkAll parts + 1
  | .iface _ d => uptoBulk d + 1
  | .map entries => uptoBulkEntries entries + 1
  | .held _ => 1
def uptoBulkAll {H : Type} : List (DataW H) → Nat
  | [] => 0
  | d :: r => uptoBulk d + uptoBulkAll r
def uptoBulkEntries {H : Type} : List (Lit × DataW H) → Nat
  | [] => 0
  | x :: r => uptoBulkEntry x + uptoBulkEntries r
def uptoBulkEntry {H : Type} : Lit × DataW H → Nat
  | (.string bytes, d) => bytes.length + uptoBulk d + 1
  | (_, d) => uptoBulk d + 1
 end
def uptoSmall : (H : Type) → List (DataW H) → Bool := fun _ ds => decide (uptoBulkAll ds ≤ 1048576)
def OpenSpec.upto (s : _root_.Go.ChangeSpec) : _root_.Go.OpenSpec := { _root_.Go.OpenSpec.ofChange s with cond := some uptoSmall }

/-- 'letterbecklaw3.RegexSays', WHERE WHAT IT READS IS OF BULK AT MOST 1048576: true; the input reads as it did. -/
def regexSaysUptoRow : OpenClaim := { program := "ytpimpfejaookeaadoor", sum := "fa9e3387246be388e39df2d1858e2a39f99524003077b60de7f62c4fd1e47ca6", func := "letterbeck/letterbecklaw3.RegexSays", spec := "regexSays", inPlace := ["internal/reflectlite.ValueOf", "(internal/reflectlite.Value).Type", "(internal/reflectlite.Value).IsNil", "internal/reflectlite.TypeOf", "(internal/reflectlite.Value).Elem", "(internal/reflectlite.Value).Set"], unfollowed := true, recurses := true, named := ["errors.errorType"], plainKeys := false, apart := false, laid := [("errors.errorType", laid_errors_errorType)], narrowed := true }
def RegexSaysUptoSaid : Prop := regexSaysUptoRow.holds Tryd.pinned (OpenSpec.upto regexSaysSpec)

/-- 'letterbecklaw3.RegexNull', WHERE WHAT IT READS IS OF BULK AT MOST 1048576: true; the input reads as it did. -/
def regexNullUptoRow : OpenClaim := { program := "ytpimpfejaookeaadoor", sum := "fa9e3387246be388e39df2d1858e2a39f99524003077b60de7f62c4fd1e47ca6", func := "letterbeck/letterbecklaw3.RegexNull", spec := "regexNull", inPlace := ["internal/reflectlite.ValueOf", "(internal/reflectlite.Value).Type", "(internal/reflectlite.Value).IsNil", "internal/reflectlite.TypeOf", "(internal/reflectlite.Value).Elem", "(internal/reflectlite.Value).Set"], unfollowed := true, recurses := true, named := ["errors.errorType"], plainKeys := false, apart := false, laid := [("errors.errorType", laid_errors_errorType)], narrowed := true }
def RegexNullUptoSaid : Prop := regexNullUptoRow.holds Tryd.pinned (OpenSpec.upto regexNullSpec)

/-- 'letterbecklaw3.RegexPattern', WHERE WHAT IT READS IS OF BULK AT MOST 1048576: true; the input reads as it did. -/
def regexPatternUptoRow : OpenClaim := { program := "ytpimpfejaookeaadoor", sum := "fa9e3387246be388e39df2d1858e2a39f99524003077b60de7f62c4fd1e47ca6", func := "letterbeck/letterbecklaw3.RegexPattern", spec := "regexPattern", inPlace := ["internal/reflectlite.ValueOf", "(internal/reflectlite.Value).Type", "(internal/reflectlite.Value).IsNil", "internal/reflectlite.TypeOf", "(internal/reflectlite.Value).Elem", "(internal/reflectlite.Value).Set"], unfollowed := true, recurses := true, named := ["errors.errorType"], plainKeys := false, apart := false, laid := [("errors.errorType", laid_errors_errorType)], narrowed := true }
def RegexPatternUptoSaid : Prop := regexPatternUptoRow.holds Tryd.pinned (OpenSpec.upto regexPatternSpec)

/-- 'letterbecklaw3.RegexLetters', WHERE WHAT IT READS IS OF BULK AT MOST 1048576: true; the input reads as it did. -/
def regexLettersUptoRow : OpenClaim := { program := "ytpimpfejaookeaadoor", sum := "fa9e3387246be388e39df2d1858e2a39f99524003077b60de7f62c4fd1e47ca6", func := "letterbeck/letterbecklaw3.RegexLetters", spec := "regexLetters", inPlace := ["internal/reflectlite.ValueOf", "(internal/reflectlite.Value).Type", "(internal/reflectlite.Value).IsNil", "internal/reflectlite.TypeOf", "(internal/reflectlite.Value).Elem", "(internal/reflectlite.Value).Set"], unfollowed := true, recurses := true, named := ["errors.errorType"], plainKeys := false, apart := false, laid := [("errors.errorType", laid_errors_errorType)], narrowed := true }
def RegexLettersUptoSaid : Prop := regexLettersUptoRow.holds Tryd.pinned (OpenSpec.upto regexLettersSpec)

/-- 'letterbecklaw3.NfaSays', WHERE WHAT IT READS IS OF BULK AT MOST 1048576: true; the input reads as it did. -/
def nfaSaysUptoRow : OpenClaim := { program := "ytpimpfejaookeaadoor", sum := "fa9e3387246be388e39df2d1858e2a39f99524003077b60de7f62c4fd1e47ca6", func := "letterbeck/letterbecklaw3.NfaSays", spec := "nfaSays", inPlace := ["maps.clone", "internal/reflectlite.ValueOf", "(internal/reflectlite.Value).Type", "(internal/reflectlite.Value).IsNil", "internal/reflectlite.TypeOf", "(internal/reflectlite.Value).Elem", "(internal/reflectlite.Value).Set"], unfollowed := true, recurses := true, named := ["errors.errorType"], plainKeys := false, apart := false, laid := [("errors.errorType", laid_errors_errorType)], narrowed := true }
def NfaSaysUptoSaid : Prop := nfaSaysUptoRow.holds Tryd.pinned (OpenSpec.upto nfaSaysSpec)

end Rows
end Go.Proofs.YtpimpfejaookeaaDoor
