/-
  No cell of these rows narrows 'for every input' (looked for: loops, veiled, ifaces, maps, wideKeys, modest, calm, conditions, laid).
  DERIVED. THE GIVEN ROWS OF THIS SEAT. 3 by the template 'for every input the law returns true; each argument reads behind the call as it read before'; 0 by the template 'total and deterministic' (their statements: YtikkcjclhalhgaaTotals.lean).
  GIVEN WITH THE SEED: the statements are not yours to turn. If you find one false, say at which input.
  Laid BY PROGRAM, IN A SANDBOX (cutbox-rows.mjs): the forced cells as the released guide's own fill.sh prints them over the translation 3d366ac9d439982f… (all of the seat's roots in one cut). By AI agents, Wed Nov 11 2026. No macro, syntax, notation, axiom, sorry.
-/
import Derived.Test.YtikkcjclhalhgaaChecked
import GoSem.Claim
import GoSem.ClaimJoined
import GoSem.ClaimMapViews
import Derived.JoinedTies
import Derived.KernelRfl
namespace Go.Proofs.Ytikkcjclhalhgaa
/- THE CELL 'sum', in the pinned program and in every row, IS THE sha256 OF THE DUMP (.gsa) THAT YtikkcjclhalhgaaProg.lean LOADS. Nothing in Lean hashes anything: it is a label: what it is worth is what the hold of that sum in a sandbox is worth. -/
noncomputable def Try.pinned : Pinned := { name := "ytikkcjclhalhgaa", sum := "3d366ac9d439982f7730486f4864834cfcbafb57c38cfe33788e375b2e52d3a9", checked := Try.checked }
namespace Rows
def none {H : Type} : Left H := { results := [], args := [] }

/-- 'letterbecklaw4.LinesBest': WHATEVER THE INPUT: true; the input reads as it did. -/
def linesBestSpec : ChangeSpec := { name := "linesBest", fn := fun _ => fun
  | [d1, d2, d3] => { results := [.lit (.bool true)], args := [d1, d2, d3] }
  | _ => none }
def linesBestRow : OpenClaim := { program := "ytikkcjclhalhgaa", sum := "3d366ac9d439982f7730486f4864834cfcbafb57c38cfe33788e375b2e52d3a9", func := "letterbeck/letterbecklaw4.LinesBest", spec := "linesBest", apart := false }
def LinesBestSaid : Prop := linesBestRow.holds Try.pinned (OpenSpec.ofChange linesBestSpec)

/-- ITS FALSE NEIGHBOUR: 'it returns false'. Refute it at one input. -/
def linesBestWrong : ChangeSpec := { name := "linesBest", fn := fun _ => fun
  | [d1, d2, d3] => { results := [.lit (.bool false)], args := [d1, d2, d3] }
  | _ => none }
def LinesBestWrongFalsely : Prop := linesBestRow.holds Try.pinned (OpenSpec.ofChange linesBestWrong)

/-- 'letterbecklaw4.LinesFew': WHATEVER THE INPUT: true; the input reads as it did. -/
def linesFewSpec : ChangeSpec := { name := "linesFew", fn := fun _ => fun
  | [d1, d2, d3] => { results := [.lit (.bool true)], args := [d1, d2, d3] }
  | _ => none }
def linesFewRow : OpenClaim := { program := "ytikkcjclhalhgaa", sum := "3d366ac9d439982f7730486f4864834cfcbafb57c38cfe33788e375b2e52d3a9", func := "letterbeck/letterbecklaw4.LinesFew", spec := "linesFew", apart := false }
def LinesFewSaid : Prop := linesFewRow.holds Try.pinned (OpenSpec.ofChange linesFewSpec)

/-- ITS FALSE NEIGHBOUR: 'it returns false'. Refute it at one input. -/
def linesFewWrong : ChangeSpec := { name := "linesFew", fn := fun _ => fun
  | [d1, d2, d3] => { results := [.lit (.bool false)], args := [d1, d2, d3] }
  | _ => none }
def LinesFewWrongFalsely : Prop := linesFewRow.holds Try.pinned (OpenSpec.ofChange linesFewWrong)

/-- 'letterbecklaw4.LinesWider': WHATEVER THE INPUT: true; the input reads as it did. -/
def linesWiderSpec : ChangeSpec := { name := "linesWider", fn := fun _ => fun
  | [d1, d2, d3] => { results := [.lit (.bool true)], args := [d1, d2, d3] }
  | _ => none }
def linesWiderRow : OpenClaim := { program := "ytikkcjclhalhgaa", sum := "3d366ac9d439982f7730486f4864834cfcbafb57c38cfe33788e375b2e52d3a9", func := "letterbeck/letterbecklaw4.LinesWider", spec := "linesWider", apart := false }
def LinesWiderSaid : Prop := linesWiderRow.holds Try.pinned (OpenSpec.ofChange linesWiderSpec)

/-- ITS FALSE NEIGHBOUR: 'it returns false'. Refute it at one input. -/
def linesWiderWrong : ChangeSpec := { name := "linesWider", fn := fun _ => fun
  | [d1, d2, d3] => { results := [.lit (.bool false)], args := [d1, d2, d3] }
  | _ => none }
def LinesWiderWrongFalsely : Prop := linesWiderRow.holds Try.pinned (OpenSpec.ofChange linesWiderWrong)

/- THE SECOND FORM. 'bulk': how many values and letters a reading holds, each counted each time it is reached (what is shared counts as often as it is met; a slice's spare places count too). A statement '..UptoSaid' is the law's where the arguments, and the package variables that the reading takes, are together of bulk at most 1048576: NARROWER than '..Said'. Prove '..Said' where nothing that the law and all that it calls make is longer than what came in: it says more and counts as full. Else prove '..UptoSaid'. A law counts once. -/
mutual
def uptoBulk {H : Type} : DataW H → Nat
  | .lit (.string bytes) => bytes.length + 1
  | .lit _ => 1
  | .nil => 1
  | .ptr d => uptoBulk d + 1
  | .slice elems spare => uptoBulkAll elems + uptoBulkAll spare + 1
  | .agg parts => uptoBulkAll parts + 1
  | .iface _ d => uptoBulk d + 1
  | .map entries => uptoBulkEntries entries + 1
  | .held _ => 1
def uptoBulkAll {H : Type} : List (DataW H) → Nat
  | [] => 0
  | d :: r => uptoBulk d + uptoBulkAll r
def uptoBulkEntries {H : Type} : List (Lit × DataW H) → Nat
  | [] => 0
  | x :: r => uptoBulkEntry x + uptoBulkEntries r
def uptoBulkEntry {H : Type} : Lit × DataW H → Nat
  | (.string bytes, d) => bytes.length + uptoBulk d + 1
  | (_, d) => uptoBulk d + 1
 end
def uptoSmall : (H : Type) → List (DataW H) → Bool := fun _ ds => decide (uptoBulkAll ds ≤ 1048576)
def OpenSpec.upto (s : _root_.Go.ChangeSpec) : _root_.Go.OpenSpec := { _root_.Go.OpenSpec.ofChange s with cond := some uptoSmall }

/-- 'letterbecklaw4.LinesBest', WHERE WHAT IT READS IS OF BULK AT MOST 1048576: true; the input reads as it did. -/
def linesBestUptoRow : OpenClaim := { program := "ytikkcjclhalhgaa", sum := "3d366ac9d439982f7730486f4864834cfcbafb57c38cfe33788e375b2e52d3a9", func := "letterbeck/letterbecklaw4.LinesBest", spec := "linesBest", apart := false, narrowed := true }
def LinesBestUptoSaid : Prop := linesBestUptoRow.holds Try.pinned (OpenSpec.upto linesBestSpec)

/-- 'letterbecklaw4.LinesFew', WHERE WHAT IT READS IS OF BULK AT MOST 1048576: true; the input reads as it did. -/
def linesFewUptoRow : OpenClaim := { program := "ytikkcjclhalhgaa", sum := "3d366ac9d439982f7730486f4864834cfcbafb57c38cfe33788e375b2e52d3a9", func := "letterbeck/letterbecklaw4.LinesFew", spec := "linesFew", apart := false, narrowed := true }
def LinesFewUptoSaid : Prop := linesFewUptoRow.holds Try.pinned (OpenSpec.upto linesFewSpec)

/-- 'letterbecklaw4.LinesWider', WHERE WHAT IT READS IS OF BULK AT MOST 1048576: true; the input reads as it did. -/
def linesWiderUptoRow : OpenClaim := { program := "ytikkcjclhalhgaa", sum := "3d366ac9d439982f7730486f4864834cfcbafb57c38cfe33788e375b2e52d3a9", func := "letterbeck/letterbecklaw4.LinesWider", spec := "linesWider", apart := false, narrowed := true }
def LinesWiderUptoSaid : Prop := linesWiderUptoRow.holds Try.pinned (OpenSpec.upto linesWiderSpec)

end Rows
end Go.Proofs.Ytikkcjclhalhgaa
