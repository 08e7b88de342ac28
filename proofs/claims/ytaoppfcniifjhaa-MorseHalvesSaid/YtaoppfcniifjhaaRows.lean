/-
  No cell of these rows narrows 'for every input' (looked for: loops, veiled, ifaces, maps, wideKeys, modest, calm, conditions, laid).
  DERIVED. THE GIVEN ROWS OF THIS SEAT. 3 by the template 'for every input the law returns true; each argument reads behind the call as it read before'; 0 by the template 'total and deterministic' (their statements: YtaoppfcniifjhaaTotals.lean).
  GIVEN WITH THE SEED: the statements are not yours to turn. If you find one false, say at which input.
  Laid BY PROGRAM, IN A SANDBOX (cutbox-rows.mjs): the forced cells as the released guide's own fill.sh prints them over the translation cacc6a90ce370a81… (all of the seat's roots in one cut). By AI agents, Wed Nov 11 2026. No macro, syntax, notation, axiom, sorry.
-/
import Derived.Test.YtaoppfcniifjhaaChecked
import GoSem.Claim
import GoSem.ClaimJoined
import GoSem.ClaimMapViews
import Derived.JoinedTies
import Derived.KernelRfl
namespace Go.Proofs.Ytaoppfcniifjhaa
/- THE CELL 'sum', in the pinned program and in every row, IS THE sha256 OF THE DUMP (.gsa) THAT YtaoppfcniifjhaaProg.lean LOADS. Nothing in Lean hashes anything: it is a label: what it is worth is what the hold of that sum in a sandbox is worth. -/
noncomputable def Try.pinned : Pinned := { name := "ytaoppfcniifjhaa", sum := "cacc6a90ce370a818b6ceb5aeffd1a0ec4c3910d6031088526a4816da44972e9", checked := Try.checked }
namespace Rows
def none {H : Type} : Left H := { results := [], args := [] }

/-- 'letterbecklaw3.MorseThue': WHATEVER THE INPUT: true; the input reads as it did. -/
def morseThueSpec : ChangeSpec := { name := "morseThue", fn := fun _ => fun
  | [d1, d2, d3] => { results := [.lit (.bool true)], args := [d1, d2, d3] }
  | _ => none }
def morseThueRow : OpenClaim := { program := "ytaoppfcniifjhaa", sum := "cacc6a90ce370a818b6ceb5aeffd1a0ec4c3910d6031088526a4816da44972e9", func := "letterbeck/letterbecklaw3.MorseThue", spec := "morseThue", inPlace := ["internal/abi.NoEscape"], unfollowed := true, recurses := true, apart := false }
def MorseThueSaid : Prop := morseThueRow.holds Try.pinned (OpenSpec.ofChange morseThueSpec)

/-- ITS FALSE NEIGHBOUR: 'it returns false'. Refute it at one input. -/
def morseThueWrong : ChangeSpec := { name := "morseThue", fn := fun _ => fun
  | [d1, d2, d3] => { results := [.lit (.bool false)], args := [d1, d2, d3] }
  | _ => none }
def MorseThueWrongFalsely : Prop := morseThueRow.holds Try.pinned (OpenSpec.ofChange morseThueWrong)

/-- 'letterbecklaw3.MorseHalves': WHATEVER THE INPUT: true; the input reads as it did. -/
def morseHalvesSpec : ChangeSpec := { name := "morseHalves", fn := fun _ => fun
  | [d] => { results := [.lit (.bool true)], args := [d] }
  | _ => none }
def morseHalvesRow : OpenClaim := { program := "ytaoppfcniifjhaa", sum := "cacc6a90ce370a818b6ceb5aeffd1a0ec4c3910d6031088526a4816da44972e9", func := "letterbeck/letterbecklaw3.MorseHalves", spec := "morseHalves", inPlace := ["internal/abi.NoEscape"], unfollowed := true, recurses := true, apart := false }
def MorseHalvesSaid : Prop := morseHalvesRow.holds Try.pinned (OpenSpec.ofChange morseHalvesSpec)

/-- ITS FALSE NEIGHBOUR: 'it returns false'. Refute it at one input. -/
def morseHalvesWrong : ChangeSpec := { name := "morseHalves", fn := fun _ => fun
  | [d] => { results := [.lit (.bool false)], args := [d] }
  | _ => none }
def MorseHalvesWrongFalsely : Prop := morseHalvesRow.holds Try.pinned (OpenSpec.ofChange morseHalvesWrong)

/-- 'letterbecklaw3.MorseTwice': WHATEVER THE INPUT: true; the input reads as it did. -/
def morseTwiceSpec : ChangeSpec := { name := "morseTwice", fn := fun _ => fun
  | [d1, d2, d3] => { results := [.lit (.bool true)], args := [d1, d2, d3] }
  | _ => none }
def morseTwiceRow : OpenClaim := { program := "ytaoppfcniifjhaa", sum := "cacc6a90ce370a818b6ceb5aeffd1a0ec4c3910d6031088526a4816da44972e9", func := "letterbeck/letterbecklaw3.MorseTwice", spec := "morseTwice", inPlace := ["internal/abi.NoEscape"], unfollowed := true, recurses := true, apart := false }
def MorseTwiceSaid : Prop := morseTwiceRow.holds Try.pinned (OpenSpec.ofChange morseTwiceSpec)

/-- ITS FALSE NEIGHBOUR: 'it returns false'. Refute it at one input. -/
def morseTwiceWrong : ChangeSpec := { name := "morseTwice", fn := fun _ => fun
  | [d1, d2, d3] => { results := [.lit (.bool false)], args := [d1, d2, d3] }
  | _ => none }
def MorseTwiceWrongFalsely : Prop := morseTwiceRow.holds Try.pinned (OpenSpec.ofChange morseTwiceWrong)

/- THE SECOND FORM. 'bulk': how many values and letters a reading holds, each counted each time it is reached (what is shared counts as often as it is met; a slice's spare places count too). A statement '..UptoSaid' is the law's where the arguments, and the package variables that the reading takes, are together of bulk at most 1048576: NARROWER than '..Said'. Prove '..Said' where nothing that the law and all that it calls make is longer than what came in: it says more and counts as full. Else prove '..UptoSaid'. A law counts once. -/
mutual
def uptoBulk {H : Type} : DataW H → Nat
  | .lit (.string bytes) => bytes.length + 1
  | .lit _ => 1
  | .nil => 1
  | .ptr d => uptoBulk d + 1
  | .slice elems spare => uptoBulkAll elems + uptoBulkAll spare + 1
  | .agg parts => uptoBulkAll parts + 1
  | .iface _ d => uptoBulk d + 1
  | .map entries => uptoBulkEntries entries + 1
  | .held _ => 1
def uptoBulkAll {H : Type} : List (DataW H) → Nat
  | [] => 0
  | d :: r => uptoBulk d + uptoBulkAll r
def uptoBulkEntries {H : Type} : List (Lit × DataW H) → Nat
  | [] => 0
  | x :: r => uptoBulkEntry x + uptoBulkEntries r
def uptoBulkEntry {H : Type} : Lit × DataW H → Nat
  | (.string bytes, d) => bytes.length + uptoBulk d + 1
  | (_, d) => uptoBulk d + 1
 end
def uptoSmall : (H : Type) → List (DataW H) → Bool := fun _ ds => decide (uptoBulkAll ds ≤ 1048576)
def OpenSpec.upto (s : _root_.Go.ChangeSpec) : _root_.Go.OpenSpec := { _root_.Go.OpenSpec.ofChange s with cond := some uptoSmall }

/-- 'letterbecklaw3.MorseThue', WHERE WHAT IT READS IS OF BULK AT MOST 1048576: true; the input reads as it did. -/
def morseThueUptoRow : OpenClaim := { program := "ytaoppfcniifjhaa", sum := "cacc6a90ce370a818b6ceb5aeffd1a0ec4c3910d6031088526a4816da44972e9", func := "letterbeck/letterbecklaw3.MorseThue", spec := "morseThue", inPlace := ["internal/abi.NoEscape"], unfollowed := true, recurses := true, apart := false, narrowed := true }
def MorseThueUptoSaid : Prop := morseThueUptoRow.holds Try.pinned (OpenSpec.upto morseThueSpec)

/-- 'letterbecklaw3.MorseHalves', WHERE WHAT IT READS IS OF BULK AT MOST 1048576: true; the input reads as it did. -/
def morseHalvesUptoRow : OpenClaim := { program := "ytaoppfcniifjhaa", sum := "cacc6a90ce370a818b6ceb5aeffd1a0ec4c3910d6031088526a4816da44972e9", func := "letterbeck/letterbecklaw3.MorseHalves", spec := "morseHalves", inPlace := ["internal/abi.NoEscape"], unfollowed := true, recurses := true, apart := false, narrowed := true }
def MorseHalvesUptoSaid : Prop := morseHalvesUptoRow.holds Try.pinned (OpenSpec.upto morseHalvesSpec)

/-- 'letterbecklaw3.MorseTwice', WHERE WHAT IT READS IS OF BULK AT MOST 1048576: true; the input reads as it did. -/
def morseTwiceUptoRow : OpenClaim := { program := "ytaoppfcniifjhaa", sum := "cacc6a90ce370a818b6ceb5aeffd1a0ec4c3910d6031088526a4816da44972e9", func := "letterbeck/letterbecklaw3.MorseTwice", spec := "morseTwice", inPlace := ["internal/abi.NoEscape"], unfollowed := true, recurses := true, apart := false, narrowed := true }
def MorseTwiceUptoSaid : Prop := morseTwiceUptoRow.holds Try.pinned (OpenSpec.upto morseTwiceSpec)

end Rows
end Go.Proofs.Ytaoppfcniifjhaa
