/-
  No cell of these rows narrows 'for every input' (looked for: loops, veiled, ifaces, maps, wideKeys, modest, calm, conditions, laid).
  DERIVED. THE GIVEN ROWS OF THIS SEAT. 3 by the template 'for every input the law returns true; each argument reads behind the call as it read before'; 0 by the template 'total and deterministic' (their statements: YtchhbnnpannnhaaTotals.lean).
  GIVEN WITH THE SEED: the statements are not yours to turn. If you find one false, say at which input.
  Laid BY PROGRAM, IN A SANDBOX (cutbox-rows.mjs): the forced cells as the released guide's own fill.sh prints them over the translation 59a72b25e94f158a… (all of the seat's roots in one cut). By AI agents, Wed Nov 11 2026. No macro, syntax, notation, axiom, sorry.
-/
import Derived.Test.YtchhbnnpannnhaaChecked
import GoSem.Claim
import GoSem.ClaimJoined
import GoSem.ClaimMapViews
import Derived.JoinedTies
import Derived.KernelRfl
namespace Go.Proofs.Ytchhbnnpannnhaa
/- THE CELL 'sum', in the pinned program and in every row, IS THE sha256 OF THE DUMP (.gsa) THAT YtchhbnnpannnhaaProg.lean LOADS. Nothing in Lean hashes anything: it is a label: what it is worth is what the hold of that sum in a sandbox is worth. -/
noncomputable def Try.pinned : Pinned := { name := "ytchhbnnpannnhaa", sum := "59a72b25e94f158aaa4b7d554a55744a007ca4bb65d5696f9ae1835f301a6ee3", checked := Try.checked }
namespace Rows
def none {H : Type} : Left H := { results := [], args := [] }

/-- 'letterbecklaw3.NfaGlushkov': WHATEVER THE INPUT: true; the input reads as it did. -/
def nfaGlushkovSpec : ChangeSpec := { name := "nfaGlushkov", fn := fun _ => fun
  | [d1, d2] => { results := [.lit (.bool true)], args := [d1, d2] }
  | _ => none }
def nfaGlushkovRow : OpenClaim := { program := "ytchhbnnpannnhaa", sum := "59a72b25e94f158aaa4b7d554a55744a007ca4bb65d5696f9ae1835f301a6ee3", func := "letterbeck/letterbecklaw3.NfaGlushkov", spec := "nfaGlushkov", inPlace := ["maps.clone"], unfollowed := true, recurses := true, plainKeys := false, apart := false }
def NfaGlushkovSaid : Prop := nfaGlushkovRow.holds Try.pinned (OpenSpec.ofChange nfaGlushkovSpec)

/-- ITS FALSE NEIGHBOUR: 'it returns false'. Refute it at one input. -/
def nfaGlushkovWrong : ChangeSpec := { name := "nfaGlushkov", fn := fun _ => fun
  | [d1, d2] => { results := [.lit (.bool false)], args := [d1, d2] }
  | _ => none }
def NfaGlushkovWrongFalsely : Prop := nfaGlushkovRow.holds Try.pinned (OpenSpec.ofChange nfaGlushkovWrong)

/-- 'letterbecklaw3.NfaEnds': WHATEVER THE INPUT: true; the input reads as it did. -/
def nfaEndsSpec : ChangeSpec := { name := "nfaEnds", fn := fun _ => fun
  | [d1, d2] => { results := [.lit (.bool true)], args := [d1, d2] }
  | _ => none }
def nfaEndsRow : OpenClaim := { program := "ytchhbnnpannnhaa", sum := "59a72b25e94f158aaa4b7d554a55744a007ca4bb65d5696f9ae1835f301a6ee3", func := "letterbeck/letterbecklaw3.NfaEnds", spec := "nfaEnds", inPlace := ["maps.clone"], unfollowed := true, recurses := true, plainKeys := false, apart := false }
def NfaEndsSaid : Prop := nfaEndsRow.holds Try.pinned (OpenSpec.ofChange nfaEndsSpec)

/-- ITS FALSE NEIGHBOUR: 'it returns false'. Refute it at one input. -/
def nfaEndsWrong : ChangeSpec := { name := "nfaEnds", fn := fun _ => fun
  | [d1, d2] => { results := [.lit (.bool false)], args := [d1, d2] }
  | _ => none }
def NfaEndsWrongFalsely : Prop := nfaEndsRow.holds Try.pinned (OpenSpec.ofChange nfaEndsWrong)

/-- 'letterbecklaw3.DfaParts': WHATEVER THE INPUT: true; the input reads as it did. -/
def dfaPartsSpec : ChangeSpec := { name := "dfaParts", fn := fun _ => fun
  | [d1, d2, d3] => { results := [.lit (.bool true)], args := [d1, d2, d3] }
  | _ => none }
def dfaPartsRow : OpenClaim := { program := "ytchhbnnpannnhaa", sum := "59a72b25e94f158aaa4b7d554a55744a007ca4bb65d5696f9ae1835f301a6ee3", func := "letterbeck/letterbecklaw3.DfaParts", spec := "dfaParts", inPlace := ["maps.clone", "internal/bytealg.IndexByteString"], unfollowed := true, recurses := true, plainKeys := false, apart := false }
def DfaPartsSaid : Prop := dfaPartsRow.holds Try.pinned (OpenSpec.ofChange dfaPartsSpec)

/-- ITS FALSE NEIGHBOUR: 'it returns false'. Refute it at one input. -/
def dfaPartsWrong : ChangeSpec := { name := "dfaParts", fn := fun _ => fun
  | [d1, d2, d3] => { results := [.lit (.bool false)], args := [d1, d2, d3] }
  | _ => none }
def DfaPartsWrongFalsely : Prop := dfaPartsRow.holds Try.pinned (OpenSpec.ofChange dfaPartsWrong)

/- THE SECOND FORM. 'bulk': how many values and letters a reading holds, each counted each time it is reached (what is shared counts as often as it is met; a slice's spare places count too). A statement '..UptoSaid' is the law's where the arguments, and the package variables that the reading takes, are together of bulk at most 1048576: NARROWER than '..Said'. Prove '..Said' where nothing that the law and all that it calls make is longer than what came in: it says more and counts as full. Else prove '..UptoSaid'. A law counts once. -/
mutual
def uptoBulk {H : Type} : DataW H → Nat
  | .lit (.string bytes) => bytes.length + 1
  | .lit _ => 1
  | .nil => 1
  | .ptr d => uptoBulk d + 1
  | .slice elems spare => uptoBulkAll elems + uptoBulkAll spare + 1
  | .agg parts => uptoBulkAll parts + 1
  | .iface _ d => uptoBulk d + 1
  | .map entries => uptoBulkEntries entries + 1
  | .held _ => 1
def uptoBulkAll {H : Type} : List (DataW H) → Nat
  | [] => 0
  | d :: r => uptoBulk d + uptoBulkAll r
def uptoBulkEntries {H : Type} : List (Lit × DataW H) → Nat
  | [] => 0
  | x :: r => uptoBulkEntry x + uptoBulkEntries r
def uptoBulkEntry {H : Type} : Lit × DataW H → Nat
  | (.string bytes, d) => bytes.length + uptoBulk d + 1
  | (_, d) => uptoBulk d + 1
 end
def uptoSmall : (H : Type) → List (DataW H) → Bool := fun _ ds => decide (uptoBulkAll ds ≤ 1048576)
def OpenSpec.upto (s : _root_.Go.ChangeSpec) : _root_.Go.OpenSpec := { _root_.Go.OpenSpec.ofChange s with cond := some uptoSmall }

/-- 'letterbecklaw3.NfaGlushkov', WHERE WHAT IT READS IS OF BULK AT MOST 1048576: true; the input reads as it did. -/
def nfaGlushkovUptoRow : OpenClaim := { program := "ytchhbnnpannnhaa", sum := "59a72b25e94f158aaa4b7d554a55744a007ca4bb65d5696f9ae1835f301a6ee3", func := "letterbeck/letterbecklaw3.NfaGlushkov", spec := "nfaGlushkov", inPlace := ["maps.clone"], unfollowed := true, recurses := true, plainKeys := false, apart := false, narrowed := true }
def NfaGlushkovUptoSaid : Prop := nfaGlushkovUptoRow.holds Try.pinned (OpenSpec.upto nfaGlushkovSpec)

/-- 'letterbecklaw3.NfaEnds', WHERE WHAT IT READS IS OF BULK AT MOST 1048576: true; the input reads as it did. -/
def nfaEndsUptoRow : OpenClaim := { program := "ytchhbnnpannnhaa", sum := "59a72b25e94f158aaa4b7d554a55744a007ca4bb65d5696f9ae1835f301a6ee3", func := "letterbeck/letterbecklaw3.NfaEnds", spec := "nfaEnds", inPlace := ["maps.clone"], unfollowed := true, recurses := true, plainKeys := false, apart := false, narrowed := true }
def NfaEndsUptoSaid : Prop := nfaEndsUptoRow.holds Try.pinned (OpenSpec.upto nfaEndsSpec)

/-- 'letterbecklaw3.DfaParts', WHERE WHAT IT READS IS OF BULK AT MOST 1048576: true; the input reads as it did. -/
def dfaPartsUptoRow : OpenClaim := { program := "ytchhbnnpannnhaa", sum := "59a72b25e94f158aaa4b7d554a55744a007ca4bb65d5696f9ae1835f301a6ee3", func := "letterbeck/letterbecklaw3.DfaParts", spec := "dfaParts", inPlace := ["maps.clone", "internal/bytealg.IndexByteString"], unfollowed := true, recurses := true, plainKeys := false, apart := false, narrowed := true }
def DfaPartsUptoSaid : Prop := dfaPartsUptoRow.holds Try.pinned (OpenSpec.upto dfaPartsSpec)

end Rows
end Go.Proofs.Ytchhbnnpannnhaa
