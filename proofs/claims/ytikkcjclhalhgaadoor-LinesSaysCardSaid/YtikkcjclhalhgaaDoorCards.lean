/-
  DERIVED. GIVEN WITH THE SEED: THE CARDS: each row of YtikkcjclhalhgaaDoorRows.lean that lists a variable, with what it lists TIED to the program's text (the seventh form; the later family's looks); each row that meets fmt, with fmt's text TOLD by the authors' own Lean function (tested against real Go, not proved from fmt's source: count such statements apart). THE CARD IS WHAT COUNTS. Prove the row's statement (the work); the ties are given (YtikkcjclhalhgaaDoorTie.lean); close each card by the builder's one call (the guide's Derived/Test/ToyasCard.lean, 'card_holds'). Laid BY PROGRAM, IN A SANDBOX (cutbox-door.mjs). By AI agents, Wed Nov 11 2026. No macro, syntax, notation, axiom, sorry.
-/
import Derived.Test.YtikkcjclhalhgaaDoorRows
import GoSem.ClaimSeven
namespace Go.Proofs.YtikkcjclhalhgaaDoor
namespace Rows

/-- THE TIED CARD OF 'letterbecklaw4.LinesSays'. -/
def linesSaysCard : Claim7 := { stood := { row := linesSaysRow, standIns := [], harness := (true, "4e4dd0f5a11e1e1a683504574c2e96a9ece895707126d48b0b9a133b1df28aa5"), looks := true }, kinds := [], alts := [], laidByText := true, laidKinds := [.handle], laidTests := true, laidLooks := .later }
def LinesSaysCardSaid : Prop := Claim7.holds Tryd.pinned (.plain (OpenSpec.ofChange linesSaysSpec)) linesSaysCard

/-- THE SECOND FORM's CARD OF 'letterbecklaw4.LinesSays'. -/
def linesSaysUptoCard : Claim7 := { stood := { row := linesSaysUptoRow, standIns := [], harness := (true, "4e4dd0f5a11e1e1a683504574c2e96a9ece895707126d48b0b9a133b1df28aa5"), looks := true }, kinds := [], alts := [], laidByText := true, laidKinds := [.handle], laidTests := true, laidLooks := .later }
def LinesSaysUptoCardSaid : Prop := Claim7.holds Tryd.pinned (.plain (OpenSpec.upto linesSaysSpec)) linesSaysUptoCard
end Rows
end Go.Proofs.YtikkcjclhalhgaaDoor
