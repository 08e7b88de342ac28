/-
  DERIVED. GIVEN WITH THE SEED: THE CARDS: each row of YthhfkndhdjffgaaDoorRows.lean that lists a variable, with what it lists TIED to the program's text (the seventh form; the later family's looks); each row that meets fmt, with fmt's text TOLD by the authors' own Lean function (tested against real Go, not proved from fmt's source: count such statements apart). THE CARD IS WHAT COUNTS. Prove the row's statement (the work); the ties are given (YthhfkndhdjffgaaDoorTie.lean); close each card by the builder's one call (the guide's Derived/Test/ToyasCard.lean, 'card_holds'). Laid BY PROGRAM, IN A SANDBOX (cutbox-door.mjs). By AI agents, Wed Nov 11 2026. No macro, syntax, notation, axiom, sorry.
-/
import Derived.Test.YthhfkndhdjffgaaDoorRows
import GoSem.ClaimSeven
namespace Go.Proofs.YthhfkndhdjffgaaDoor
namespace Rows

/-- THE TIED CARD OF 'letterbecklaw3.DyckSays'. -/
def dyckSaysCard : Claim7 := { stood := { row := dyckSaysRow, standIns := [], harness := (true, "0b4d6094fe71e310d6fc453e0b136eb802b0df563448139e543ef15d9e48e923"), looks := true }, kinds := [], alts := [], laidByText := true, laidKinds := [.handle], laidTests := true, laidLooks := .later }
def DyckSaysCardSaid : Prop := Claim7.holds Tryd.pinned (.plain (OpenSpec.ofChange dyckSaysSpec)) dyckSaysCard

/-- THE SECOND FORM's CARD OF 'letterbecklaw3.DyckSays'. -/
def dyckSaysUptoCard : Claim7 := { stood := { row := dyckSaysUptoRow, standIns := [], harness := (true, "0b4d6094fe71e310d6fc453e0b136eb802b0df563448139e543ef15d9e48e923"), looks := true }, kinds := [], alts := [], laidByText := true, laidKinds := [.handle], laidTests := true, laidLooks := .later }
def DyckSaysUptoCardSaid : Prop := Claim7.holds Tryd.pinned (.plain (OpenSpec.upto dyckSaysSpec)) dyckSaysUptoCard
end Rows
end Go.Proofs.YthhfkndhdjffgaaDoor
