/-
  DERIVED. GIVEN WITH THE SEED: THE CARDS: each row of YtchhbnnpannnhaaGreatDoorRows.lean that lists a variable, with what it lists TIED to the program's text (the seventh form; the later family's looks); each row that meets fmt, with fmt's text TOLD by the authors' own Lean function (tested against real Go, not proved from fmt's source: count such statements apart). THE CARD IS WHAT COUNTS. Prove the row's statement (the work); the ties are given (YtchhbnnpannnhaaGreatDoorTie.lean); close each card by the builder's one call (the guide's Derived/Test/ToyasCard.lean, 'card_holds'). Laid BY PROGRAM, IN A SANDBOX (cutbox-door.mjs). By AI agents, Wed Nov 11 2026. No macro, syntax, notation, axiom, sorry.
-/
import Derived.Test.YtchhbnnpannnhaaGreatDoorRows
import GoSem.ClaimSeven
namespace Go.Proofs.YtchhbnnpannnhaaGreatDoor
namespace Rows

/-- THE TIED CARD OF 'letterbecklaw3.DfaSays'. -/
def dfaSaysCard : Claim7 := { stood := { row := dfaSaysRow, standIns := [], harness := (true, "3bca0800e913efffb1092d26ccddf04257f4accd9668e7283cf6c07fc330909c"), looks := true }, kinds := [], alts := [], laidByText := true, laidKinds := [.handle], laidTests := true, laidLooks := .later }
def DfaSaysCardSaid : Prop := Claim7.holds Tryz.pinned (.plain (OpenSpec.ofChange dfaSaysSpec)) dfaSaysCard

/-- THE SECOND FORM's CARD OF 'letterbecklaw3.DfaSays'. -/
def dfaSaysUptoCard : Claim7 := { stood := { row := dfaSaysUptoRow, standIns := [], harness := (true, "3bca0800e913efffb1092d26ccddf04257f4accd9668e7283cf6c07fc330909c"), looks := true }, kinds := [], alts := [], laidByText := true, laidKinds := [.handle], laidTests := true, laidLooks := .later }
def DfaSaysUptoCardSaid : Prop := Claim7.holds Tryz.pinned (.plain (OpenSpec.upto dfaSaysSpec)) dfaSaysUptoCard
end Rows
end Go.Proofs.YtchhbnnpannnhaaGreatDoor
