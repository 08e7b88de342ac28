/-
  DERIVED. GIVEN WITH THE SEED: THE CARDS: each row of YtaoppfcniifjhaaDoorRows.lean that lists a variable, with what it lists TIED to the program's text (the seventh form; the later family's looks); each row that meets fmt, with fmt's text TOLD by the authors' own Lean function (tested against real Go, not proved from fmt's source: count such statements apart). THE CARD IS WHAT COUNTS. Prove the row's statement (the work); the ties are given (YtaoppfcniifjhaaDoorTie.lean); close each card by the builder's one call (the guide's Derived/Test/ToyasCard.lean, 'card_holds'). Laid BY PROGRAM, IN A SANDBOX (cutbox-door.mjs). By AI agents, Wed Nov 11 2026. No macro, syntax, notation, axiom, sorry.
-/
import Derived.Test.YtaoppfcniifjhaaDoorRows
import GoSem.ClaimSeven
namespace Go.Proofs.YtaoppfcniifjhaaDoor
namespace Rows

/-- THE TIED CARD OF 'letterbecklaw3.MorseSays'. -/
def morseSaysCard : Claim7 := { stood := { row := morseSaysRow, standIns := [], harness := (true, "be7c40f351d70c7855eeac4b5f17d6f9b9fc13e2791cb4f579a49b26cb983c10"), looks := true }, kinds := [], alts := [], laidByText := true, laidKinds := [.handle], laidTests := true, laidLooks := .later }
def MorseSaysCardSaid : Prop := Claim7.holds Tryd.pinned (.plain (OpenSpec.ofChange morseSaysSpec)) morseSaysCard

/-- THE SECOND FORM's CARD OF 'letterbecklaw3.MorseSays'. -/
def morseSaysUptoCard : Claim7 := { stood := { row := morseSaysUptoRow, standIns := [], harness := (true, "be7c40f351d70c7855eeac4b5f17d6f9b9fc13e2791cb4f579a49b26cb983c10"), looks := true }, kinds := [], alts := [], laidByText := true, laidKinds := [.handle], laidTests := true, laidLooks := .later }
def MorseSaysUptoCardSaid : Prop := Claim7.holds Tryd.pinned (.plain (OpenSpec.upto morseSaysSpec)) morseSaysUptoCard
end Rows
end Go.Proofs.YtaoppfcniifjhaaDoor
