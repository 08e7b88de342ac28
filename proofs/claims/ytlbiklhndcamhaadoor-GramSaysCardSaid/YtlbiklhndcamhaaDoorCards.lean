/-
  DERIVED. GIVEN WITH THE SEED: THE CARDS: each row of YtlbiklhndcamhaaDoorRows.lean that lists a variable, with what it lists TIED to the program's text (the seventh form; the later family's looks); each row that meets fmt, with fmt's text TOLD by the authors' own Lean function (tested against real Go, not proved from fmt's source: count such statements apart). THE CARD IS WHAT COUNTS. Prove the row's statement (the work); the ties are given (YtlbiklhndcamhaaDoorTie.lean); close each card by the builder's one call (the guide's Derived/Test/ToyasCard.lean, 'card_holds'). Laid BY PROGRAM, IN A SANDBOX (cutbox-door.mjs). By AI agents, Wed Nov 11 2026. No macro, syntax, notation, axiom, sorry.
-/
import Derived.Test.YtlbiklhndcamhaaDoorRows
import GoSem.ClaimSeven
namespace Go.Proofs.YtlbiklhndcamhaaDoor
namespace Rows

/-- THE TIED CARD OF 'letterbecklaw3.GramSays'. -/
def gramSaysCard : Claim7 := { stood := { row := gramSaysRow, standIns := [], harness := (true, "29dd48b47a1157b9c04a81104d1cba9f77e7ff8e46bc96a3d14bbcba239ca189"), looks := true }, kinds := [], alts := [], laidByText := true, laidKinds := [.handle], laidTests := true, laidLooks := .later }
def GramSaysCardSaid : Prop := Claim7.holds Tryd.pinned (.plain (OpenSpec.ofChange gramSaysSpec)) gramSaysCard

/-- THE TIED CARD OF 'letterbecklaw3.GramMore'. -/
def gramMoreCard : Claim7 := { stood := { row := gramMoreRow, standIns := [], harness := (true, "29dd48b47a1157b9c04a81104d1cba9f77e7ff8e46bc96a3d14bbcba239ca189"), looks := true }, kinds := [], alts := [], laidByText := true, laidKinds := [.handle], laidTests := true, laidLooks := .later }
def GramMoreCardSaid : Prop := Claim7.holds Tryd.pinned (.plain (OpenSpec.ofChange gramMoreSpec)) gramMoreCard

/-- THE SECOND FORM's CARD OF 'letterbecklaw3.GramSays'. -/
def gramSaysUptoCard : Claim7 := { stood := { row := gramSaysUptoRow, standIns := [], harness := (true, "29dd48b47a1157b9c04a81104d1cba9f77e7ff8e46bc96a3d14bbcba239ca189"), looks := true }, kinds := [], alts := [], laidByText := true, laidKinds := [.handle], laidTests := true, laidLooks := .later }
def GramSaysUptoCardSaid : Prop := Claim7.holds Tryd.pinned (.plain (OpenSpec.upto gramSaysSpec)) gramSaysUptoCard

/-- THE SECOND FORM's CARD OF 'letterbecklaw3.GramMore'. -/
def gramMoreUptoCard : Claim7 := { stood := { row := gramMoreUptoRow, standIns := [], harness := (true, "29dd48b47a1157b9c04a81104d1cba9f77e7ff8e46bc96a3d14bbcba239ca189"), looks := true }, kinds := [], alts := [], laidByText := true, laidKinds := [.handle], laidTests := true, laidLooks := .later }
def GramMoreUptoCardSaid : Prop := Claim7.holds Tryd.pinned (.plain (OpenSpec.upto gramMoreSpec)) gramMoreUptoCard
end Rows
end Go.Proofs.YtlbiklhndcamhaaDoor
