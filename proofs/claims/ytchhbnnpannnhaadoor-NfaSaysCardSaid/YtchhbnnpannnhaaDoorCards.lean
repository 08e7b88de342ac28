/-
  DERIVED. GIVEN WITH THE SEED: THE CARDS: each row of YtchhbnnpannnhaaDoorRows.lean that lists a variable, with what it lists TIED to the program's text (the seventh form; the later family's looks); each row that meets fmt, with fmt's text TOLD by the authors' own Lean function (tested against real Go, not proved from fmt's source: count such statements apart). THE CARD IS WHAT COUNTS. Prove the row's statement (the work); the ties are given (YtchhbnnpannnhaaDoorTie.lean); close each card by the builder's one call (the guide's Derived/Test/ToyasCard.lean, 'card_holds'). Laid BY PROGRAM, IN A SANDBOX (cutbox-door.mjs). By AI agents, Wed Nov 11 2026. No macro, syntax, notation, axiom, sorry.
-/
import Derived.Test.YtchhbnnpannnhaaDoorRows
import GoSem.ClaimSeven
namespace Go.Proofs.YtchhbnnpannnhaaDoor
namespace Rows

/-- THE TIED CARD OF 'letterbecklaw3.NfaSays'. -/
def nfaSaysCard : Claim7 := { stood := { row := nfaSaysRow, standIns := [], harness := (true, "983a820e24f16bf26994b68556cb05a957ec72f7a78914c498da2a91f47a882e"), looks := true }, kinds := [], alts := [], laidByText := true, laidKinds := [.handle], laidTests := true, laidLooks := .later }
def NfaSaysCardSaid : Prop := Claim7.holds Tryd.pinned (.plain (OpenSpec.ofChange nfaSaysSpec)) nfaSaysCard

/-- THE SECOND FORM's CARD OF 'letterbecklaw3.NfaSays'. -/
def nfaSaysUptoCard : Claim7 := { stood := { row := nfaSaysUptoRow, standIns := [], harness := (true, "983a820e24f16bf26994b68556cb05a957ec72f7a78914c498da2a91f47a882e"), looks := true }, kinds := [], alts := [], laidByText := true, laidKinds := [.handle], laidTests := true, laidLooks := .later }
def NfaSaysUptoCardSaid : Prop := Claim7.holds Tryd.pinned (.plain (OpenSpec.upto nfaSaysSpec)) nfaSaysUptoCard
end Rows
end Go.Proofs.YtchhbnnpannnhaaDoor
