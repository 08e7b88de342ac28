/-
  DERIVED. GIVEN WITH THE SEED: THE CARDS: each row of YtfglajddibjnjaaDoorRows.lean that lists a variable, with what it lists TIED to the program's text (the seventh form; the later family's looks); each row that meets fmt, with fmt's text TOLD by the authors' own Lean function (tested against real Go, not proved from fmt's source: count such statements apart). THE CARD IS WHAT COUNTS. Prove the row's statement (the work); the ties are given (YtfglajddibjnjaaDoorTie.lean); close each card by the builder's one call (the guide's Derived/Test/ToyasCard.lean, 'card_holds'). Laid BY PROGRAM, IN A SANDBOX (cutbox-door.mjs). By AI agents, Wed Nov 11 2026. No macro, syntax, notation, axiom, sorry.
-/
import Derived.Test.YtfglajddibjnjaaDoorRows
import GoSem.ClaimSeven
namespace Go.Proofs.YtfglajddibjnjaaDoor
namespace Rows

/-- THE TIED CARD OF 'letterbecklaw3.LeastSays'. -/
def leastSaysCard : Claim7 := { stood := { row := leastSaysRow, standIns := [], harness := (true, "f2fa2f51a6b1a2552ed4d7ef6ef445d614fa5aaaee05f834000c830d9d788fea"), looks := true }, kinds := [], alts := [], laidByText := true, laidKinds := [.handle], laidTests := true, laidLooks := .later }
def LeastSaysCardSaid : Prop := Claim7.holds Tryd.pinned (.plain (OpenSpec.ofChange leastSaysSpec)) leastSaysCard

/-- THE TIED CARD OF 'letterbecklaw3.LeastAny'. -/
def leastAnyCard : Claim7 := { stood := { row := leastAnyRow, standIns := [], harness := (true, "f2fa2f51a6b1a2552ed4d7ef6ef445d614fa5aaaee05f834000c830d9d788fea"), looks := true }, kinds := [], alts := [], laidByText := true, laidKinds := [.handle], laidTests := true, laidLooks := .later }
def LeastAnyCardSaid : Prop := Claim7.holds Tryd.pinned (.plain (OpenSpec.ofChange leastAnySpec)) leastAnyCard

/-- THE SECOND FORM's CARD OF 'letterbecklaw3.LeastSays'. -/
def leastSaysUptoCard : Claim7 := { stood := { row := leastSaysUptoRow, standIns := [], harness := (true, "f2fa2f51a6b1a2552ed4d7ef6ef445d614fa5aaaee05f834000c830d9d788fea"), looks := true }, kinds := [], alts := [], laidByText := true, laidKinds := [.handle], laidTests := true, laidLooks := .later }
def LeastSaysUptoCardSaid : Prop := Claim7.holds Tryd.pinned (.plain (OpenSpec.upto leastSaysSpec)) leastSaysUptoCard

/-- THE SECOND FORM's CARD OF 'letterbecklaw3.LeastAny'. -/
def leastAnyUptoCard : Claim7 := { stood := { row := leastAnyUptoRow, standIns := [], harness := (true, "f2fa2f51a6b1a2552ed4d7ef6ef445d614fa5aaaee05f834000c830d9d788fea"), looks := true }, kinds := [], alts := [], laidByText := true, laidKinds := [.handle], laidTests := true, laidLooks := .later }
def LeastAnyUptoCardSaid : Prop := Claim7.holds Tryd.pinned (.plain (OpenSpec.upto leastAnySpec)) leastAnyUptoCard
end Rows
end Go.Proofs.YtfglajddibjnjaaDoor
