/-
  DERIVED. GIVEN WITH THE SEED: THE CARDS: each row of YteoofkinmilckaaDoorRows.lean that lists a variable, with what it lists TIED to the program's text (the seventh form; the later family's looks); each row that meets fmt, with fmt's text TOLD by the authors' own Lean function (tested against real Go, not proved from fmt's source: count such statements apart). THE CARD IS WHAT COUNTS. Prove the row's statement (the work); the ties are given (YteoofkinmilckaaDoorTie.lean); close each card by the builder's one call (the guide's Derived/Test/ToyasCard.lean, 'card_holds'). Laid BY PROGRAM, IN A SANDBOX (cutbox-door.mjs). By AI agents, Wed Nov 11 2026. No macro, syntax, notation, axiom, sorry.
-/
import Derived.Test.YteoofkinmilckaaDoorRows
import GoSem.ClaimSeven
namespace Go.Proofs.YteoofkinmilckaaDoor
namespace Rows

/-- THE TIED CARD OF 'letterbecktop.TopChanges'. -/
def topChangesCard : Claim7 := { stood := { row := topChangesRow, standIns := [], harness := (true, "51df16c05eab8980edb65947522a516bcc39dd47e0d421479c844d5080346f67"), looks := true }, kinds := [], alts := [], laidByText := true, laidKinds := [.data, .data, .data], laidTests := true, laidLooks := .later }
def TopChangesCardSaid : Prop := Claim7.holds Tryd.pinned (.plain (OpenSpec.ofChange topChangesSpec)) topChangesCard

/-- THE TIED CARD OF 'letterbecklaw4.BookBack'. -/
def bookBackCard : Claim7 := { stood := { row := bookBackRow, standIns := [], harness := (true, "51df16c05eab8980edb65947522a516bcc39dd47e0d421479c844d5080346f67"), looks := true }, kinds := [], alts := [], laidByText := true, laidKinds := [.data, .data, .data, .handle], laidTests := true, laidLooks := .later }
def BookBackCardSaid : Prop := Claim7.holds Tryd.pinned (.plain (OpenSpec.ofChange bookBackSpec)) bookBackCard

/-- THE TIED CARD OF 'letterbecklaw4.BookPlays'. -/
def bookPlaysCard : Claim7 := { stood := { row := bookPlaysRow, standIns := [], harness := (true, "51df16c05eab8980edb65947522a516bcc39dd47e0d421479c844d5080346f67"), looks := true }, kinds := [], alts := [], laidByText := true, laidKinds := [.data, .data, .data, .handle], laidTests := true, laidLooks := .later }
def BookPlaysCardSaid : Prop := Claim7.holds Tryd.pinned (.plain (OpenSpec.ofChange bookPlaysSpec)) bookPlaysCard

/-- THE TIED CARD OF 'letterbecklaw4.BookTorn'. -/
def bookTornCard : Claim7 := { stood := { row := bookTornRow, standIns := [], harness := (true, "51df16c05eab8980edb65947522a516bcc39dd47e0d421479c844d5080346f67"), looks := true }, kinds := [], alts := [], laidByText := true, laidKinds := [.data, .data, .data, .data, .sentinel, .sentinel, .pinned], laidTests := true, laidLooks := .later }
def BookTornCardSaid : Prop := Claim7.holds Tryd.pinned (.plain (OpenSpec.ofChange bookTornSpec)) bookTornCard

/-- THE TIED CARD OF 'letterbecklaw4.BookAgain'. -/
def bookAgainCard : Claim7 := { stood := { row := bookAgainRow, standIns := [], harness := (true, "51df16c05eab8980edb65947522a516bcc39dd47e0d421479c844d5080346f67"), looks := true }, kinds := [], alts := [], laidByText := true, laidKinds := [.data, .data, .data, .data, .sentinel, .sentinel, .pinned], laidTests := true, laidLooks := .later }
def BookAgainCardSaid : Prop := Claim7.holds Tryd.pinned (.plain (OpenSpec.ofChange bookAgainSpec)) bookAgainCard

/-- THE TIED CARD OF 'letterbecktop.TopBook'. -/
def topBookCard : Claim7 := { stood := { row := topBookRow, standIns := [], harness := (true, "51df16c05eab8980edb65947522a516bcc39dd47e0d421479c844d5080346f67"), looks := true }, kinds := [], alts := [], laidByText := true, laidKinds := [.data, .data, .data, .data, .sentinel, .sentinel, .pinned], laidTests := true, laidLooks := .later }
def TopBookCardSaid : Prop := Claim7.holds Tryd.pinned (.plain (OpenSpec.ofChange topBookSpec)) topBookCard

/-- THE SECOND FORM's CARD OF 'letterbecktop.TopChanges'. -/
def topChangesUptoCard : Claim7 := { stood := { row := topChangesUptoRow, standIns := [], harness := (true, "51df16c05eab8980edb65947522a516bcc39dd47e0d421479c844d5080346f67"), looks := true }, kinds := [], alts := [], laidByText := true, laidKinds := [.data, .data, .data], laidTests := true, laidLooks := .later }
def TopChangesUptoCardSaid : Prop := Claim7.holds Tryd.pinned (.plain (OpenSpec.upto topChangesSpec)) topChangesUptoCard

/-- THE SECOND FORM's CARD OF 'letterbecklaw4.BookBack'. -/
def bookBackUptoCard : Claim7 := { stood := { row := bookBackUptoRow, standIns := [], harness := (true, "51df16c05eab8980edb65947522a516bcc39dd47e0d421479c844d5080346f67"), looks := true }, kinds := [], alts := [], laidByText := true, laidKinds := [.data, .data, .data, .handle], laidTests := true, laidLooks := .later }
def BookBackUptoCardSaid : Prop := Claim7.holds Tryd.pinned (.plain (OpenSpec.upto bookBackSpec)) bookBackUptoCard

/-- THE SECOND FORM's CARD OF 'letterbecklaw4.BookPlays'. -/
def bookPlaysUptoCard : Claim7 := { stood := { row := bookPlaysUptoRow, standIns := [], harness := (true, "51df16c05eab8980edb65947522a516bcc39dd47e0d421479c844d5080346f67"), looks := true }, kinds := [], alts := [], laidByText := true, laidKinds := [.data, .data, .data, .handle], laidTests := true, laidLooks := .later }
def BookPlaysUptoCardSaid : Prop := Claim7.holds Tryd.pinned (.plain (OpenSpec.upto bookPlaysSpec)) bookPlaysUptoCard

/-- THE SECOND FORM's CARD OF 'letterbecklaw4.BookTorn'. -/
def bookTornUptoCard : Claim7 := { stood := { row := bookTornUptoRow, standIns := [], harness := (true, "51df16c05eab8980edb65947522a516bcc39dd47e0d421479c844d5080346f67"), looks := true }, kinds := [], alts := [], laidByText := true, laidKinds := [.data, .data, .data, .data, .sentinel, .sentinel, .pinned], laidTests := true, laidLooks := .later }
def BookTornUptoCardSaid : Prop := Claim7.holds Tryd.pinned (.plain (OpenSpec.upto bookTornSpec)) bookTornUptoCard

/-- THE SECOND FORM's CARD OF 'letterbecklaw4.BookAgain'. -/
def bookAgainUptoCard : Claim7 := { stood := { row := bookAgainUptoRow, standIns := [], harness := (true, "51df16c05eab8980edb65947522a516bcc39dd47e0d421479c844d5080346f67"), looks := true }, kinds := [], alts := [], laidByText := true, laidKinds := [.data, .data, .data, .data, .sentinel, .sentinel, .pinned], laidTests := true, laidLooks := .later }
def BookAgainUptoCardSaid : Prop := Claim7.holds Tryd.pinned (.plain (OpenSpec.upto bookAgainSpec)) bookAgainUptoCard

/-- THE SECOND FORM's CARD OF 'letterbecktop.TopBook'. -/
def topBookUptoCard : Claim7 := { stood := { row := topBookUptoRow, standIns := [], harness := (true, "51df16c05eab8980edb65947522a516bcc39dd47e0d421479c844d5080346f67"), looks := true }, kinds := [], alts := [], laidByText := true, laidKinds := [.data, .data, .data, .data, .sentinel, .sentinel, .pinned], laidTests := true, laidLooks := .later }
def TopBookUptoCardSaid : Prop := Claim7.holds Tryd.pinned (.plain (OpenSpec.upto topBookSpec)) topBookUptoCard
end Rows
end Go.Proofs.YteoofkinmilckaaDoor
