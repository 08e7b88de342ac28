/-
  DERIVED. GIVEN WITH THE SEED: THE CARDS: each row of YtgmmlblefealjaaDoorRows.lean that lists a variable, with what it lists TIED to the program's text (the seventh form; the later family's looks); each row that meets fmt, with fmt's text TOLD by the authors' own Lean function (tested against real Go, not proved from fmt's source: count such statements apart). THE CARD IS WHAT COUNTS. Prove the row's statement (the work); the ties are given (YtgmmlblefealjaaDoorTie.lean); close each card by the builder's one call (the guide's Derived/Test/ToyasCard.lean, 'card_holds'). Laid BY PROGRAM, IN A SANDBOX (cutbox-door.mjs). By AI agents, Wed Nov 11 2026. No macro, syntax, notation, axiom, sorry.
-/
import Derived.Test.YtgmmlblefealjaaDoorRows
import GoSem.ClaimSeven
namespace Go.Proofs.YtgmmlblefealjaaDoor
namespace Rows

/-- THE TIED CARD OF 'letterbecktop.TopChanges'. -/
def topChangesCard : Claim7 := { stood := { row := topChangesRow, standIns := [], harness := (true, "3d1cf6a012f298e03a321cba21754eb627122e62f5709534fd1f3e4b5eaa6acc"), looks := true }, kinds := [], alts := [], laidByText := true, laidKinds := [.data, .data, .data], laidTests := true, laidLooks := .later }
def TopChangesCardSaid : Prop := Claim7.holds Tryd.pinned (.plain (OpenSpec.ofChange topChangesSpec)) topChangesCard

/-- THE TIED CARD OF 'letterbecktop.TopBook'. -/
def topBookCard : Claim7 := { stood := { row := topBookRow, standIns := [], harness := (true, "3d1cf6a012f298e03a321cba21754eb627122e62f5709534fd1f3e4b5eaa6acc"), looks := true }, kinds := [], alts := [], laidByText := true, laidKinds := [.data, .data, .data, .data, .sentinel, .sentinel, .pinned], laidTests := true, laidLooks := .later }
def TopBookCardSaid : Prop := Claim7.holds Tryd.pinned (.plain (OpenSpec.ofChange topBookSpec)) topBookCard

/-- THE SECOND FORM's CARD OF 'letterbecktop.TopChanges'. -/
def topChangesUptoCard : Claim7 := { stood := { row := topChangesUptoRow, standIns := [], harness := (true, "3d1cf6a012f298e03a321cba21754eb627122e62f5709534fd1f3e4b5eaa6acc"), looks := true }, kinds := [], alts := [], laidByText := true, laidKinds := [.data, .data, .data], laidTests := true, laidLooks := .later }
def TopChangesUptoCardSaid : Prop := Claim7.holds Tryd.pinned (.plain (OpenSpec.upto topChangesSpec)) topChangesUptoCard

/-- THE SECOND FORM's CARD OF 'letterbecktop.TopBook'. -/
def topBookUptoCard : Claim7 := { stood := { row := topBookUptoRow, standIns := [], harness := (true, "3d1cf6a012f298e03a321cba21754eb627122e62f5709534fd1f3e4b5eaa6acc"), looks := true }, kinds := [], alts := [], laidByText := true, laidKinds := [.data, .data, .data, .data, .sentinel, .sentinel, .pinned], laidTests := true, laidLooks := .later }
def TopBookUptoCardSaid : Prop := Claim7.holds Tryd.pinned (.plain (OpenSpec.upto topBookSpec)) topBookUptoCard
end Rows
end Go.Proofs.YtgmmlblefealjaaDoor
