/-
  DERIVED. GIVEN WITH THE SEED: THE CARDS: each row of YtjdjmglfngjcnaaDoorRows.lean that lists a variable, with what it lists TIED to the program's text (the seventh form; the later family's looks); each row that meets fmt, with fmt's text TOLD by the authors' own Lean function (tested against real Go, not proved from fmt's source: count such statements apart). THE CARD IS WHAT COUNTS. Prove the row's statement (the work); the ties are given (YtjdjmglfngjcnaaDoorTie.lean); close each card by the builder's one call (the guide's Derived/Test/ToyasCard.lean, 'card_holds'). Laid BY PROGRAM, IN A SANDBOX (cutbox-door.mjs). By AI agents, Wed Nov 11 2026. No macro, syntax, notation, axiom, sorry.
-/
import Derived.Test.YtjdjmglfngjcnaaDoorRows
import GoSem.ClaimSeven
namespace Go.Proofs.YtjdjmglfngjcnaaDoor
namespace Rows

/-- THE TIED CARD OF 'letterbecklaw4.RomanBack'. -/
def romanBackCard : Claim7 := { stood := { row := romanBackRow, standIns := [], harness := (true, "deec501919a777329a21909ac0a39eb6f58a41156e0211d92642fed49344cce9"), looks := true }, kinds := [], alts := [], laidByText := true, laidKinds := [.data], laidTests := true, laidLooks := .later }
def RomanBackCardSaid : Prop := Claim7.holds Tryd.pinned (.plain (OpenSpec.ofChange romanBackSpec)) romanBackCard

/-- THE TIED CARD OF 'letterbecklaw4.RomanTens'. -/
def romanTensCard : Claim7 := { stood := { row := romanTensRow, standIns := [], harness := (true, "deec501919a777329a21909ac0a39eb6f58a41156e0211d92642fed49344cce9"), looks := true }, kinds := [], alts := [], laidByText := true, laidKinds := [.data], laidTests := true, laidLooks := .later }
def RomanTensCardSaid : Prop := Claim7.holds Tryd.pinned (.plain (OpenSpec.ofChange romanTensSpec)) romanTensCard

/-- THE TIED CARD OF 'letterbecklaw4.RomanSays'. -/
def romanSaysCard : Claim7 := { stood := { row := romanSaysRow, standIns := [], harness := (true, "deec501919a777329a21909ac0a39eb6f58a41156e0211d92642fed49344cce9"), looks := true }, kinds := [], alts := [], laidByText := true, laidKinds := [.handle, .data], laidTests := true, laidLooks := .later }
def RomanSaysCardSaid : Prop := Claim7.holds Tryd.pinned (.plain (OpenSpec.ofChange romanSaysSpec)) romanSaysCard

/-- THE SECOND FORM's CARD OF 'letterbecklaw4.RomanBack'. -/
def romanBackUptoCard : Claim7 := { stood := { row := romanBackUptoRow, standIns := [], harness := (true, "deec501919a777329a21909ac0a39eb6f58a41156e0211d92642fed49344cce9"), looks := true }, kinds := [], alts := [], laidByText := true, laidKinds := [.data], laidTests := true, laidLooks := .later }
def RomanBackUptoCardSaid : Prop := Claim7.holds Tryd.pinned (.plain (OpenSpec.upto romanBackSpec)) romanBackUptoCard

/-- THE SECOND FORM's CARD OF 'letterbecklaw4.RomanTens'. -/
def romanTensUptoCard : Claim7 := { stood := { row := romanTensUptoRow, standIns := [], harness := (true, "deec501919a777329a21909ac0a39eb6f58a41156e0211d92642fed49344cce9"), looks := true }, kinds := [], alts := [], laidByText := true, laidKinds := [.data], laidTests := true, laidLooks := .later }
def RomanTensUptoCardSaid : Prop := Claim7.holds Tryd.pinned (.plain (OpenSpec.upto romanTensSpec)) romanTensUptoCard

/-- THE SECOND FORM's CARD OF 'letterbecklaw4.RomanSays'. -/
def romanSaysUptoCard : Claim7 := { stood := { row := romanSaysUptoRow, standIns := [], harness := (true, "deec501919a777329a21909ac0a39eb6f58a41156e0211d92642fed49344cce9"), looks := true }, kinds := [], alts := [], laidByText := true, laidKinds := [.handle, .data], laidTests := true, laidLooks := .later }
def RomanSaysUptoCardSaid : Prop := Claim7.holds Tryd.pinned (.plain (OpenSpec.upto romanSaysSpec)) romanSaysUptoCard
end Rows
end Go.Proofs.YtjdjmglfngjcnaaDoor
