/-
  DERIVED. GIVEN WITH THE SEED: THE CARDS: each row of YtehecbfgdpaemaaDoorRows.lean that lists a variable, with what it lists TIED to the program's text (the seventh form; the later family's looks); each row that meets fmt, with fmt's text TOLD by the authors' own Lean function (tested against real Go, not proved from fmt's source: count such statements apart). THE CARD IS WHAT COUNTS. Prove the row's statement (the work); the ties are given (YtehecbfgdpaemaaDoorTie.lean); close each card by the builder's one call (the guide's Derived/Test/ToyasCard.lean, 'card_holds'). Laid BY PROGRAM, IN A SANDBOX (cutbox-door.mjs). By AI agents, Wed Nov 11 2026. No macro, syntax, notation, axiom, sorry.
-/
import Derived.Test.YtehecbfgdpaemaaDoorRows
import GoSem.ClaimSeven
namespace Go.Proofs.YtehecbfgdpaemaaDoor
namespace Rows

/-- THE TIED CARD OF 'letterbecklaw4.YardDone'. -/
def yardDoneCard : Claim7 := { stood := { row := yardDoneRow, standIns := [], harness := (true, "f13a8c687847dfcb313d41ac27b0ab6102d47fde3f777a30cb0327736bed8291"), looks := true }, kinds := [], alts := [], laidByText := true, laidKinds := [.funcs], laidTests := true, laidLooks := .later }
def YardDoneCardSaid : Prop := Claim7.holds Tryd.pinned (.plain (OpenSpec.ofChange yardDoneSpec)) yardDoneCard

/-- THE TIED CARD OF 'letterbecklaw4.YardBrackets'. -/
def yardBracketsCard : Claim7 := { stood := { row := yardBracketsRow, standIns := [], harness := (true, "f13a8c687847dfcb313d41ac27b0ab6102d47fde3f777a30cb0327736bed8291"), looks := true }, kinds := [], alts := [], laidByText := true, laidKinds := [.funcs], laidTests := true, laidLooks := .later }
def YardBracketsCardSaid : Prop := Claim7.holds Tryd.pinned (.plain (OpenSpec.ofChange yardBracketsSpec)) yardBracketsCard

/-- THE TIED CARD OF 'letterbecktop.TopSums'. -/
def topSumsCard : Claim7 := { stood := { row := topSumsRow, standIns := [], harness := (true, "f13a8c687847dfcb313d41ac27b0ab6102d47fde3f777a30cb0327736bed8291"), looks := true }, kinds := [], alts := [], laidByText := true, laidKinds := [.data, .funcs], laidTests := true, laidLooks := .later }
def TopSumsCardSaid : Prop := Claim7.holds Tryd.pinned (.plain (OpenSpec.ofChange topSumsSpec)) topSumsCard

/-- THE TIED CARD OF 'letterbecklaw4.YardFirst'. -/
def yardFirstCard : Claim7 := { stood := { row := yardFirstRow, standIns := [], harness := (true, "f13a8c687847dfcb313d41ac27b0ab6102d47fde3f777a30cb0327736bed8291"), looks := true }, kinds := [], alts := [], laidByText := true, laidKinds := [.funcs], laidTests := true, laidLooks := .later }
def YardFirstCardSaid : Prop := Claim7.holds Tryd.pinned (.plain (OpenSpec.ofChange yardFirstSpec)) yardFirstCard

/-- THE TIED CARD OF 'letterbecklaw4.YardSays'. -/
def yardSaysCard : Claim7 := { stood := { row := yardSaysRow, standIns := [], harness := (true, "f13a8c687847dfcb313d41ac27b0ab6102d47fde3f777a30cb0327736bed8291"), looks := true }, kinds := [], alts := [], laidByText := true, laidKinds := [.handle, .funcs], laidTests := true, laidLooks := .later }
def YardSaysCardSaid : Prop := Claim7.holds Tryd.pinned (.plain (OpenSpec.ofChange yardSaysSpec)) yardSaysCard

/-- THE TIED CARD OF 'letterbecklaw4.YardRead'. -/
def yardReadCard : Claim7 := { stood := { row := yardReadRow, standIns := [], harness := (true, "f13a8c687847dfcb313d41ac27b0ab6102d47fde3f777a30cb0327736bed8291"), looks := true }, kinds := [], alts := [], laidByText := true, laidKinds := [.handle, .funcs], laidTests := true, laidLooks := .later }
def YardReadCardSaid : Prop := Claim7.holds Tryd.pinned (.plain (OpenSpec.ofChange yardReadSpec)) yardReadCard

/-- THE SECOND FORM's CARD OF 'letterbecklaw4.YardDone'. -/
def yardDoneUptoCard : Claim7 := { stood := { row := yardDoneUptoRow, standIns := [], harness := (true, "f13a8c687847dfcb313d41ac27b0ab6102d47fde3f777a30cb0327736bed8291"), looks := true }, kinds := [], alts := [], laidByText := true, laidKinds := [.funcs], laidTests := true, laidLooks := .later }
def YardDoneUptoCardSaid : Prop := Claim7.holds Tryd.pinned (.plain (OpenSpec.upto yardDoneSpec)) yardDoneUptoCard

/-- THE SECOND FORM's CARD OF 'letterbecklaw4.YardBrackets'. -/
def yardBracketsUptoCard : Claim7 := { stood := { row := yardBracketsUptoRow, standIns := [], harness := (true, "f13a8c687847dfcb313d41ac27b0ab6102d47fde3f777a30cb0327736bed8291"), looks := true }, kinds := [], alts := [], laidByText := true, laidKinds := [.funcs], laidTests := true, laidLooks := .later }
def YardBracketsUptoCardSaid : Prop := Claim7.holds Tryd.pinned (.plain (OpenSpec.upto yardBracketsSpec)) yardBracketsUptoCard

/-- THE SECOND FORM's CARD OF 'letterbecktop.TopSums'. -/
def topSumsUptoCard : Claim7 := { stood := { row := topSumsUptoRow, standIns := [], harness := (true, "f13a8c687847dfcb313d41ac27b0ab6102d47fde3f777a30cb0327736bed8291"), looks := true }, kinds := [], alts := [], laidByText := true, laidKinds := [.data, .funcs], laidTests := true, laidLooks := .later }
def TopSumsUptoCardSaid : Prop := Claim7.holds Tryd.pinned (.plain (OpenSpec.upto topSumsSpec)) topSumsUptoCard

/-- THE SECOND FORM's CARD OF 'letterbecklaw4.YardFirst'. -/
def yardFirstUptoCard : Claim7 := { stood := { row := yardFirstUptoRow, standIns := [], harness := (true, "f13a8c687847dfcb313d41ac27b0ab6102d47fde3f777a30cb0327736bed8291"), looks := true }, kinds := [], alts := [], laidByText := true, laidKinds := [.funcs], laidTests := true, laidLooks := .later }
def YardFirstUptoCardSaid : Prop := Claim7.holds Tryd.pinned (.plain (OpenSpec.upto yardFirstSpec)) yardFirstUptoCard

/-- THE SECOND FORM's CARD OF 'letterbecklaw4.YardSays'. -/
def yardSaysUptoCard : Claim7 := { stood := { row := yardSaysUptoRow, standIns := [], harness := (true, "f13a8c687847dfcb313d41ac27b0ab6102d47fde3f777a30cb0327736bed8291"), looks := true }, kinds := [], alts := [], laidByText := true, laidKinds := [.handle, .funcs], laidTests := true, laidLooks := .later }
def YardSaysUptoCardSaid : Prop := Claim7.holds Tryd.pinned (.plain (OpenSpec.upto yardSaysSpec)) yardSaysUptoCard

/-- THE SECOND FORM's CARD OF 'letterbecklaw4.YardRead'. -/
def yardReadUptoCard : Claim7 := { stood := { row := yardReadUptoRow, standIns := [], harness := (true, "f13a8c687847dfcb313d41ac27b0ab6102d47fde3f777a30cb0327736bed8291"), looks := true }, kinds := [], alts := [], laidByText := true, laidKinds := [.handle, .funcs], laidTests := true, laidLooks := .later }
def YardReadUptoCardSaid : Prop := Claim7.holds Tryd.pinned (.plain (OpenSpec.upto yardReadSpec)) yardReadUptoCard
end Rows
end Go.Proofs.YtehecbfgdpaemaaDoor
