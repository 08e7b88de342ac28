/-
  DERIVED. GIVEN WITH THE SEED: THE CARDS: each row of YtpimpfejaookeaaDoorRows.lean that lists a variable, with what it lists TIED to the program's text (the seventh form; the later family's looks); each row that meets fmt, with fmt's text TOLD by the authors' own Lean function (tested against real Go, not proved from fmt's source: count such statements apart). THE CARD IS WHAT COUNTS. Prove the row's statement (the work); the ties are given (YtpimpfejaookeaaDoorTie.lean); close each card by the builder's one call (the guide's Derived/Test/ToyasCard.lean, 'card_holds'). Laid BY PROGRAM, IN A SANDBOX (cutbox-door.mjs). By AI agents, Wed Nov 11 2026. No macro, syntax, notation, axiom, sorry.
-/
import Derived.Test.YtpimpfejaookeaaDoorRows
import GoSem.ClaimSeven
namespace Go.Proofs.YtpimpfejaookeaaDoor
namespace Rows

/-- THE TIED CARD OF 'letterbecklaw3.RegexSays'. -/
def regexSaysCard : Claim7 := { stood := { row := regexSaysRow, standIns := [], harness := (true, "16cffa3074cc41002a8ce4b7cfc18161a99a178f126a68ab6097ad780a982e14"), looks := true }, kinds := [], alts := [], laidByText := true, laidKinds := [.handle], laidTests := true, laidLooks := .later }
def RegexSaysCardSaid : Prop := Claim7.holds Tryd.pinned (.plain (OpenSpec.ofChange regexSaysSpec)) regexSaysCard

/-- THE TIED CARD OF 'letterbecklaw3.RegexNull'. -/
def regexNullCard : Claim7 := { stood := { row := regexNullRow, standIns := [], harness := (true, "16cffa3074cc41002a8ce4b7cfc18161a99a178f126a68ab6097ad780a982e14"), looks := true }, kinds := [], alts := [], laidByText := true, laidKinds := [.handle], laidTests := true, laidLooks := .later }
def RegexNullCardSaid : Prop := Claim7.holds Tryd.pinned (.plain (OpenSpec.ofChange regexNullSpec)) regexNullCard

/-- THE TIED CARD OF 'letterbecklaw3.RegexPattern'. -/
def regexPatternCard : Claim7 := { stood := { row := regexPatternRow, standIns := [], harness := (true, "16cffa3074cc41002a8ce4b7cfc18161a99a178f126a68ab6097ad780a982e14"), looks := true }, kinds := [], alts := [], laidByText := true, laidKinds := [.handle], laidTests := true, laidLooks := .later }
def RegexPatternCardSaid : Prop := Claim7.holds Tryd.pinned (.plain (OpenSpec.ofChange regexPatternSpec)) regexPatternCard

/-- THE TIED CARD OF 'letterbecklaw3.RegexLetters'. -/
def regexLettersCard : Claim7 := { stood := { row := regexLettersRow, standIns := [], harness := (true, "16cffa3074cc41002a8ce4b7cfc18161a99a178f126a68ab6097ad780a982e14"), looks := true }, kinds := [], alts := [], laidByText := true, laidKinds := [.handle], laidTests := true, laidLooks := .later }
def RegexLettersCardSaid : Prop := Claim7.holds Tryd.pinned (.plain (OpenSpec.ofChange regexLettersSpec)) regexLettersCard

/-- THE TIED CARD OF 'letterbecklaw3.NfaSays'. -/
def nfaSaysCard : Claim7 := { stood := { row := nfaSaysRow, standIns := [], harness := (true, "16cffa3074cc41002a8ce4b7cfc18161a99a178f126a68ab6097ad780a982e14"), looks := true }, kinds := [], alts := [], laidByText := true, laidKinds := [.handle], laidTests := true, laidLooks := .later }
def NfaSaysCardSaid : Prop := Claim7.holds Tryd.pinned (.plain (OpenSpec.ofChange nfaSaysSpec)) nfaSaysCard

/-- THE SECOND FORM's CARD OF 'letterbecklaw3.RegexSays'. -/
def regexSaysUptoCard : Claim7 := { stood := { row := regexSaysUptoRow, standIns := [], harness := (true, "16cffa3074cc41002a8ce4b7cfc18161a99a178f126a68ab6097ad780a982e14"), looks := true }, kinds := [], alts := [], laidByText := true, laidKinds := [.handle], laidTests := true, laidLooks := .later }
def RegexSaysUptoCardSaid : Prop := Claim7.holds Tryd.pinned (.plain (OpenSpec.upto regexSaysSpec)) regexSaysUptoCard

/-- THE SECOND FORM's CARD OF 'letterbecklaw3.RegexNull'. -/
def regexNullUptoCard : Claim7 := { stood := { row := regexNullUptoRow, standIns := [], harness := (true, "16cffa3074cc41002a8ce4b7cfc18161a99a178f126a68ab6097ad780a982e14"), looks := true }, kinds := [], alts := [], laidByText := true, laidKinds := [.handle], laidTests := true, laidLooks := .later }
def RegexNullUptoCardSaid : Prop := Claim7.holds Tryd.pinned (.plain (OpenSpec.upto regexNullSpec)) regexNullUptoCard

/-- THE SECOND FORM's CARD OF 'letterbecklaw3.RegexPattern'. -/
def regexPatternUptoCard : Claim7 := { stood := { row := regexPatternUptoRow, standIns := [], harness := (true, "16cffa3074cc41002a8ce4b7cfc18161a99a178f126a68ab6097ad780a982e14"), looks := true }, kinds := [], alts := [], laidByText := true, laidKinds := [.handle], laidTests := true, laidLooks := .later }
def RegexPatternUptoCardSaid : Prop := Claim7.holds Tryd.pinned (.plain (OpenSpec.upto regexPatternSpec)) regexPatternUptoCard

/-- THE SECOND FORM's CARD OF 'letterbecklaw3.RegexLetters'. -/
def regexLettersUptoCard : Claim7 := { stood := { row := regexLettersUptoRow, standIns := [], harness := (true, "16cffa3074cc41002a8ce4b7cfc18161a99a178f126a68ab6097ad780a982e14"), looks := true }, kinds := [], alts := [], laidByText := true, laidKinds := [.handle], laidTests := true, laidLooks := .later }
def RegexLettersUptoCardSaid : Prop := Claim7.holds Tryd.pinned (.plain (OpenSpec.upto regexLettersSpec)) regexLettersUptoCard

/-- THE SECOND FORM's CARD OF 'letterbecklaw3.NfaSays'. -/
def nfaSaysUptoCard : Claim7 := { stood := { row := nfaSaysUptoRow, standIns := [], harness := (true, "16cffa3074cc41002a8ce4b7cfc18161a99a178f126a68ab6097ad780a982e14"), looks := true }, kinds := [], alts := [], laidByText := true, laidKinds := [.handle], laidTests := true, laidLooks := .later }
def NfaSaysUptoCardSaid : Prop := Claim7.holds Tryd.pinned (.plain (OpenSpec.upto nfaSaysSpec)) nfaSaysUptoCard
end Rows
end Go.Proofs.YtpimpfejaookeaaDoor
