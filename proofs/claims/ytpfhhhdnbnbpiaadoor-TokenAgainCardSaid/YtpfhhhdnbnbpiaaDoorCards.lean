/-
  DERIVED. GIVEN WITH THE SEED: THE CARDS: each row of YtpfhhhdnbnbpiaaDoorRows.lean that lists a variable, with what it lists TIED to the program's text (the seventh form; the later family's looks); each row that meets fmt, with fmt's text TOLD by the authors' own Lean function (tested against real Go, not proved from fmt's source: count such statements apart). THE CARD IS WHAT COUNTS. Prove the row's statement (the work); the ties are given (YtpfhhhdnbnbpiaaDoorTie.lean); close each card by the builder's one call (the guide's Derived/Test/ToyasCard.lean, 'card_holds'). Laid BY PROGRAM, IN A SANDBOX (cutbox-door.mjs). By AI agents, Wed Nov 11 2026. No macro, syntax, notation, axiom, sorry.
-/
import Derived.Test.YtpfhhhdnbnbpiaaDoorRows
import GoSem.ClaimSeven
namespace Go.Proofs.YtpfhhhdnbnbpiaaDoor
namespace Rows

/-- THE TIED CARD OF 'boxhedgelaw02.TokenTokens'. -/
def tokenTokensCard : Claim7 := { stood := { row := tokenTokensRow, standIns := [], harness := (true, "8bd40d602eae11cd4bc21dfe23cccaafbc321e6e582c1a6f42ed3d0251fd34a9"), looks := true }, kinds := [], alts := [], laidByText := true, laidKinds := [.data, .data, .data, .sentinel, .sentinel], laidTests := true, laidLooks := .later }
def TokenTokensCardSaid : Prop := Claim7.holds Tryd.pinned (.plain (OpenSpec.ofChange tokenTokensSpec)) tokenTokensCard

/-- THE TIED CARD OF 'boxhedgelaw02.TokenSmall'. -/
def tokenSmallCard : Claim7 := { stood := { row := tokenSmallRow, standIns := [], harness := (true, "8bd40d602eae11cd4bc21dfe23cccaafbc321e6e582c1a6f42ed3d0251fd34a9"), looks := true }, kinds := [], alts := [], laidByText := true, laidKinds := [.data, .data, .data, .sentinel, .sentinel], laidTests := true, laidLooks := .later }
def TokenSmallCardSaid : Prop := Claim7.holds Tryd.pinned (.plain (OpenSpec.ofChange tokenSmallSpec)) tokenSmallCard

/-- THE TIED CARD OF 'boxhedgelaw02.TokenNames'. -/
def tokenNamesCard : Claim7 := { stood := { row := tokenNamesRow, standIns := [], harness := (true, "8bd40d602eae11cd4bc21dfe23cccaafbc321e6e582c1a6f42ed3d0251fd34a9"), looks := true }, kinds := [], alts := [], laidByText := true, laidKinds := [.data, .data, .data, .sentinel, .sentinel], laidTests := true, laidLooks := .later }
def TokenNamesCardSaid : Prop := Claim7.holds Tryd.pinned (.plain (OpenSpec.ofChange tokenNamesSpec)) tokenNamesCard

/-- THE TIED CARD OF 'boxhedgelaw02.TokenAgain'. -/
def tokenAgainCard : Claim7 := { stood := { row := tokenAgainRow, standIns := [], harness := (true, "8bd40d602eae11cd4bc21dfe23cccaafbc321e6e582c1a6f42ed3d0251fd34a9"), looks := true }, kinds := [], alts := [], laidByText := true, laidKinds := [.data, .data, .data, .sentinel, .sentinel], laidTests := true, laidLooks := .later }
def TokenAgainCardSaid : Prop := Claim7.holds Tryd.pinned (.plain (OpenSpec.ofChange tokenAgainSpec)) tokenAgainCard

/-- THE TIED CARD OF 'boxhedgelaw02.TokenBetween'. -/
def tokenBetweenCard : Claim7 := { stood := { row := tokenBetweenRow, standIns := [], harness := (true, "8bd40d602eae11cd4bc21dfe23cccaafbc321e6e582c1a6f42ed3d0251fd34a9"), looks := true }, kinds := [], alts := [], laidByText := true, laidKinds := [.data, .data, .data, .sentinel, .sentinel], laidTests := true, laidLooks := .later }
def TokenBetweenCardSaid : Prop := Claim7.holds Tryd.pinned (.plain (OpenSpec.ofChange tokenBetweenSpec)) tokenBetweenCard

/-- THE SECOND FORM's CARD OF 'boxhedgelaw02.TokenTokens'. -/
def tokenTokensUptoCard : Claim7 := { stood := { row := tokenTokensUptoRow, standIns := [], harness := (true, "8bd40d602eae11cd4bc21dfe23cccaafbc321e6e582c1a6f42ed3d0251fd34a9"), looks := true }, kinds := [], alts := [], laidByText := true, laidKinds := [.data, .data, .data, .sentinel, .sentinel], laidTests := true, laidLooks := .later }
def TokenTokensUptoCardSaid : Prop := Claim7.holds Tryd.pinned (.plain (OpenSpec.upto tokenTokensSpec)) tokenTokensUptoCard

/-- THE SECOND FORM's CARD OF 'boxhedgelaw02.TokenSmall'. -/
def tokenSmallUptoCard : Claim7 := { stood := { row := tokenSmallUptoRow, standIns := [], harness := (true, "8bd40d602eae11cd4bc21dfe23cccaafbc321e6e582c1a6f42ed3d0251fd34a9"), looks := true }, kinds := [], alts := [], laidByText := true, laidKinds := [.data, .data, .data, .sentinel, .sentinel], laidTests := true, laidLooks := .later }
def TokenSmallUptoCardSaid : Prop := Claim7.holds Tryd.pinned (.plain (OpenSpec.upto tokenSmallSpec)) tokenSmallUptoCard

/-- THE SECOND FORM's CARD OF 'boxhedgelaw02.TokenNames'. -/
def tokenNamesUptoCard : Claim7 := { stood := { row := tokenNamesUptoRow, standIns := [], harness := (true, "8bd40d602eae11cd4bc21dfe23cccaafbc321e6e582c1a6f42ed3d0251fd34a9"), looks := true }, kinds := [], alts := [], laidByText := true, laidKinds := [.data, .data, .data, .sentinel, .sentinel], laidTests := true, laidLooks := .later }
def TokenNamesUptoCardSaid : Prop := Claim7.holds Tryd.pinned (.plain (OpenSpec.upto tokenNamesSpec)) tokenNamesUptoCard

/-- THE SECOND FORM's CARD OF 'boxhedgelaw02.TokenAgain'. -/
def tokenAgainUptoCard : Claim7 := { stood := { row := tokenAgainUptoRow, standIns := [], harness := (true, "8bd40d602eae11cd4bc21dfe23cccaafbc321e6e582c1a6f42ed3d0251fd34a9"), looks := true }, kinds := [], alts := [], laidByText := true, laidKinds := [.data, .data, .data, .sentinel, .sentinel], laidTests := true, laidLooks := .later }
def TokenAgainUptoCardSaid : Prop := Claim7.holds Tryd.pinned (.plain (OpenSpec.upto tokenAgainSpec)) tokenAgainUptoCard

/-- THE SECOND FORM's CARD OF 'boxhedgelaw02.TokenBetween'. -/
def tokenBetweenUptoCard : Claim7 := { stood := { row := tokenBetweenUptoRow, standIns := [], harness := (true, "8bd40d602eae11cd4bc21dfe23cccaafbc321e6e582c1a6f42ed3d0251fd34a9"), looks := true }, kinds := [], alts := [], laidByText := true, laidKinds := [.data, .data, .data, .sentinel, .sentinel], laidTests := true, laidLooks := .later }
def TokenBetweenUptoCardSaid : Prop := Claim7.holds Tryd.pinned (.plain (OpenSpec.upto tokenBetweenSpec)) tokenBetweenUptoCard
end Rows
end Go.Proofs.YtpfhhhdnbnbpiaaDoor
