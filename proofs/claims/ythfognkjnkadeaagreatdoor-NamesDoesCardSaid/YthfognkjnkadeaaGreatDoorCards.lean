/-
  DERIVED. GIVEN WITH THE SEED: THE CARDS: each row of YthfognkjnkadeaaGreatDoorRows.lean that lists a variable, with what it lists TIED to the program's text (the seventh form; the later family's looks); each row that meets fmt, with fmt's text TOLD by the authors' own Lean function (tested against real Go, not proved from fmt's source: count such statements apart). THE CARD IS WHAT COUNTS. Prove the row's statement (the work); the ties are given (YthfognkjnkadeaaGreatDoorTie.lean); close each card by the builder's one call (the guide's Derived/Test/ToyasCard.lean, 'card_holds'). Laid BY PROGRAM, IN A SANDBOX (cutbox-door.mjs). By AI agents, Wed Nov 11 2026. No macro, syntax, notation, axiom, sorry.
-/
import Derived.Test.YthfognkjnkadeaaGreatDoorRows
import GoSem.ClaimSeven
namespace Go.Proofs.YthfognkjnkadeaaGreatDoor
namespace Rows

/-- THE TIED CARD OF 'boxhedgelaw20.NamesNames'. -/
def namesNamesCard : Claim7 := { stood := { row := namesNamesRow, standIns := [], harness := (true, "df303b372346171d551181a668d0e0c5e5453922e63d56834b6f3665fff0dcc1"), looks := true }, kinds := [], alts := [], laidByText := true, laidKinds := [.data, .data, .data, .sentinel, .sentinel], laidTests := true, laidLooks := .later }
def NamesNamesCardSaid : Prop := Claim7.holds Tryz.pinned (.plain (OpenSpec.ofChange namesNamesSpec)) namesNamesCard

/-- THE TIED CARD OF 'boxhedgelaw20.NamesGood'. -/
def namesGoodCard : Claim7 := { stood := { row := namesGoodRow, standIns := [], harness := (true, "df303b372346171d551181a668d0e0c5e5453922e63d56834b6f3665fff0dcc1"), looks := true }, kinds := [], alts := [], laidByText := true, laidKinds := [.data, .data, .data, .sentinel, .sentinel], laidTests := true, laidLooks := .later }
def NamesGoodCardSaid : Prop := Claim7.holds Tryz.pinned (.plain (OpenSpec.ofChange namesGoodSpec)) namesGoodCard

/-- THE TIED CARD OF 'boxhedgelaw20.NamesDoes'. -/
def namesDoesCard : Claim7 := { stood := { row := namesDoesRow, standIns := [], harness := (true, "df303b372346171d551181a668d0e0c5e5453922e63d56834b6f3665fff0dcc1"), looks := true }, kinds := [], alts := [], laidByText := true, laidKinds := [.data, .data, .data, .sentinel, .sentinel], laidTests := true, laidLooks := .later }
def NamesDoesCardSaid : Prop := Claim7.holds Tryz.pinned (.plain (OpenSpec.ofChange namesDoesSpec)) namesDoesCard

/-- THE TIED CARD OF 'boxhedgelaw20.NamesApart'. -/
def namesApartCard : Claim7 := { stood := { row := namesApartRow, standIns := [], harness := (true, "df303b372346171d551181a668d0e0c5e5453922e63d56834b6f3665fff0dcc1"), looks := true }, kinds := [], alts := [], laidByText := true, laidKinds := [.data, .data, .data, .sentinel, .sentinel], laidTests := true, laidLooks := .later }
def NamesApartCardSaid : Prop := Claim7.holds Tryz.pinned (.plain (OpenSpec.ofChange namesApartSpec)) namesApartCard

/-- THE TIED CARD OF 'boxhedgelaw20.NamesLoops'. -/
def namesLoopsCard : Claim7 := { stood := { row := namesLoopsRow, standIns := [], harness := (true, "df303b372346171d551181a668d0e0c5e5453922e63d56834b6f3665fff0dcc1"), looks := true }, kinds := [], alts := [], laidByText := true, laidKinds := [.data, .data, .data, .sentinel, .sentinel], laidTests := true, laidLooks := .later }
def NamesLoopsCardSaid : Prop := Claim7.holds Tryz.pinned (.plain (OpenSpec.ofChange namesLoopsSpec)) namesLoopsCard

/-- THE SECOND FORM's CARD OF 'boxhedgelaw20.NamesNames'. -/
def namesNamesUptoCard : Claim7 := { stood := { row := namesNamesUptoRow, standIns := [], harness := (true, "df303b372346171d551181a668d0e0c5e5453922e63d56834b6f3665fff0dcc1"), looks := true }, kinds := [], alts := [], laidByText := true, laidKinds := [.data, .data, .data, .sentinel, .sentinel], laidTests := true, laidLooks := .later }
def NamesNamesUptoCardSaid : Prop := Claim7.holds Tryz.pinned (.plain (OpenSpec.upto namesNamesSpec)) namesNamesUptoCard

/-- THE SECOND FORM's CARD OF 'boxhedgelaw20.NamesGood'. -/
def namesGoodUptoCard : Claim7 := { stood := { row := namesGoodUptoRow, standIns := [], harness := (true, "df303b372346171d551181a668d0e0c5e5453922e63d56834b6f3665fff0dcc1"), looks := true }, kinds := [], alts := [], laidByText := true, laidKinds := [.data, .data, .data, .sentinel, .sentinel], laidTests := true, laidLooks := .later }
def NamesGoodUptoCardSaid : Prop := Claim7.holds Tryz.pinned (.plain (OpenSpec.upto namesGoodSpec)) namesGoodUptoCard

/-- THE SECOND FORM's CARD OF 'boxhedgelaw20.NamesDoes'. -/
def namesDoesUptoCard : Claim7 := { stood := { row := namesDoesUptoRow, standIns := [], harness := (true, "df303b372346171d551181a668d0e0c5e5453922e63d56834b6f3665fff0dcc1"), looks := true }, kinds := [], alts := [], laidByText := true, laidKinds := [.data, .data, .data, .sentinel, .sentinel], laidTests := true, laidLooks := .later }
def NamesDoesUptoCardSaid : Prop := Claim7.holds Tryz.pinned (.plain (OpenSpec.upto namesDoesSpec)) namesDoesUptoCard

/-- THE SECOND FORM's CARD OF 'boxhedgelaw20.NamesApart'. -/
def namesApartUptoCard : Claim7 := { stood := { row := namesApartUptoRow, standIns := [], harness := (true, "df303b372346171d551181a668d0e0c5e5453922e63d56834b6f3665fff0dcc1"), looks := true }, kinds := [], alts := [], laidByText := true, laidKinds := [.data, .data, .data, .sentinel, .sentinel], laidTests := true, laidLooks := .later }
def NamesApartUptoCardSaid : Prop := Claim7.holds Tryz.pinned (.plain (OpenSpec.upto namesApartSpec)) namesApartUptoCard

/-- THE SECOND FORM's CARD OF 'boxhedgelaw20.NamesLoops'. -/
def namesLoopsUptoCard : Claim7 := { stood := { row := namesLoopsUptoRow, standIns := [], harness := (true, "df303b372346171d551181a668d0e0c5e5453922e63d56834b6f3665fff0dcc1"), looks := true }, kinds := [], alts := [], laidByText := true, laidKinds := [.data, .data, .data, .sentinel, .sentinel], laidTests := true, laidLooks := .later }
def NamesLoopsUptoCardSaid : Prop := Claim7.holds Tryz.pinned (.plain (OpenSpec.upto namesLoopsSpec)) namesLoopsUptoCard
end Rows
end Go.Proofs.YthfognkjnkadeaaGreatDoor
