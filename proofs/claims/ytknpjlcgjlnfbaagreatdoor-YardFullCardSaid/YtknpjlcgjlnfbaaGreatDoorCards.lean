/-
  DERIVED. GIVEN WITH THE SEED: THE CARDS: each row of YtknpjlcgjlnfbaaGreatDoorRows.lean that lists a variable, with what it lists TIED to the program's text (the seventh form; the later family's looks); each row that meets fmt, with fmt's text TOLD by the authors' own Lean function (tested against real Go, not proved from fmt's source: count such statements apart). THE CARD IS WHAT COUNTS. Prove the row's statement (the work); the ties are given (YtknpjlcgjlnfbaaGreatDoorTie.lean); close each card by the builder's one call (the guide's Derived/Test/ToyasCard.lean, 'card_holds'). Laid BY PROGRAM, IN A SANDBOX (cutbox-door.mjs). By AI agents, Wed Nov 11 2026. No macro, syntax, notation, axiom, sorry.
-/
import Derived.Test.YtknpjlcgjlnfbaaGreatDoorRows
import GoSem.ClaimSeven
namespace Go.Proofs.YtknpjlcgjlnfbaaGreatDoor
namespace Rows

/-- THE TIED CARD OF 'careentop.TopHours'. -/
def topHoursCard : Claim7 := { stood := { row := topHoursRow, standIns := [], harness := (true, "dfb7ba1c9d92011f415833c644e22158602203b56f136b7504d70efe473cb057"), looks := true }, kinds := [], alts := [], laidByText := true, laidKinds := [.data, .data, .data, .data, .handle, .data, .sentinel, .sentinel, .data, .pinned], laidTests := true, laidLooks := .later }
def TopHoursCardSaid : Prop := Claim7.holds Tryz.pinned (.plain (OpenSpec.ofChange topHoursSpec)) topHoursCard

/-- THE TIED CARD OF 'careentop.TopSignals'. -/
def topSignalsCard : Claim7 := { stood := { row := topSignalsRow, standIns := [], harness := (true, "dfb7ba1c9d92011f415833c644e22158602203b56f136b7504d70efe473cb057"), looks := true }, kinds := [], alts := [], laidByText := true, laidKinds := [.data, .data, .data, .data, .handle, .data, .sentinel, .sentinel, .data, .pinned], laidTests := true, laidLooks := .later }
def TopSignalsCardSaid : Prop := Claim7.holds Tryz.pinned (.plain (OpenSpec.ofChange topSignalsSpec)) topSignalsCard

/-- THE TIED CARD OF 'careenlaw11.YardTurns'. -/
def yardTurnsCard : Claim7 := { stood := { row := yardTurnsRow, standIns := [], harness := (true, "dfb7ba1c9d92011f415833c644e22158602203b56f136b7504d70efe473cb057"), looks := true }, kinds := [], alts := [], laidByText := true, laidKinds := [.data, .data, .data, .data, .handle, .data, .sentinel, .sentinel, .data, .pinned], laidTests := true, laidLooks := .later }
def YardTurnsCardSaid : Prop := Claim7.holds Tryz.pinned (.plain (OpenSpec.ofChange yardTurnsSpec)) yardTurnsCard

/-- THE TIED CARD OF 'careenlaw11.YardFull'. -/
def yardFullCard : Claim7 := { stood := { row := yardFullRow, standIns := [], harness := (true, "dfb7ba1c9d92011f415833c644e22158602203b56f136b7504d70efe473cb057"), looks := true }, kinds := [], alts := [], laidByText := true, laidKinds := [.data, .data, .data, .data, .handle, .data, .sentinel, .sentinel, .data, .pinned], laidTests := true, laidLooks := .later }
def YardFullCardSaid : Prop := Claim7.holds Tryz.pinned (.plain (OpenSpec.ofChange yardFullSpec)) yardFullCard

/-- THE TIED CARD OF 'careenlaw11.YardPours'. -/
def yardPoursCard : Claim7 := { stood := { row := yardPoursRow, standIns := [], harness := (true, "dfb7ba1c9d92011f415833c644e22158602203b56f136b7504d70efe473cb057"), looks := true }, kinds := [], alts := [], laidByText := true, laidKinds := [.data, .data, .data, .data, .handle, .data, .sentinel, .sentinel, .data, .pinned], laidTests := true, laidLooks := .later }
def YardPoursCardSaid : Prop := Claim7.holds Tryz.pinned (.plain (OpenSpec.ofChange yardPoursSpec)) yardPoursCard

/-- THE TIED CARD OF 'careenlaw11.YardRefused'. -/
def yardRefusedCard : Claim7 := { stood := { row := yardRefusedRow, standIns := [], harness := (true, "dfb7ba1c9d92011f415833c644e22158602203b56f136b7504d70efe473cb057"), looks := true }, kinds := [], alts := [], laidByText := true, laidKinds := [.data, .data, .data, .data, .handle, .data, .sentinel, .sentinel, .data, .pinned], laidTests := true, laidLooks := .later }
def YardRefusedCardSaid : Prop := Claim7.holds Tryz.pinned (.plain (OpenSpec.ofChange yardRefusedSpec)) yardRefusedCard

/-- THE TIED CARD OF 'careenlaw11.YardBooks'. -/
def yardBooksCard : Claim7 := { stood := { row := yardBooksRow, standIns := [], harness := (true, "dfb7ba1c9d92011f415833c644e22158602203b56f136b7504d70efe473cb057"), looks := true }, kinds := [], alts := [], laidByText := true, laidKinds := [.data, .data, .data, .data, .handle, .data, .sentinel, .sentinel, .data, .pinned], laidTests := true, laidLooks := .later }
def YardBooksCardSaid : Prop := Claim7.holds Tryz.pinned (.plain (OpenSpec.ofChange yardBooksSpec)) yardBooksCard

/-- THE TIED CARD OF 'careentop.TopSteers'. -/
def topSteersCard : Claim7 := { stood := { row := topSteersRow, standIns := [], harness := (true, "dfb7ba1c9d92011f415833c644e22158602203b56f136b7504d70efe473cb057"), looks := true }, kinds := [], alts := [], laidByText := true, laidKinds := [.data, .data, .data, .data, .handle, .data, .data, .sentinel, .sentinel, .data, .pinned], laidTests := true, laidLooks := .later }
def TopSteersCardSaid : Prop := Claim7.holds Tryz.pinned (.plain (OpenSpec.ofChange topSteersSpec)) topSteersCard

/-- THE TIED CARD OF 'careentop.TopBasins'. -/
def topBasinsCard : Claim7 := { stood := { row := topBasinsRow, standIns := [], harness := (true, "dfb7ba1c9d92011f415833c644e22158602203b56f136b7504d70efe473cb057"), looks := true }, kinds := [], alts := [], laidByText := true, laidKinds := [.data, .data, .data, .data, .handle, .data, .sentinel, .sentinel, .data, .pinned], laidTests := true, laidLooks := .later }
def TopBasinsCardSaid : Prop := Claim7.holds Tryz.pinned (.plain (OpenSpec.ofChange topBasinsSpec)) topBasinsCard

/-- THE TIED CARD OF 'careentop.TopMeasures'. -/
def topMeasuresCard : Claim7 := { stood := { row := topMeasuresRow, standIns := [], harness := (true, "dfb7ba1c9d92011f415833c644e22158602203b56f136b7504d70efe473cb057"), looks := true }, kinds := [], alts := [], laidByText := true, laidKinds := [.data, .data, .data, .data, .handle, .data, .sentinel, .sentinel, .data, .pinned], laidTests := true, laidLooks := .later }
def TopMeasuresCardSaid : Prop := Claim7.holds Tryz.pinned (.plain (OpenSpec.ofChange topMeasuresSpec)) topMeasuresCard

/-- THE SECOND FORM's CARD OF 'careentop.TopHours'. -/
def topHoursUptoCard : Claim7 := { stood := { row := topHoursUptoRow, standIns := [], harness := (true, "dfb7ba1c9d92011f415833c644e22158602203b56f136b7504d70efe473cb057"), looks := true }, kinds := [], alts := [], laidByText := true, laidKinds := [.data, .data, .data, .data, .handle, .data, .sentinel, .sentinel, .data, .pinned], laidTests := true, laidLooks := .later }
def TopHoursUptoCardSaid : Prop := Claim7.holds Tryz.pinned (.plain (OpenSpec.upto topHoursSpec)) topHoursUptoCard

/-- THE SECOND FORM's CARD OF 'careentop.TopSignals'. -/
def topSignalsUptoCard : Claim7 := { stood := { row := topSignalsUptoRow, standIns := [], harness := (true, "dfb7ba1c9d92011f415833c644e22158602203b56f136b7504d70efe473cb057"), looks := true }, kinds := [], alts := [], laidByText := true, laidKinds := [.data, .data, .data, .data, .handle, .data, .sentinel, .sentinel, .data, .pinned], laidTests := true, laidLooks := .later }
def TopSignalsUptoCardSaid : Prop := Claim7.holds Tryz.pinned (.plain (OpenSpec.upto topSignalsSpec)) topSignalsUptoCard

/-- THE SECOND FORM's CARD OF 'careenlaw11.YardTurns'. -/
def yardTurnsUptoCard : Claim7 := { stood := { row := yardTurnsUptoRow, standIns := [], harness := (true, "dfb7ba1c9d92011f415833c644e22158602203b56f136b7504d70efe473cb057"), looks := true }, kinds := [], alts := [], laidByText := true, laidKinds := [.data, .data, .data, .data, .handle, .data, .sentinel, .sentinel, .data, .pinned], laidTests := true, laidLooks := .later }
def YardTurnsUptoCardSaid : Prop := Claim7.holds Tryz.pinned (.plain (OpenSpec.upto yardTurnsSpec)) yardTurnsUptoCard

/-- THE SECOND FORM's CARD OF 'careenlaw11.YardFull'. -/
def yardFullUptoCard : Claim7 := { stood := { row := yardFullUptoRow, standIns := [], harness := (true, "dfb7ba1c9d92011f415833c644e22158602203b56f136b7504d70efe473cb057"), looks := true }, kinds := [], alts := [], laidByText := true, laidKinds := [.data, .data, .data, .data, .handle, .data, .sentinel, .sentinel, .data, .pinned], laidTests := true, laidLooks := .later }
def YardFullUptoCardSaid : Prop := Claim7.holds Tryz.pinned (.plain (OpenSpec.upto yardFullSpec)) yardFullUptoCard

/-- THE SECOND FORM's CARD OF 'careenlaw11.YardPours'. -/
def yardPoursUptoCard : Claim7 := { stood := { row := yardPoursUptoRow, standIns := [], harness := (true, "dfb7ba1c9d92011f415833c644e22158602203b56f136b7504d70efe473cb057"), looks := true }, kinds := [], alts := [], laidByText := true, laidKinds := [.data, .data, .data, .data, .handle, .data, .sentinel, .sentinel, .data, .pinned], laidTests := true, laidLooks := .later }
def YardPoursUptoCardSaid : Prop := Claim7.holds Tryz.pinned (.plain (OpenSpec.upto yardPoursSpec)) yardPoursUptoCard

/-- THE SECOND FORM's CARD OF 'careenlaw11.YardRefused'. -/
def yardRefusedUptoCard : Claim7 := { stood := { row := yardRefusedUptoRow, standIns := [], harness := (true, "dfb7ba1c9d92011f415833c644e22158602203b56f136b7504d70efe473cb057"), looks := true }, kinds := [], alts := [], laidByText := true, laidKinds := [.data, .data, .data, .data, .handle, .data, .sentinel, .sentinel, .data, .pinned], laidTests := true, laidLooks := .later }
def YardRefusedUptoCardSaid : Prop := Claim7.holds Tryz.pinned (.plain (OpenSpec.upto yardRefusedSpec)) yardRefusedUptoCard

/-- THE SECOND FORM's CARD OF 'careenlaw11.YardBooks'. -/
def yardBooksUptoCard : Claim7 := { stood := { row := yardBooksUptoRow, standIns := [], harness := (true, "dfb7ba1c9d92011f415833c644e22158602203b56f136b7504d70efe473cb057"), looks := true }, kinds := [], alts := [], laidByText := true, laidKinds := [.data, .data, .data, .data, .handle, .data, .sentinel, .sentinel, .data, .pinned], laidTests := true, laidLooks := .later }
def YardBooksUptoCardSaid : Prop := Claim7.holds Tryz.pinned (.plain (OpenSpec.upto yardBooksSpec)) yardBooksUptoCard

/-- THE SECOND FORM's CARD OF 'careentop.TopSteers'. -/
def topSteersUptoCard : Claim7 := { stood := { row := topSteersUptoRow, standIns := [], harness := (true, "dfb7ba1c9d92011f415833c644e22158602203b56f136b7504d70efe473cb057"), looks := true }, kinds := [], alts := [], laidByText := true, laidKinds := [.data, .data, .data, .data, .handle, .data, .data, .sentinel, .sentinel, .data, .pinned], laidTests := true, laidLooks := .later }
def TopSteersUptoCardSaid : Prop := Claim7.holds Tryz.pinned (.plain (OpenSpec.upto topSteersSpec)) topSteersUptoCard

/-- THE SECOND FORM's CARD OF 'careentop.TopBasins'. -/
def topBasinsUptoCard : Claim7 := { stood := { row := topBasinsUptoRow, standIns := [], harness := (true, "dfb7ba1c9d92011f415833c644e22158602203b56f136b7504d70efe473cb057"), looks := true }, kinds := [], alts := [], laidByText := true, laidKinds := [.data, .data, .data, .data, .handle, .data, .sentinel, .sentinel, .data, .pinned], laidTests := true, laidLooks := .later }
def TopBasinsUptoCardSaid : Prop := Claim7.holds Tryz.pinned (.plain (OpenSpec.upto topBasinsSpec)) topBasinsUptoCard

/-- THE SECOND FORM's CARD OF 'careentop.TopMeasures'. -/
def topMeasuresUptoCard : Claim7 := { stood := { row := topMeasuresUptoRow, standIns := [], harness := (true, "dfb7ba1c9d92011f415833c644e22158602203b56f136b7504d70efe473cb057"), looks := true }, kinds := [], alts := [], laidByText := true, laidKinds := [.data, .data, .data, .data, .handle, .data, .sentinel, .sentinel, .data, .pinned], laidTests := true, laidLooks := .later }
def TopMeasuresUptoCardSaid : Prop := Claim7.holds Tryz.pinned (.plain (OpenSpec.upto topMeasuresSpec)) topMeasuresUptoCard
end Rows
end Go.Proofs.YtknpjlcgjlnfbaaGreatDoor
