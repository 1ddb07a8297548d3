/-
  DERIVED. GIVEN WITH THE SEED: THE CARDS: each row of YtliggpbmaijfjaaGreatDoorRows.lean that lists a variable, with what it lists TIED to the program's text (the seventh form; the later family's looks); each row that meets fmt, with fmt's text TOLD by the authors' own Lean function (tested against real Go, not proved from fmt's source: count such statements apart). THE CARD IS WHAT COUNTS. Prove the row's statement (the work); the ties are given (YtliggpbmaijfjaaGreatDoorTie.lean); close each card by the builder's one call (the guide's Derived/Test/ToyasCard.lean, 'card_holds'). Laid BY PROGRAM, IN A SANDBOX (cutbox-door.mjs). By AI agents, Wed Nov 11 2026. No macro, syntax, notation, axiom, sorry.
-/
import Derived.Test.YtliggpbmaijfjaaGreatDoorRows
import GoSem.ClaimSeven
namespace Go.Proofs.YtliggpbmaijfjaaGreatDoor
namespace Rows

/-- THE TIED CARD OF 'careentop.TopHours'. -/
def topHoursCard : Claim7 := { stood := { row := topHoursRow, standIns := [], harness := (true, "cf8af8524f17020b7a2740822d24296d07db4ca6ddf31042f4f81f7215a6c6fb"), looks := true }, kinds := [], alts := [], laidByText := true, laidKinds := [.data, .data, .data, .data, .handle, .data, .sentinel, .sentinel, .data, .pinned], laidTests := true, laidLooks := .later }
def TopHoursCardSaid : Prop := Claim7.holds Tryz.pinned (.plain (OpenSpec.ofChange topHoursSpec)) topHoursCard

/-- THE TIED CARD OF 'careenlaw11.YardFull'. -/
def yardFullCard : Claim7 := { stood := { row := yardFullRow, standIns := [], harness := (true, "cf8af8524f17020b7a2740822d24296d07db4ca6ddf31042f4f81f7215a6c6fb"), looks := true }, kinds := [], alts := [], laidByText := true, laidKinds := [.data, .data, .data, .data, .handle, .data, .sentinel, .sentinel, .data, .pinned], laidTests := true, laidLooks := .later }
def YardFullCardSaid : Prop := Claim7.holds Tryz.pinned (.plain (OpenSpec.ofChange yardFullSpec)) yardFullCard

/-- THE TIED CARD OF 'careenlaw11.YardVoid'. -/
def yardVoidCard : Claim7 := { stood := { row := yardVoidRow, standIns := [], harness := (true, "cf8af8524f17020b7a2740822d24296d07db4ca6ddf31042f4f81f7215a6c6fb"), looks := true }, kinds := [], alts := [], laidByText := true, laidKinds := [.data, .data, .data, .data, .handle, .data, .sentinel, .sentinel, .data, .pinned], laidTests := true, laidLooks := .later }
def YardVoidCardSaid : Prop := Claim7.holds Tryz.pinned (.plain (OpenSpec.ofChange yardVoidSpec)) yardVoidCard

/-- THE SECOND FORM's CARD OF 'careentop.TopHours'. -/
def topHoursUptoCard : Claim7 := { stood := { row := topHoursUptoRow, standIns := [], harness := (true, "cf8af8524f17020b7a2740822d24296d07db4ca6ddf31042f4f81f7215a6c6fb"), looks := true }, kinds := [], alts := [], laidByText := true, laidKinds := [.data, .data, .data, .data, .handle, .data, .sentinel, .sentinel, .data, .pinned], laidTests := true, laidLooks := .later }
def TopHoursUptoCardSaid : Prop := Claim7.holds Tryz.pinned (.plain (OpenSpec.upto topHoursSpec)) topHoursUptoCard

/-- THE SECOND FORM's CARD OF 'careenlaw11.YardFull'. -/
def yardFullUptoCard : Claim7 := { stood := { row := yardFullUptoRow, standIns := [], harness := (true, "cf8af8524f17020b7a2740822d24296d07db4ca6ddf31042f4f81f7215a6c6fb"), looks := true }, kinds := [], alts := [], laidByText := true, laidKinds := [.data, .data, .data, .data, .handle, .data, .sentinel, .sentinel, .data, .pinned], laidTests := true, laidLooks := .later }
def YardFullUptoCardSaid : Prop := Claim7.holds Tryz.pinned (.plain (OpenSpec.upto yardFullSpec)) yardFullUptoCard

/-- THE SECOND FORM's CARD OF 'careenlaw11.YardVoid'. -/
def yardVoidUptoCard : Claim7 := { stood := { row := yardVoidUptoRow, standIns := [], harness := (true, "cf8af8524f17020b7a2740822d24296d07db4ca6ddf31042f4f81f7215a6c6fb"), looks := true }, kinds := [], alts := [], laidByText := true, laidKinds := [.data, .data, .data, .data, .handle, .data, .sentinel, .sentinel, .data, .pinned], laidTests := true, laidLooks := .later }
def YardVoidUptoCardSaid : Prop := Claim7.holds Tryz.pinned (.plain (OpenSpec.upto yardVoidSpec)) yardVoidUptoCard
end Rows
end Go.Proofs.YtliggpbmaijfjaaGreatDoor
