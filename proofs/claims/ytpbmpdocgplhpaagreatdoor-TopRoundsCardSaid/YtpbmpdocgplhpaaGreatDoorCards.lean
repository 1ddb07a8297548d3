/-
  DERIVED. GIVEN WITH THE SEED: THE CARDS: each row of YtpbmpdocgplhpaaGreatDoorRows.lean that lists a variable, with what it lists TIED to the program's text (the seventh form; the later family's looks); each row that meets fmt, with fmt's text TOLD by the authors' own Lean function (tested against real Go, not proved from fmt's source: count such statements apart). THE CARD IS WHAT COUNTS. Prove the row's statement (the work); the ties are given (YtpbmpdocgplhpaaGreatDoorTie.lean); close each card by the builder's one call (the guide's Derived/Test/ToyasCard.lean, 'card_holds'). Laid BY PROGRAM, IN A SANDBOX (cutbox-door.mjs). By AI agents, Wed Nov 11 2026. No macro, syntax, notation, axiom, sorry.
-/
import Derived.Test.YtpbmpdocgplhpaaGreatDoorRows
import GoSem.ClaimSeven
namespace Go.Proofs.YtpbmpdocgplhpaaGreatDoor
namespace Rows

/-- THE TIED CARD OF 'careentop.TopRounds'. -/
def topRoundsCard : Claim7 := { stood := { row := topRoundsRow, standIns := [], harness := (true, "23596eb0e726ffba9c227750d3466b8ea170c892a7febec1270e57a4683a909e"), looks := false }, kinds := [], alts := [], laidByText := true, laidKinds := [.data, .data, .data, .pinned], laidTests := true, laidLooks := .later }
def TopRoundsCardSaid : Prop := Claim7.holds Tryz.pinned (.plain (OpenSpec.ofChange topRoundsSpec)) topRoundsCard

/-- THE TIED CARD OF 'careenlaw06.FlagMakes'. -/
def flagMakesCard : Claim7 := { stood := { row := flagMakesRow, standIns := [], harness := (true, "23596eb0e726ffba9c227750d3466b8ea170c892a7febec1270e57a4683a909e"), looks := false }, kinds := [], alts := [], laidByText := true, laidKinds := [.data, .data, .pinned], laidTests := true, laidLooks := .later }
def FlagMakesCardSaid : Prop := Claim7.holds Tryz.pinned (.plain (OpenSpec.ofChange flagMakesSpec)) flagMakesCard

/-- THE SECOND FORM's CARD OF 'careentop.TopRounds'. -/
def topRoundsUptoCard : Claim7 := { stood := { row := topRoundsUptoRow, standIns := [], harness := (true, "23596eb0e726ffba9c227750d3466b8ea170c892a7febec1270e57a4683a909e"), looks := false }, kinds := [], alts := [], laidByText := true, laidKinds := [.data, .data, .data, .pinned], laidTests := true, laidLooks := .later }
def TopRoundsUptoCardSaid : Prop := Claim7.holds Tryz.pinned (.plain (OpenSpec.upto topRoundsSpec)) topRoundsUptoCard

/-- THE SECOND FORM's CARD OF 'careenlaw06.FlagMakes'. -/
def flagMakesUptoCard : Claim7 := { stood := { row := flagMakesUptoRow, standIns := [], harness := (true, "23596eb0e726ffba9c227750d3466b8ea170c892a7febec1270e57a4683a909e"), looks := false }, kinds := [], alts := [], laidByText := true, laidKinds := [.data, .data, .pinned], laidTests := true, laidLooks := .later }
def FlagMakesUptoCardSaid : Prop := Claim7.holds Tryz.pinned (.plain (OpenSpec.upto flagMakesSpec)) flagMakesUptoCard
end Rows
end Go.Proofs.YtpbmpdocgplhpaaGreatDoor
