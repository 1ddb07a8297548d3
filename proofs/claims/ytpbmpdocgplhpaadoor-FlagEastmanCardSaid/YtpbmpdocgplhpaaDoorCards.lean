/-
  DERIVED. GIVEN WITH THE SEED: THE CARDS: each row of YtpbmpdocgplhpaaDoorRows.lean that lists a variable, with what it lists TIED to the program's text (the seventh form; the later family's looks); each row that meets fmt, with fmt's text TOLD by the authors' own Lean function (tested against real Go, not proved from fmt's source: count such statements apart). THE CARD IS WHAT COUNTS. Prove the row's statement (the work); the ties are given (YtpbmpdocgplhpaaDoorTie.lean); close each card by the builder's one call (the guide's Derived/Test/ToyasCard.lean, 'card_holds'). Laid BY PROGRAM, IN A SANDBOX (cutbox-door.mjs). By AI agents, Wed Nov 11 2026. No macro, syntax, notation, axiom, sorry.
-/
import Derived.Test.YtpbmpdocgplhpaaDoorRows
import GoSem.ClaimSeven
namespace Go.Proofs.YtpbmpdocgplhpaaDoor
namespace Rows

/-- THE TIED CARD OF 'careenlaw06.FlagRings'. -/
def flagRingsCard : Claim7 := { stood := { row := flagRingsRow, standIns := [], harness := (true, "cd98a4bcc7b55bd8347545adfff15aa9b972ed9eb9b0b0d13f50d90c5498f1e3"), looks := false }, kinds := [], alts := [], laidByText := true, laidKinds := [.data, .data, .pinned], laidTests := true, laidLooks := .later }
def FlagRingsCardSaid : Prop := Claim7.holds Tryd.pinned (.plain (OpenSpec.ofChange flagRingsSpec)) flagRingsCard

/-- THE TIED CARD OF 'careenlaw06.FlagReads'. -/
def flagReadsCard : Claim7 := { stood := { row := flagReadsRow, standIns := [], harness := (true, "cd98a4bcc7b55bd8347545adfff15aa9b972ed9eb9b0b0d13f50d90c5498f1e3"), looks := false }, kinds := [], alts := [], laidByText := true, laidKinds := [.data, .data, .pinned], laidTests := true, laidLooks := .later }
def FlagReadsCardSaid : Prop := Claim7.holds Tryd.pinned (.plain (OpenSpec.ofChange flagReadsSpec)) flagReadsCard

/-- THE TIED CARD OF 'careenlaw06.FlagDecodes'. -/
def flagDecodesCard : Claim7 := { stood := { row := flagDecodesRow, standIns := [], harness := (true, "cd98a4bcc7b55bd8347545adfff15aa9b972ed9eb9b0b0d13f50d90c5498f1e3"), looks := false }, kinds := [], alts := [], laidByText := true, laidKinds := [.data, .data, .pinned], laidTests := true, laidLooks := .later }
def FlagDecodesCardSaid : Prop := Claim7.holds Tryd.pinned (.plain (OpenSpec.ofChange flagDecodesSpec)) flagDecodesCard

/-- THE TIED CARD OF 'careenlaw06.FlagGolomb'. -/
def flagGolombCard : Claim7 := { stood := { row := flagGolombRow, standIns := [], harness := (true, "cd98a4bcc7b55bd8347545adfff15aa9b972ed9eb9b0b0d13f50d90c5498f1e3"), looks := false }, kinds := [], alts := [], laidByText := true, laidKinds := [.data, .data, .pinned], laidTests := true, laidLooks := .later }
def FlagGolombCardSaid : Prop := Claim7.holds Tryd.pinned (.plain (OpenSpec.ofChange flagGolombSpec)) flagGolombCard

/-- THE TIED CARD OF 'careenlaw06.FlagTwos'. -/
def flagTwosCard : Claim7 := { stood := { row := flagTwosRow, standIns := [], harness := (true, "cd98a4bcc7b55bd8347545adfff15aa9b972ed9eb9b0b0d13f50d90c5498f1e3"), looks := false }, kinds := [], alts := [], laidByText := true, laidKinds := [.data, .data, .pinned], laidTests := true, laidLooks := .later }
def FlagTwosCardSaid : Prop := Claim7.holds Tryd.pinned (.plain (OpenSpec.ofChange flagTwosSpec)) flagTwosCard

/-- THE TIED CARD OF 'careenlaw06.FlagWhole'. -/
def flagWholeCard : Claim7 := { stood := { row := flagWholeRow, standIns := [], harness := (true, "cd98a4bcc7b55bd8347545adfff15aa9b972ed9eb9b0b0d13f50d90c5498f1e3"), looks := false }, kinds := [], alts := [], laidByText := true, laidKinds := [.data, .data, .pinned], laidTests := true, laidLooks := .later }
def FlagWholeCardSaid : Prop := Claim7.holds Tryd.pinned (.plain (OpenSpec.ofChange flagWholeSpec)) flagWholeCard

/-- THE TIED CARD OF 'careenlaw06.FlagTurns'. -/
def flagTurnsCard : Claim7 := { stood := { row := flagTurnsRow, standIns := [], harness := (true, "cd98a4bcc7b55bd8347545adfff15aa9b972ed9eb9b0b0d13f50d90c5498f1e3"), looks := false }, kinds := [], alts := [], laidByText := true, laidKinds := [.data, .data, .pinned], laidTests := true, laidLooks := .later }
def FlagTurnsCardSaid : Prop := Claim7.holds Tryd.pinned (.plain (OpenSpec.ofChange flagTurnsSpec)) flagTurnsCard

/-- THE TIED CARD OF 'careenlaw06.FlagGrows'. -/
def flagGrowsCard : Claim7 := { stood := { row := flagGrowsRow, standIns := [], harness := (true, "cd98a4bcc7b55bd8347545adfff15aa9b972ed9eb9b0b0d13f50d90c5498f1e3"), looks := false }, kinds := [], alts := [], laidByText := true, laidKinds := [.data, .data, .pinned], laidTests := true, laidLooks := .later }
def FlagGrowsCardSaid : Prop := Claim7.holds Tryd.pinned (.plain (OpenSpec.ofChange flagGrowsSpec)) flagGrowsCard

/-- THE TIED CARD OF 'careenlaw06.FlagOwn'. -/
def flagOwnCard : Claim7 := { stood := { row := flagOwnRow, standIns := [], harness := (true, "cd98a4bcc7b55bd8347545adfff15aa9b972ed9eb9b0b0d13f50d90c5498f1e3"), looks := false }, kinds := [], alts := [], laidByText := true, laidKinds := [.data, .data, .pinned], laidTests := true, laidLooks := .later }
def FlagOwnCardSaid : Prop := Claim7.holds Tryd.pinned (.plain (OpenSpec.ofChange flagOwnSpec)) flagOwnCard

/-- THE TIED CARD OF 'careenlaw06.FlagClashes'. -/
def flagClashesCard : Claim7 := { stood := { row := flagClashesRow, standIns := [], harness := (true, "cd98a4bcc7b55bd8347545adfff15aa9b972ed9eb9b0b0d13f50d90c5498f1e3"), looks := false }, kinds := [], alts := [], laidByText := true, laidKinds := [.data, .data, .pinned], laidTests := true, laidLooks := .later }
def FlagClashesCardSaid : Prop := Claim7.holds Tryd.pinned (.plain (OpenSpec.ofChange flagClashesSpec)) flagClashesCard

/-- THE TIED CARD OF 'careenlaw06.FlagEastman'. -/
def flagEastmanCard : Claim7 := { stood := { row := flagEastmanRow, standIns := [], harness := (true, "cd98a4bcc7b55bd8347545adfff15aa9b972ed9eb9b0b0d13f50d90c5498f1e3"), looks := false }, kinds := [], alts := [], laidByText := true, laidKinds := [.data, .data, .pinned], laidTests := true, laidLooks := .later }
def FlagEastmanCardSaid : Prop := Claim7.holds Tryd.pinned (.plain (OpenSpec.ofChange flagEastmanSpec)) flagEastmanCard

/-- THE TIED CARD OF 'careenlaw06.FlagChecks'. -/
def flagChecksCard : Claim7 := { stood := { row := flagChecksRow, standIns := [], harness := (true, "cd98a4bcc7b55bd8347545adfff15aa9b972ed9eb9b0b0d13f50d90c5498f1e3"), looks := false }, kinds := [], alts := [], laidByText := true, laidKinds := [.data, .data, .pinned], laidTests := true, laidLooks := .later }
def FlagChecksCardSaid : Prop := Claim7.holds Tryd.pinned (.plain (OpenSpec.ofChange flagChecksSpec)) flagChecksCard

/-- THE SECOND FORM's CARD OF 'careenlaw06.FlagRings'. -/
def flagRingsUptoCard : Claim7 := { stood := { row := flagRingsUptoRow, standIns := [], harness := (true, "cd98a4bcc7b55bd8347545adfff15aa9b972ed9eb9b0b0d13f50d90c5498f1e3"), looks := false }, kinds := [], alts := [], laidByText := true, laidKinds := [.data, .data, .pinned], laidTests := true, laidLooks := .later }
def FlagRingsUptoCardSaid : Prop := Claim7.holds Tryd.pinned (.plain (OpenSpec.upto flagRingsSpec)) flagRingsUptoCard

/-- THE SECOND FORM's CARD OF 'careenlaw06.FlagReads'. -/
def flagReadsUptoCard : Claim7 := { stood := { row := flagReadsUptoRow, standIns := [], harness := (true, "cd98a4bcc7b55bd8347545adfff15aa9b972ed9eb9b0b0d13f50d90c5498f1e3"), looks := false }, kinds := [], alts := [], laidByText := true, laidKinds := [.data, .data, .pinned], laidTests := true, laidLooks := .later }
def FlagReadsUptoCardSaid : Prop := Claim7.holds Tryd.pinned (.plain (OpenSpec.upto flagReadsSpec)) flagReadsUptoCard

/-- THE SECOND FORM's CARD OF 'careenlaw06.FlagDecodes'. -/
def flagDecodesUptoCard : Claim7 := { stood := { row := flagDecodesUptoRow, standIns := [], harness := (true, "cd98a4bcc7b55bd8347545adfff15aa9b972ed9eb9b0b0d13f50d90c5498f1e3"), looks := false }, kinds := [], alts := [], laidByText := true, laidKinds := [.data, .data, .pinned], laidTests := true, laidLooks := .later }
def FlagDecodesUptoCardSaid : Prop := Claim7.holds Tryd.pinned (.plain (OpenSpec.upto flagDecodesSpec)) flagDecodesUptoCard

/-- THE SECOND FORM's CARD OF 'careenlaw06.FlagGolomb'. -/
def flagGolombUptoCard : Claim7 := { stood := { row := flagGolombUptoRow, standIns := [], harness := (true, "cd98a4bcc7b55bd8347545adfff15aa9b972ed9eb9b0b0d13f50d90c5498f1e3"), looks := false }, kinds := [], alts := [], laidByText := true, laidKinds := [.data, .data, .pinned], laidTests := true, laidLooks := .later }
def FlagGolombUptoCardSaid : Prop := Claim7.holds Tryd.pinned (.plain (OpenSpec.upto flagGolombSpec)) flagGolombUptoCard

/-- THE SECOND FORM's CARD OF 'careenlaw06.FlagTwos'. -/
def flagTwosUptoCard : Claim7 := { stood := { row := flagTwosUptoRow, standIns := [], harness := (true, "cd98a4bcc7b55bd8347545adfff15aa9b972ed9eb9b0b0d13f50d90c5498f1e3"), looks := false }, kinds := [], alts := [], laidByText := true, laidKinds := [.data, .data, .pinned], laidTests := true, laidLooks := .later }
def FlagTwosUptoCardSaid : Prop := Claim7.holds Tryd.pinned (.plain (OpenSpec.upto flagTwosSpec)) flagTwosUptoCard

/-- THE SECOND FORM's CARD OF 'careenlaw06.FlagWhole'. -/
def flagWholeUptoCard : Claim7 := { stood := { row := flagWholeUptoRow, standIns := [], harness := (true, "cd98a4bcc7b55bd8347545adfff15aa9b972ed9eb9b0b0d13f50d90c5498f1e3"), looks := false }, kinds := [], alts := [], laidByText := true, laidKinds := [.data, .data, .pinned], laidTests := true, laidLooks := .later }
def FlagWholeUptoCardSaid : Prop := Claim7.holds Tryd.pinned (.plain (OpenSpec.upto flagWholeSpec)) flagWholeUptoCard

/-- THE SECOND FORM's CARD OF 'careenlaw06.FlagTurns'. -/
def flagTurnsUptoCard : Claim7 := { stood := { row := flagTurnsUptoRow, standIns := [], harness := (true, "cd98a4bcc7b55bd8347545adfff15aa9b972ed9eb9b0b0d13f50d90c5498f1e3"), looks := false }, kinds := [], alts := [], laidByText := true, laidKinds := [.data, .data, .pinned], laidTests := true, laidLooks := .later }
def FlagTurnsUptoCardSaid : Prop := Claim7.holds Tryd.pinned (.plain (OpenSpec.upto flagTurnsSpec)) flagTurnsUptoCard

/-- THE SECOND FORM's CARD OF 'careenlaw06.FlagGrows'. -/
def flagGrowsUptoCard : Claim7 := { stood := { row := flagGrowsUptoRow, standIns := [], harness := (true, "cd98a4bcc7b55bd8347545adfff15aa9b972ed9eb9b0b0d13f50d90c5498f1e3"), looks := false }, kinds := [], alts := [], laidByText := true, laidKinds := [.data, .data, .pinned], laidTests := true, laidLooks := .later }
def FlagGrowsUptoCardSaid : Prop := Claim7.holds Tryd.pinned (.plain (OpenSpec.upto flagGrowsSpec)) flagGrowsUptoCard

/-- THE SECOND FORM's CARD OF 'careenlaw06.FlagOwn'. -/
def flagOwnUptoCard : Claim7 := { stood := { row := flagOwnUptoRow, standIns := [], harness := (true, "cd98a4bcc7b55bd8347545adfff15aa9b972ed9eb9b0b0d13f50d90c5498f1e3"), looks := false }, kinds := [], alts := [], laidByText := true, laidKinds := [.data, .data, .pinned], laidTests := true, laidLooks := .later }
def FlagOwnUptoCardSaid : Prop := Claim7.holds Tryd.pinned (.plain (OpenSpec.upto flagOwnSpec)) flagOwnUptoCard

/-- THE SECOND FORM's CARD OF 'careenlaw06.FlagClashes'. -/
def flagClashesUptoCard : Claim7 := { stood := { row := flagClashesUptoRow, standIns := [], harness := (true, "cd98a4bcc7b55bd8347545adfff15aa9b972ed9eb9b0b0d13f50d90c5498f1e3"), looks := false }, kinds := [], alts := [], laidByText := true, laidKinds := [.data, .data, .pinned], laidTests := true, laidLooks := .later }
def FlagClashesUptoCardSaid : Prop := Claim7.holds Tryd.pinned (.plain (OpenSpec.upto flagClashesSpec)) flagClashesUptoCard

/-- THE SECOND FORM's CARD OF 'careenlaw06.FlagEastman'. -/
def flagEastmanUptoCard : Claim7 := { stood := { row := flagEastmanUptoRow, standIns := [], harness := (true, "cd98a4bcc7b55bd8347545adfff15aa9b972ed9eb9b0b0d13f50d90c5498f1e3"), looks := false }, kinds := [], alts := [], laidByText := true, laidKinds := [.data, .data, .pinned], laidTests := true, laidLooks := .later }
def FlagEastmanUptoCardSaid : Prop := Claim7.holds Tryd.pinned (.plain (OpenSpec.upto flagEastmanSpec)) flagEastmanUptoCard

/-- THE SECOND FORM's CARD OF 'careenlaw06.FlagChecks'. -/
def flagChecksUptoCard : Claim7 := { stood := { row := flagChecksUptoRow, standIns := [], harness := (true, "cd98a4bcc7b55bd8347545adfff15aa9b972ed9eb9b0b0d13f50d90c5498f1e3"), looks := false }, kinds := [], alts := [], laidByText := true, laidKinds := [.data, .data, .pinned], laidTests := true, laidLooks := .later }
def FlagChecksUptoCardSaid : Prop := Claim7.holds Tryd.pinned (.plain (OpenSpec.upto flagChecksSpec)) flagChecksUptoCard
end Rows
end Go.Proofs.YtpbmpdocgplhpaaDoor
