/-
  NARROWER THAN 'FOR EVERY INPUT', by the rows' own cells (each row's printed sentence says how): FlagRings: laid · FlagReads: laid · FlagDecodes: laid · FlagGolomb: laid · FlagTwos: laid · FlagWhole: laid · FlagTurns: laid · FlagGrows: laid · FlagOwn: laid · FlagClashes: laid · FlagEastman: laid · FlagChecks: laid.
  DERIVED. THE GIVEN ROWS OF THIS SEAT. 12 by the template 'for every input the law returns true; each argument reads behind the call as it read before'; 0 by the template 'total and deterministic' (their statements: YtpbmpdocgplhpaaDoorTotals.lean).
  GIVEN WITH THE SEED: the statements are not yours to turn. If you find one false, say at which input.
  Laid BY PROGRAM, IN A SANDBOX (cutbox-rows.mjs): the forced cells as the released guide's own fill.sh prints them over the translation ae1de0a5ba12ac5d… (all of the seat's roots in one cut). By AI agents, Wed Nov 11 2026. No macro, syntax, notation, axiom, sorry.
-/
import Derived.Test.YtpbmpdocgplhpaaDoorChecked
import GoSem.PinnedTables
import GoSem.Claim
import GoSem.ClaimJoined
import GoSem.ClaimMapViews
import Derived.JoinedTies
import Derived.KernelRfl
namespace Go.Proofs.YtpbmpdocgplhpaaDoor
/- THE CELL 'sum', in the pinned program and in every row, IS THE sha256 OF THE DUMP (.gsa) THAT YtpbmpdocgplhpaaDoorProg.lean LOADS. Nothing in Lean hashes anything: it is a label: what it is worth is what the hold of that sum in a sandbox is worth. -/
noncomputable def Tryd.pinned : Pinned := { name := "ytpbmpdocgplhpaadoor", sum := "ae1de0a5ba12ac5d48715d9c765d860c778221f32d7d310e88a001eb541a820a", checked := Tryd.checked }
namespace Rows
def none {H : Type} : Left H := { results := [], args := [] }

/- WHAT THE LISTED PACKAGE-LEVEL VARIABLES READ AS WHEN THE CALL BEGINS. Each datum BY PROGRAM (the guide's laid-datum.mjs) off the statement by which the dump's own 'gosem.cut.vars' lays the variable. In a bare row this is a premise. The card (YtpbmpdocgplhpaaDoorCards.lean) ties it to the program's text. -/
def laid_unicode_utf8_acceptRanges {H : Type} : DataW H := .agg [.agg [.lit (.int .u8 128), .lit (.int .u8 191)], .agg [.lit (.int .u8 160), .lit (.int .u8 191)], .agg [.lit (.int .u8 128), .lit (.int .u8 159)], .agg [.lit (.int .u8 144), .lit (.int .u8 191)], .agg [.lit (.int .u8 128), .lit (.int .u8 143)], .agg [.lit (.int .u8 0), .lit (.int .u8 0)], .agg [.lit (.int .u8 0), .lit (.int .u8 0)], .agg [.lit (.int .u8 0), .lit (.int .u8 0)], .agg [.lit (.int .u8 0), .lit (.int .u8 0)], .agg [.lit (.int .u8 0), .lit (.int .u8 0)], .agg [.lit (.int .u8 0), .lit (.int .u8 0)], .agg [.lit (.int .u8 0), .lit (.int .u8 0)], .agg [.lit (.int .u8 0), .lit (.int .u8 0)], .agg [.lit (.int .u8 0), .lit (.int .u8 0)], .agg [.lit (.int .u8 0), .lit (.int .u8 0)], .agg [.lit (.int .u8 0), .lit (.int .u8 0)]]
def laid_careen_flag_none {H : Type} : DataW H := .agg [.lit (.int .i64 (-1)), .lit (.int .i64 (-1)), .lit (.int .i64 (-1))]
/-- One of Go's own tables, pinned by name: the form's constant. -/
def laid_unicode_utf8_first : DataW Unit := Go.Pinned.utf8First

/-- 'careenlaw06.FlagRings': WHATEVER THE INPUT: true; the input reads as it did. -/
def flagRingsSpec : ChangeSpec := { name := "flagRings", fn := fun _ => fun
  | [d1, d2] => { results := [.lit (.bool true)], args := [d1, d2] }
  | _ => none }
def flagRingsRow : OpenClaim := { program := "ytpbmpdocgplhpaadoor", sum := "ae1de0a5ba12ac5d48715d9c765d860c778221f32d7d310e88a001eb541a820a", func := "careen/careenlaw06.FlagRings", spec := "flagRings", unfollowed := true, recurses := true, named := ["unicode/utf8.first", "unicode/utf8.acceptRanges", "careen/flag.none"], apart := false, laid := [("unicode/utf8.acceptRanges", laid_unicode_utf8_acceptRanges), ("careen/flag.none", laid_careen_flag_none), ("unicode/utf8.first", laid_unicode_utf8_first)] }
def FlagRingsSaid : Prop := flagRingsRow.holds Tryd.pinned (OpenSpec.ofChange flagRingsSpec)

/-- ITS FALSE NEIGHBOUR: 'it returns false'. Refute it at one input. -/
def flagRingsWrong : ChangeSpec := { name := "flagRings", fn := fun _ => fun
  | [d1, d2] => { results := [.lit (.bool false)], args := [d1, d2] }
  | _ => none }
def FlagRingsWrongFalsely : Prop := flagRingsRow.holds Tryd.pinned (OpenSpec.ofChange flagRingsWrong)

/-- 'careenlaw06.FlagReads': WHATEVER THE INPUT: true; the input reads as it did. -/
def flagReadsSpec : ChangeSpec := { name := "flagReads", fn := fun _ => fun
  | [d1, d2] => { results := [.lit (.bool true)], args := [d1, d2] }
  | _ => none }
def flagReadsRow : OpenClaim := { program := "ytpbmpdocgplhpaadoor", sum := "ae1de0a5ba12ac5d48715d9c765d860c778221f32d7d310e88a001eb541a820a", func := "careen/careenlaw06.FlagReads", spec := "flagReads", unfollowed := true, recurses := true, named := ["unicode/utf8.first", "unicode/utf8.acceptRanges", "careen/flag.none"], apart := false, laid := [("unicode/utf8.acceptRanges", laid_unicode_utf8_acceptRanges), ("careen/flag.none", laid_careen_flag_none), ("unicode/utf8.first", laid_unicode_utf8_first)] }
def FlagReadsSaid : Prop := flagReadsRow.holds Tryd.pinned (OpenSpec.ofChange flagReadsSpec)

/-- ITS FALSE NEIGHBOUR: 'it returns false'. Refute it at one input. -/
def flagReadsWrong : ChangeSpec := { name := "flagReads", fn := fun _ => fun
  | [d1, d2] => { results := [.lit (.bool false)], args := [d1, d2] }
  | _ => none }
def FlagReadsWrongFalsely : Prop := flagReadsRow.holds Tryd.pinned (OpenSpec.ofChange flagReadsWrong)

/-- 'careenlaw06.FlagDecodes': WHATEVER THE INPUT: true; the input reads as it did. -/
def flagDecodesSpec : ChangeSpec := { name := "flagDecodes", fn := fun _ => fun
  | [d1, d2] => { results := [.lit (.bool true)], args := [d1, d2] }
  | _ => none }
def flagDecodesRow : OpenClaim := { program := "ytpbmpdocgplhpaadoor", sum := "ae1de0a5ba12ac5d48715d9c765d860c778221f32d7d310e88a001eb541a820a", func := "careen/careenlaw06.FlagDecodes", spec := "flagDecodes", unfollowed := true, recurses := true, named := ["careen/flag.none", "unicode/utf8.first", "unicode/utf8.acceptRanges"], apart := false, laid := [("unicode/utf8.acceptRanges", laid_unicode_utf8_acceptRanges), ("careen/flag.none", laid_careen_flag_none), ("unicode/utf8.first", laid_unicode_utf8_first)] }
def FlagDecodesSaid : Prop := flagDecodesRow.holds Tryd.pinned (OpenSpec.ofChange flagDecodesSpec)

/-- ITS FALSE NEIGHBOUR: 'it returns false'. Refute it at one input. -/
def flagDecodesWrong : ChangeSpec := { name := "flagDecodes", fn := fun _ => fun
  | [d1, d2] => { results := [.lit (.bool false)], args := [d1, d2] }
  | _ => none }
def FlagDecodesWrongFalsely : Prop := flagDecodesRow.holds Tryd.pinned (OpenSpec.ofChange flagDecodesWrong)

/-- 'careenlaw06.FlagGolomb': WHATEVER THE INPUT: true; the input reads as it did. -/
def flagGolombSpec : ChangeSpec := { name := "flagGolomb", fn := fun _ => fun
  | [d1, d2] => { results := [.lit (.bool true)], args := [d1, d2] }
  | _ => none }
def flagGolombRow : OpenClaim := { program := "ytpbmpdocgplhpaadoor", sum := "ae1de0a5ba12ac5d48715d9c765d860c778221f32d7d310e88a001eb541a820a", func := "careen/careenlaw06.FlagGolomb", spec := "flagGolomb", unfollowed := true, recurses := true, named := ["careen/flag.none", "unicode/utf8.first", "unicode/utf8.acceptRanges"], apart := false, laid := [("unicode/utf8.acceptRanges", laid_unicode_utf8_acceptRanges), ("careen/flag.none", laid_careen_flag_none), ("unicode/utf8.first", laid_unicode_utf8_first)] }
def FlagGolombSaid : Prop := flagGolombRow.holds Tryd.pinned (OpenSpec.ofChange flagGolombSpec)

/-- ITS FALSE NEIGHBOUR: 'it returns false'. Refute it at one input. -/
def flagGolombWrong : ChangeSpec := { name := "flagGolomb", fn := fun _ => fun
  | [d1, d2] => { results := [.lit (.bool false)], args := [d1, d2] }
  | _ => none }
def FlagGolombWrongFalsely : Prop := flagGolombRow.holds Tryd.pinned (OpenSpec.ofChange flagGolombWrong)

/-- 'careenlaw06.FlagTwos': WHATEVER THE INPUT: true; the input reads as it did. -/
def flagTwosSpec : ChangeSpec := { name := "flagTwos", fn := fun _ => fun
  | [d] => { results := [.lit (.bool true)], args := [d] }
  | _ => none }
def flagTwosRow : OpenClaim := { program := "ytpbmpdocgplhpaadoor", sum := "ae1de0a5ba12ac5d48715d9c765d860c778221f32d7d310e88a001eb541a820a", func := "careen/careenlaw06.FlagTwos", spec := "flagTwos", unfollowed := true, recurses := true, named := ["careen/flag.none", "unicode/utf8.first", "unicode/utf8.acceptRanges"], apart := false, laid := [("unicode/utf8.acceptRanges", laid_unicode_utf8_acceptRanges), ("careen/flag.none", laid_careen_flag_none), ("unicode/utf8.first", laid_unicode_utf8_first)] }
def FlagTwosSaid : Prop := flagTwosRow.holds Tryd.pinned (OpenSpec.ofChange flagTwosSpec)

/-- ITS FALSE NEIGHBOUR: 'it returns false'. Refute it at one input. -/
def flagTwosWrong : ChangeSpec := { name := "flagTwos", fn := fun _ => fun
  | [d] => { results := [.lit (.bool false)], args := [d] }
  | _ => none }
def FlagTwosWrongFalsely : Prop := flagTwosRow.holds Tryd.pinned (OpenSpec.ofChange flagTwosWrong)

/-- 'careenlaw06.FlagWhole': WHATEVER THE INPUT: true; the input reads as it did. -/
def flagWholeSpec : ChangeSpec := { name := "flagWhole", fn := fun _ => fun
  | [d1, d2, d3] => { results := [.lit (.bool true)], args := [d1, d2, d3] }
  | _ => none }
def flagWholeRow : OpenClaim := { program := "ytpbmpdocgplhpaadoor", sum := "ae1de0a5ba12ac5d48715d9c765d860c778221f32d7d310e88a001eb541a820a", func := "careen/careenlaw06.FlagWhole", spec := "flagWhole", unfollowed := true, recurses := true, named := ["careen/flag.none", "unicode/utf8.first", "unicode/utf8.acceptRanges"], apart := false, laid := [("unicode/utf8.acceptRanges", laid_unicode_utf8_acceptRanges), ("careen/flag.none", laid_careen_flag_none), ("unicode/utf8.first", laid_unicode_utf8_first)] }
def FlagWholeSaid : Prop := flagWholeRow.holds Tryd.pinned (OpenSpec.ofChange flagWholeSpec)

/-- ITS FALSE NEIGHBOUR: 'it returns false'. Refute it at one input. -/
def flagWholeWrong : ChangeSpec := { name := "flagWhole", fn := fun _ => fun
  | [d1, d2, d3] => { results := [.lit (.bool false)], args := [d1, d2, d3] }
  | _ => none }
def FlagWholeWrongFalsely : Prop := flagWholeRow.holds Tryd.pinned (OpenSpec.ofChange flagWholeWrong)

/-- 'careenlaw06.FlagTurns': WHATEVER THE INPUT: true; the input reads as it did. -/
def flagTurnsSpec : ChangeSpec := { name := "flagTurns", fn := fun _ => fun
  | [d] => { results := [.lit (.bool true)], args := [d] }
  | _ => none }
def flagTurnsRow : OpenClaim := { program := "ytpbmpdocgplhpaadoor", sum := "ae1de0a5ba12ac5d48715d9c765d860c778221f32d7d310e88a001eb541a820a", func := "careen/careenlaw06.FlagTurns", spec := "flagTurns", unfollowed := true, recurses := true, named := ["unicode/utf8.first", "unicode/utf8.acceptRanges", "careen/flag.none"], apart := false, laid := [("unicode/utf8.acceptRanges", laid_unicode_utf8_acceptRanges), ("careen/flag.none", laid_careen_flag_none), ("unicode/utf8.first", laid_unicode_utf8_first)] }
def FlagTurnsSaid : Prop := flagTurnsRow.holds Tryd.pinned (OpenSpec.ofChange flagTurnsSpec)

/-- ITS FALSE NEIGHBOUR: 'it returns false'. Refute it at one input. -/
def flagTurnsWrong : ChangeSpec := { name := "flagTurns", fn := fun _ => fun
  | [d] => { results := [.lit (.bool false)], args := [d] }
  | _ => none }
def FlagTurnsWrongFalsely : Prop := flagTurnsRow.holds Tryd.pinned (OpenSpec.ofChange flagTurnsWrong)

/-- 'careenlaw06.FlagGrows': WHATEVER THE INPUT: true; the input reads as it did. -/
def flagGrowsSpec : ChangeSpec := { name := "flagGrows", fn := fun _ => fun
  | [d1, d2, d3] => { results := [.lit (.bool true)], args := [d1, d2, d3] }
  | _ => none }
def flagGrowsRow : OpenClaim := { program := "ytpbmpdocgplhpaadoor", sum := "ae1de0a5ba12ac5d48715d9c765d860c778221f32d7d310e88a001eb541a820a", func := "careen/careenlaw06.FlagGrows", spec := "flagGrows", unfollowed := true, recurses := true, named := ["careen/flag.none", "unicode/utf8.first", "unicode/utf8.acceptRanges"], apart := false, laid := [("unicode/utf8.acceptRanges", laid_unicode_utf8_acceptRanges), ("careen/flag.none", laid_careen_flag_none), ("unicode/utf8.first", laid_unicode_utf8_first)] }
def FlagGrowsSaid : Prop := flagGrowsRow.holds Tryd.pinned (OpenSpec.ofChange flagGrowsSpec)

/-- ITS FALSE NEIGHBOUR: 'it returns false'. Refute it at one input. -/
def flagGrowsWrong : ChangeSpec := { name := "flagGrows", fn := fun _ => fun
  | [d1, d2, d3] => { results := [.lit (.bool false)], args := [d1, d2, d3] }
  | _ => none }
def FlagGrowsWrongFalsely : Prop := flagGrowsRow.holds Tryd.pinned (OpenSpec.ofChange flagGrowsWrong)

/-- 'careenlaw06.FlagOwn': WHATEVER THE INPUT: true; the input reads as it did. -/
def flagOwnSpec : ChangeSpec := { name := "flagOwn", fn := fun _ => fun
  | [d1, d2, d3] => { results := [.lit (.bool true)], args := [d1, d2, d3] }
  | _ => none }
def flagOwnRow : OpenClaim := { program := "ytpbmpdocgplhpaadoor", sum := "ae1de0a5ba12ac5d48715d9c765d860c778221f32d7d310e88a001eb541a820a", func := "careen/careenlaw06.FlagOwn", spec := "flagOwn", unfollowed := true, recurses := true, named := ["careen/flag.none", "unicode/utf8.first", "unicode/utf8.acceptRanges"], apart := false, laid := [("unicode/utf8.acceptRanges", laid_unicode_utf8_acceptRanges), ("careen/flag.none", laid_careen_flag_none), ("unicode/utf8.first", laid_unicode_utf8_first)] }
def FlagOwnSaid : Prop := flagOwnRow.holds Tryd.pinned (OpenSpec.ofChange flagOwnSpec)

/-- ITS FALSE NEIGHBOUR: 'it returns false'. Refute it at one input. -/
def flagOwnWrong : ChangeSpec := { name := "flagOwn", fn := fun _ => fun
  | [d1, d2, d3] => { results := [.lit (.bool false)], args := [d1, d2, d3] }
  | _ => none }
def FlagOwnWrongFalsely : Prop := flagOwnRow.holds Tryd.pinned (OpenSpec.ofChange flagOwnWrong)

/-- 'careenlaw06.FlagClashes': WHATEVER THE INPUT: true; the input reads as it did. -/
def flagClashesSpec : ChangeSpec := { name := "flagClashes", fn := fun _ => fun
  | [d1, d2] => { results := [.lit (.bool true)], args := [d1, d2] }
  | _ => none }
def flagClashesRow : OpenClaim := { program := "ytpbmpdocgplhpaadoor", sum := "ae1de0a5ba12ac5d48715d9c765d860c778221f32d7d310e88a001eb541a820a", func := "careen/careenlaw06.FlagClashes", spec := "flagClashes", inPlace := ["internal/bytealg.IndexByteString", "internal/bytealg.IndexString"], unfollowed := true, recurses := true, named := ["careen/flag.none", "unicode/utf8.first", "unicode/utf8.acceptRanges", "internal/bytealg.MaxLen"], apart := false, laid := [("unicode/utf8.acceptRanges", laid_unicode_utf8_acceptRanges), ("careen/flag.none", laid_careen_flag_none), ("unicode/utf8.first", laid_unicode_utf8_first)] }
def FlagClashesSaid : Prop := flagClashesRow.holds Tryd.pinned (OpenSpec.ofChange flagClashesSpec)

/-- ITS FALSE NEIGHBOUR: 'it returns false'. Refute it at one input. -/
def flagClashesWrong : ChangeSpec := { name := "flagClashes", fn := fun _ => fun
  | [d1, d2] => { results := [.lit (.bool false)], args := [d1, d2] }
  | _ => none }
def FlagClashesWrongFalsely : Prop := flagClashesRow.holds Tryd.pinned (OpenSpec.ofChange flagClashesWrong)

/-- 'careenlaw06.FlagEastman': WHATEVER THE INPUT: true; the input reads as it did. -/
def flagEastmanSpec : ChangeSpec := { name := "flagEastman", fn := fun _ => fun
  | [d1, d2] => { results := [.lit (.bool true)], args := [d1, d2] }
  | _ => none }
def flagEastmanRow : OpenClaim := { program := "ytpbmpdocgplhpaadoor", sum := "ae1de0a5ba12ac5d48715d9c765d860c778221f32d7d310e88a001eb541a820a", func := "careen/careenlaw06.FlagEastman", spec := "flagEastman", inPlace := ["internal/bytealg.CountString", "internal/bytealg.IndexByteString", "internal/bytealg.IndexString", "internal/abi.NoEscape", "internal/bytealg.MakeNoZero"], unfollowed := true, recurses := true, named := ["unicode/utf8.first", "unicode/utf8.acceptRanges", "internal/bytealg.MaxLen", "careen/flag.none"], apart := false, laid := [("unicode/utf8.acceptRanges", laid_unicode_utf8_acceptRanges), ("careen/flag.none", laid_careen_flag_none), ("unicode/utf8.first", laid_unicode_utf8_first)] }
def FlagEastmanSaid : Prop := flagEastmanRow.holds Tryd.pinned (OpenSpec.ofChange flagEastmanSpec)

/-- ITS FALSE NEIGHBOUR: 'it returns false'. Refute it at one input. -/
def flagEastmanWrong : ChangeSpec := { name := "flagEastman", fn := fun _ => fun
  | [d1, d2] => { results := [.lit (.bool false)], args := [d1, d2] }
  | _ => none }
def FlagEastmanWrongFalsely : Prop := flagEastmanRow.holds Tryd.pinned (OpenSpec.ofChange flagEastmanWrong)

/-- 'careenlaw06.FlagChecks': WHATEVER THE INPUT: true; the input reads as it did. -/
def flagChecksSpec : ChangeSpec := { name := "flagChecks", fn := fun _ => fun
  | [d1, d2, d3] => { results := [.lit (.bool true)], args := [d1, d2, d3] }
  | _ => none }
def flagChecksRow : OpenClaim := { program := "ytpbmpdocgplhpaadoor", sum := "ae1de0a5ba12ac5d48715d9c765d860c778221f32d7d310e88a001eb541a820a", func := "careen/careenlaw06.FlagChecks", spec := "flagChecks", inPlace := ["internal/bytealg.IndexByteString", "internal/bytealg.IndexString", "internal/bytealg.CountString", "internal/abi.NoEscape", "internal/bytealg.MakeNoZero"], unfollowed := true, recurses := true, named := ["unicode/utf8.first", "unicode/utf8.acceptRanges", "careen/flag.none", "internal/bytealg.MaxLen"], apart := false, laid := [("unicode/utf8.acceptRanges", laid_unicode_utf8_acceptRanges), ("careen/flag.none", laid_careen_flag_none), ("unicode/utf8.first", laid_unicode_utf8_first)] }
def FlagChecksSaid : Prop := flagChecksRow.holds Tryd.pinned (OpenSpec.ofChange flagChecksSpec)

/-- ITS FALSE NEIGHBOUR: 'it returns false'. Refute it at one input. -/
def flagChecksWrong : ChangeSpec := { name := "flagChecks", fn := fun _ => fun
  | [d1, d2, d3] => { results := [.lit (.bool false)], args := [d1, d2, d3] }
  | _ => none }
def FlagChecksWrongFalsely : Prop := flagChecksRow.holds Tryd.pinned (OpenSpec.ofChange flagChecksWrong)

/- THE SECOND FORM. 'bulk': how many values and letters a reading holds, each counted each time it is reached (what is shared counts as often as it is met; a slice's spare places count too). A statement '..UptoSaid' is the law's where the arguments, and the package variables that the reading takes, are together of bulk at most 1048576: NARROWER than '..Said'. Prove '..Said' where nothing that the law and all that it calls make is longer than what came in: it says more and counts as full. Else prove '..UptoSaid'. A law counts once. -/
mutual
def uptoBulk {H : Type} : DataW H → Nat
  | .lit (.string bytes) => bytes.length + 1
  | .lit _ => 1
  | .nil => 1
  | .ptr d => uptoBulk d + 1
  | .slice elems spare => uptoBulkAll elems + uptoBulkAll spare + 1
  | .agg parts => uptoBulkAll parts + 1
  | .iface _ d => uptoBulk d + 1
  | .map entries => uptoBulkEntries entries + 1
  | .held _ => 1
def uptoBulkAll {H : Type} : List (DataW H) → Nat
  | [] => 0
  | d :: r => uptoBulk d + uptoBulkAll r
def uptoBulkEntries {H : Type} : List (Lit × DataW H) → Nat
  | [] => 0
  | x :: r => uptoBulkEntry x + uptoBulkEntries r
def uptoBulkEntry {H : Type} : Lit × DataW H → Nat
  | (.string bytes, d) => bytes.length + uptoBulk d + 1
  | (_, d) => uptoBulk d + 1
 end
def uptoSmall : (H : Type) → List (DataW H) → Bool := fun _ ds => decide (uptoBulkAll ds ≤ 1048576)
def OpenSpec.upto (s : _root_.Go.ChangeSpec) : _root_.Go.OpenSpec := { _root_.Go.OpenSpec.ofChange s with cond := some uptoSmall }

/-- 'careenlaw06.FlagRings', WHERE WHAT IT READS IS OF BULK AT MOST 1048576: true; the input reads as it did. -/
def flagRingsUptoRow : OpenClaim := { program := "ytpbmpdocgplhpaadoor", sum := "ae1de0a5ba12ac5d48715d9c765d860c778221f32d7d310e88a001eb541a820a", func := "careen/careenlaw06.FlagRings", spec := "flagRings", unfollowed := true, recurses := true, named := ["unicode/utf8.first", "unicode/utf8.acceptRanges", "careen/flag.none"], apart := false, laid := [("unicode/utf8.acceptRanges", laid_unicode_utf8_acceptRanges), ("careen/flag.none", laid_careen_flag_none), ("unicode/utf8.first", laid_unicode_utf8_first)], narrowed := true }
def FlagRingsUptoSaid : Prop := flagRingsUptoRow.holds Tryd.pinned (OpenSpec.upto flagRingsSpec)

/-- 'careenlaw06.FlagReads', WHERE WHAT IT READS IS OF BULK AT MOST 1048576: true; the input reads as it did. -/
def flagReadsUptoRow : OpenClaim := { program := "ytpbmpdocgplhpaadoor", sum := "ae1de0a5ba12ac5d48715d9c765d860c778221f32d7d310e88a001eb541a820a", func := "careen/careenlaw06.FlagReads", spec := "flagReads", unfollowed := true, recurses := true, named := ["unicode/utf8.first", "unicode/utf8.acceptRanges", "careen/flag.none"], apart := false, laid := [("unicode/utf8.acceptRanges", laid_unicode_utf8_acceptRanges), ("careen/flag.none", laid_careen_flag_none), ("unicode/utf8.first", laid_unicode_utf8_first)], narrowed := true }
def FlagReadsUptoSaid : Prop := flagReadsUptoRow.holds Tryd.pinned (OpenSpec.upto flagReadsSpec)

/-- 'careenlaw06.FlagDecodes', WHERE WHAT IT READS IS OF BULK AT MOST 1048576: true; the input reads as it did. -/
def flagDecodesUptoRow : OpenClaim := { program := "ytpbmpdocgplhpaadoor", sum := "ae1de0a5ba12ac5d48715d9c765d860c778221f32d7d310e88a001eb541a820a", func := "careen/careenlaw06.FlagDecodes", spec := "flagDecodes", unfollowed := true, recurses := true, named := ["careen/flag.none", "unicode/utf8.first", "unicode/utf8.acceptRanges"], apart := false, laid := [("unicode/utf8.acceptRanges", laid_unicode_utf8_acceptRanges), ("careen/flag.none", laid_careen_flag_none), ("unicode/utf8.first", laid_unicode_utf8_first)], narrowed := true }
def FlagDecodesUptoSaid : Prop := flagDecodesUptoRow.holds Tryd.pinned (OpenSpec.upto flagDecodesSpec)

/-- 'careenlaw06.FlagGolomb', WHERE WHAT IT READS IS OF BULK AT MOST 1048576: true; the input reads as it did. -/
def flagGolombUptoRow : OpenClaim := { program := "ytpbmpdocgplhpaadoor", sum := "ae1de0a5ba12ac5d48715d9c765d860c778221f32d7d310e88a001eb541a820a", func := "careen/careenlaw06.FlagGolomb", spec := "flagGolomb", unfollowed := true, recurses := true, named := ["careen/flag.none", "unicode/utf8.first", "unicode/utf8.acceptRanges"], apart := false, laid := [("unicode/utf8.acceptRanges", laid_unicode_utf8_acceptRanges), ("careen/flag.none", laid_careen_flag_none), ("unicode/utf8.first", laid_unicode_utf8_first)], narrowed := true }
def FlagGolombUptoSaid : Prop := flagGolombUptoRow.holds Tryd.pinned (OpenSpec.upto flagGolombSpec)

/-- 'careenlaw06.FlagTwos', WHERE WHAT IT READS IS OF BULK AT MOST 1048576: true; the input reads as it did. -/
def flagTwosUptoRow : OpenClaim := { program := "ytpbmpdocgplhpaadoor", sum := "ae1de0a5ba12ac5d48715d9c765d860c778221f32d7d310e88a001eb541a820a", func := "careen/careenlaw06.FlagTwos", spec := "flagTwos", unfollowed := true, recurses := true, named := ["careen/flag.none", "unicode/utf8.first", "unicode/utf8.acceptRanges"], apart := false, laid := [("unicode/utf8.acceptRanges", laid_unicode_utf8_acceptRanges), ("careen/flag.none", laid_careen_flag_none), ("unicode/utf8.first", laid_unicode_utf8_first)], narrowed := true }
def FlagTwosUptoSaid : Prop := flagTwosUptoRow.holds Tryd.pinned (OpenSpec.upto flagTwosSpec)

/-- 'careenlaw06.FlagWhole', WHERE WHAT IT READS IS OF BULK AT MOST 1048576: true; the input reads as it did. -/
def flagWholeUptoRow : OpenClaim := { program := "ytpbmpdocgplhpaadoor", sum := "ae1de0a5ba12ac5d48715d9c765d860c778221f32d7d310e88a001eb541a820a", func := "careen/careenlaw06.FlagWhole", spec := "flagWhole", unfollowed := true, recurses := true, named := ["careen/flag.none", "unicode/utf8.first", "unicode/utf8.acceptRanges"], apart := false, laid := [("unicode/utf8.acceptRanges", laid_unicode_utf8_acceptRanges), ("careen/flag.none", laid_careen_flag_none), ("unicode/utf8.first", laid_unicode_utf8_first)], narrowed := true }
def FlagWholeUptoSaid : Prop := flagWholeUptoRow.holds Tryd.pinned (OpenSpec.upto flagWholeSpec)

/-- 'careenlaw06.FlagTurns', WHERE WHAT IT READS IS OF BULK AT MOST 1048576: true; the input reads as it did. -/
def flagTurnsUptoRow : OpenClaim := { program := "ytpbmpdocgplhpaadoor", sum := "ae1de0a5ba12ac5d48715d9c765d860c778221f32d7d310e88a001eb541a820a", func := "careen/careenlaw06.FlagTurns", spec := "flagTurns", unfollowed := true, recurses := true, named := ["unicode/utf8.first", "unicode/utf8.acceptRanges", "careen/flag.none"], apart := false, laid := [("unicode/utf8.acceptRanges", laid_unicode_utf8_acceptRanges), ("careen/flag.none", laid_careen_flag_none), ("unicode/utf8.first", laid_unicode_utf8_first)], narrowed := true }
def FlagTurnsUptoSaid : Prop := flagTurnsUptoRow.holds Tryd.pinned (OpenSpec.upto flagTurnsSpec)

/-- 'careenlaw06.FlagGrows', WHERE WHAT IT READS IS OF BULK AT MOST 1048576: true; the input reads as it did. -/
def flagGrowsUptoRow : OpenClaim := { program := "ytpbmpdocgplhpaadoor", sum := "ae1de0a5ba12ac5d48715d9c765d860c778221f32d7d310e88a001eb541a820a", func := "careen/careenlaw06.FlagGrows", spec := "flagGrows", unfollowed := true, recurses := true, named := ["careen/flag.none", "unicode/utf8.first", "unicode/utf8.acceptRanges"], apart := false, laid := [("unicode/utf8.acceptRanges", laid_unicode_utf8_acceptRanges), ("careen/flag.none", laid_careen_flag_none), ("unicode/utf8.first", laid_unicode_utf8_first)], narrowed := true }
def FlagGrowsUptoSaid : Prop := flagGrowsUptoRow.holds Tryd.pinned (OpenSpec.upto flagGrowsSpec)

/-- 'careenlaw06.FlagOwn', WHERE WHAT IT READS IS OF BULK AT MOST 1048576: true; the input reads as it did. -/
def flagOwnUptoRow : OpenClaim := { program := "ytpbmpdocgplhpaadoor", sum := "ae1de0a5ba12ac5d48715d9c765d860c778221f32d7d310e88a001eb541a820a", func := "careen/careenlaw06.FlagOwn", spec := "flagOwn", unfollowed := true, recurses := true, named := ["careen/flag.none", "unicode/utf8.first", "unicode/utf8.acceptRanges"], apart := false, laid := [("unicode/utf8.acceptRanges", laid_unicode_utf8_acceptRanges), ("careen/flag.none", laid_careen_flag_none), ("unicode/utf8.first", laid_unicode_utf8_first)], narrowed := true }
def FlagOwnUptoSaid : Prop := flagOwnUptoRow.holds Tryd.pinned (OpenSpec.upto flagOwnSpec)

/-- 'careenlaw06.FlagClashes', WHERE WHAT IT READS IS OF BULK AT MOST 1048576: true; the input reads as it did. -/
def flagClashesUptoRow : OpenClaim := { program := "ytpbmpdocgplhpaadoor", sum := "ae1de0a5ba12ac5d48715d9c765d860c778221f32d7d310e88a001eb541a820a", func := "careen/careenlaw06.FlagClashes", spec := "flagClashes", inPlace := ["internal/bytealg.IndexByteString", "internal/bytealg.IndexString"], unfollowed := true, recurses := true, named := ["careen/flag.none", "unicode/utf8.first", "unicode/utf8.acceptRanges", "internal/bytealg.MaxLen"], apart := false, laid := [("unicode/utf8.acceptRanges", laid_unicode_utf8_acceptRanges), ("careen/flag.none", laid_careen_flag_none), ("unicode/utf8.first", laid_unicode_utf8_first)], narrowed := true }
def FlagClashesUptoSaid : Prop := flagClashesUptoRow.holds Tryd.pinned (OpenSpec.upto flagClashesSpec)

/-- 'careenlaw06.FlagEastman', WHERE WHAT IT READS IS OF BULK AT MOST 1048576: true; the input reads as it did. -/
def flagEastmanUptoRow : OpenClaim := { program := "ytpbmpdocgplhpaadoor", sum := "ae1de0a5ba12ac5d48715d9c765d860c778221f32d7d310e88a001eb541a820a", func := "careen/careenlaw06.FlagEastman", spec := "flagEastman", inPlace := ["internal/bytealg.CountString", "internal/bytealg.IndexByteString", "internal/bytealg.IndexString", "internal/abi.NoEscape", "internal/bytealg.MakeNoZero"], unfollowed := true, recurses := true, named := ["unicode/utf8.first", "unicode/utf8.acceptRanges", "internal/bytealg.MaxLen", "careen/flag.none"], apart := false, laid := [("unicode/utf8.acceptRanges", laid_unicode_utf8_acceptRanges), ("careen/flag.none", laid_careen_flag_none), ("unicode/utf8.first", laid_unicode_utf8_first)], narrowed := true }
def FlagEastmanUptoSaid : Prop := flagEastmanUptoRow.holds Tryd.pinned (OpenSpec.upto flagEastmanSpec)

/-- 'careenlaw06.FlagChecks', WHERE WHAT IT READS IS OF BULK AT MOST 1048576: true; the input reads as it did. -/
def flagChecksUptoRow : OpenClaim := { program := "ytpbmpdocgplhpaadoor", sum := "ae1de0a5ba12ac5d48715d9c765d860c778221f32d7d310e88a001eb541a820a", func := "careen/careenlaw06.FlagChecks", spec := "flagChecks", inPlace := ["internal/bytealg.IndexByteString", "internal/bytealg.IndexString", "internal/bytealg.CountString", "internal/abi.NoEscape", "internal/bytealg.MakeNoZero"], unfollowed := true, recurses := true, named := ["unicode/utf8.first", "unicode/utf8.acceptRanges", "careen/flag.none", "internal/bytealg.MaxLen"], apart := false, laid := [("unicode/utf8.acceptRanges", laid_unicode_utf8_acceptRanges), ("careen/flag.none", laid_careen_flag_none), ("unicode/utf8.first", laid_unicode_utf8_first)], narrowed := true }
def FlagChecksUptoSaid : Prop := flagChecksUptoRow.holds Tryd.pinned (OpenSpec.upto flagChecksSpec)

end Rows
end Go.Proofs.YtpbmpdocgplhpaaDoor
