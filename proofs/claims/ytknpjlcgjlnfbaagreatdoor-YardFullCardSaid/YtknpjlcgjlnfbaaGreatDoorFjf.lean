/-
  The static facts of the row of YardFull, one by one.
-/
import Derived.Test.YtknpjlcgjlnfbaaGreatDoorCards
import Derived.Test.YtknpjlcgjlnfbaaGreatDoorTie
import Derived.WalkKit
import Derived.JoinedCond
import Derived.KernelRfl
set_option maxRecDepth 100000
namespace Go.Proofs.YtknpjlcgjlnfbaaGreatDoor.yardFull
open Go Go.ChangeShapes Go.WideShapes Go.RowKit
noncomputable abbrev PP : Program := Tryz.pinned.checked.prog
abbrev CC : OpenClaim := Rows.yardFullRow
noncomputable abbrev SS : ChangeSpec := (OpenSpec.ofChange Rows.yardFullSpec).bare
noncomputable abbrev FF : Func := Tryz.f6
theorem jf0 : (CC.wf (OpenSpec.ofChange SS)) = true := by kernel_rfl
theorem jf1 : (laidOutB PP) = true := by kernel_rfl
theorem jf2 : (mapsRowed PP) = true := by kernel_rfl
theorem jf3 : (FF.params.all (PP.readableRec ·)) = true := by kernel_rfl
theorem jf4 : (namedTie PP CC.named SS.vars) = true := by kernel_rfl
theorem jf5 : ((CC.stops == [])) = true := by kernel_rfl
theorem jf6 : ((PP.stops == [])) = true := by kernel_rfl
theorem jf7 : ((CC.knobs == [])) = true := by kernel_rfl
theorem jf8 : ((PP.stopKnobs == [])) = true := by kernel_rfl
theorem jf9 : ((CC.inPlace == PP.inPlace 6)) = true := by kernel_rfl
theorem jf10 : ((CC.unfollowed == PP.unfollowed 6)) = true := by kernel_rfl
theorem jf11 : ((CC.recurses == PP.recurses 6)) = true := by kernel_rfl
theorem jf12 : ((CC.named == PP.varsNamed 6)) = true := by kernel_rfl
theorem jf13 : ((CC.maps == (FF.params.toList ++ SS.plain.varTypes PP).any (PP.mapsRec ·))) = true := by kernel_rfl
theorem jf14 : ((CC.ifaces == (FF.params.toList ++ SS.plain.varTypes PP).any (PP.ifacesRec ·))) = true := by kernel_rfl
theorem jf15 : ((CC.mapsOut == PP.mapsAmong FF.resultTypes.toList)) = true := by kernel_rfl
theorem jf16 : ((CC.loops == (FF.params.toList ++ SS.plain.varTypes PP).any (PP.loopsFrom ·))) = true := by kernel_rfl
theorem jf17 : ((CC.wideKeys == (FF.params.toList ++ SS.plain.varTypes PP ++ FF.resultTypes.toList).any (PP.wideKeysFrom ·))) = true := by kernel_rfl
theorem jf18 : (SS.vars.all (PP.varReadable ·)) = true := by kernel_rfl
theorem jf19 : (FF.resultTypes.all (fun t => PP.readableRec t && decide (t < PP.types.size))) = true := by kernel_rfl
theorem jf20 : ((CC.ifacesOut == FF.resultTypes.toList.any (PP.ifacesRec ·))) = true := by kernel_rfl
theorem jf21 : ((CC.loopsOut == FF.resultTypes.toList.any (PP.loopsFrom ·))) = true := by kernel_rfl
theorem jf22 : ((CC.plainKeys == PP.plainKeys)) = true := by kernel_rfl
theorem jf23 : (CC.shortTexts.isNone) = true := by kernel_rfl
theorem jf24 : (PP.stopsHeard) = true := by kernel_rfl
theorem jf25 : (PP.mayEnter) = true := by kernel_rfl
theorem jf26 : ((CC.lifted == PP.liftsFinal)) = true := by kernel_rfl
theorem jf27 : ((PP.make == some CC.make)) = true := by kernel_rfl
theorem jf28 : ((CC.kinds == (if CC.domain.isEmpty then [] else FF.params.toList.map fun t => match PP.underlying t with | some (.int k) => some k | _ => none))) = true := by kernel_rfl
theorem jf29 : ((CC.pinned == CC.pinnedBy)) = true := by kernel_rfl
theorem jf30 : ((CC.veiled == (FF.params.toList ++ SS.plain.varTypes PP ++ FF.resultTypes.toList).any (PP.veiledRec ·))) = true := by kernel_rfl
theorem jf31 : (CC.veiledFits PP FF.params.toList (FF.params.toList ++ SS.plain.varTypes PP ++ FF.resultTypes.toList)) = true := by kernel_rfl
end Go.Proofs.YtknpjlcgjlnfbaaGreatDoor.yardFull
