/-
  Static facts of the card of YardFull (merged by program).
-/
import Derived.Test.YtknpjlcgjlnfbaaGreatDoorCards
import Derived.Test.YtknpjlcgjlnfbaaGreatDoorTie
import Derived.WalkKit
import Derived.KernelRfl
set_option linter.unusedSimpArgs false
set_option linter.unusedVariables false
set_option maxRecDepth 100000
namespace Go.Proofs.YtknpjlcgjlnfbaaGreatDoor.yardFull
open Go Go.ChangeShapes Go.WideShapes Go.RowKit

theorem plain (f : FuncId) (fn : Func) (hf : Tryz.pinned.checked.prog.funcNamed "careen/careenlaw11.YardFull" = some f) (hfn : Tryz.pinned.checked.prog.funcs[f]? = some fn) :
    true = Tryz.pinned.checked.prog.looks [] ∧ ∀ (j : Nat) t, fn.params[j]? = some t → Tryz.pinned.checked.prog.wantsStandIn t = false := by
  obtain rfl : f = 6 := Option.some.inj ((show Tryz.prog.funcNamed "careen/careenlaw11.YardFull" = some 6 by kernel_rfl).symm.trans hf) |>.symm
  obtain rfl : fn = Tryz.f6 := (Option.some.inj (Tryz.func6.symm.trans hfn)).symm
  refine ⟨by kernel_rfl, fun j t ht => ?_⟩
  rw [Tryz.params6] at ht
  have ht' := Array.mem_of_getElem? ht
  obtain rfl : t = 3 := by simpa using ht'
  exact (show Tryz.prog.wantsStandIn 3 = false by kernel_rfl)

end Go.Proofs.YtknpjlcgjlnfbaaGreatDoor.yardFull

set_option maxRecDepth 100000
namespace Go.Proofs.YtknpjlcgjlnfbaaGreatDoor.yardFull
open Go Go.ChangeShapes Go.WideShapes Go.RowKit
theorem cw : Rows.yardFullRow.wfByText (OpenSpec.ofChange Rows.yardFullSpec) = true := by kernel_rfl
theorem cm : Tryz.pinned.checked.prog.mainIs = some (true, "dfb7ba1c9d92011f415833c644e22158602203b56f136b7504d70efe473cb057".toList) := by kernel_rfl
end Go.Proofs.YtknpjlcgjlnfbaaGreatDoor.yardFull

set_option maxRecDepth 100000
namespace Go.Proofs.YtknpjlcgjlnfbaaGreatDoor.yardFull
open Go Go.ChangeShapes Go.WideShapes Go.RowKit
theorem noGo : Tryz.pinned.checked.prog.funcs.toList.all (fun fn => !fn.goes) = true := by kernel_rfl
theorem goes_of {P : Program} (h : P.funcs.toList.all (fun fn => !fn.goes) = true) (f : FuncId) : P.goes f = false := by
  have h0 : ∀ fn ∈ P.funcs.toList, fn.goes = false := fun fn hf => by have := List.all_eq_true.1 h fn hf; simpa using this
  have h1 : ∀ g : FuncId, (P.funcs[g]?).any Func.goes = false := by
    intro g
    cases hg : P.funcs[g]? with
    | none => rfl
    | some fn => exact h0 fn (by simpa using Array.mem_of_getElem? hg)
  have h2 : P.funcs.any Func.goes = false := by
    rw [← Array.any_toList, List.any_eq_false]
    intro fn hf
    rw [h0 fn hf]; simp
  unfold Program.goes
  rw [h2, Bool.and_false, Bool.or_false, List.any_eq_false]
  intro g _
  rw [h1 g]; simp
theorem cg : false = Rows.yardFullRow.goesBy Tryz.pinned.checked.prog := by
  have hs : Rows.yardFullRow.start = .entering := rfl
  unfold OpenClaim.goesBy Program.goesAt Program.goesFrom
  rw [hs]
  cases Tryz.pinned.checked.prog.funcNamed Rows.yardFullRow.func with
  | none => rfl
  | some f => simp only [Option.any_some, goes_of noGo f, Bool.or_false]
end Go.Proofs.YtknpjlcgjlnfbaaGreatDoor.yardFull
