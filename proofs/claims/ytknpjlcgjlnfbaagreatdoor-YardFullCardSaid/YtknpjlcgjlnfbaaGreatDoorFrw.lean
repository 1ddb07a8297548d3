/-
  The row of 'careenlaw11.YardFull': the abstract executor's run of the law, carried to the machine and to the row's form (merged by program of Fuk Fjc Fsd).
-/
import Derived.Test.YtknpjlcgjlnfbaaGreatDoorFukA
import Derived.Test.YtknpjlcgjlnfbaaGreatDoorFukB
import Derived.Test.YtknpjlcgjlnfbaaGreatDoorFuq
import Derived.Test.YtknpjlcgjlnfbaaGreatDoorFjf
import Derived.Test.YtknpjlcgjlnfbaaGreatDoorYwit
import Derived.ChangeMaps5
set_option maxRecDepth 100000
namespace Go.Proofs.YtknpjlcgjlnfbaaGreatDoor
open Go Go.AM Go.AMT
theorem fu0Tab_ok : ∀ e ∈ fu0Tab, stepOKm e = true := by
  intro e he
  unfold fu0Tab at he
  simp only [List.mem_cons, List.not_mem_nil, or_false] at he
  rcases he with rfl | rfl | rfl | rfl | rfl | rfl | rfl | rfl | rfl | rfl | rfl | rfl | rfl | rfl | rfl | rfl | rfl | rfl | rfl | rfl | rfl | rfl | rfl | rfl | rfl | rfl | rfl
  · exact fu0E1_ok
  · exact fu0E2_ok
  · exact fu0E3_ok
  · exact fu0E4_ok
  · exact fu0E5_ok
  · exact fu0E6_ok
  · exact fu0E7_ok
  · exact fu0E8_ok
  · exact fu0E9_ok
  · exact fu0E10_ok
  · exact fu0E11_ok
  · exact fu0E12_ok
  · exact fu0E13_ok
  · exact fu0E14_ok
  · exact fu0E15_ok
  · exact fu0E16_ok
  · exact fu0E17_ok
  · exact fu0E18_ok
  · exact fu0E19_ok
  · exact fu0E20_ok
  · exact fu0E21_ok
  · exact fu0E22_ok
  · exact fu0E23_ok
  · exact fu0E24_ok
  · exact fu0E25_ok
  · exact fu0E26_ok
  · exact fu0E27_ok
theorem fu1Tab_ok : ∀ e ∈ fu1Tab, stepOKm e = true := by
  intro e he
  unfold fu1Tab at he
  simp only [List.mem_cons, List.not_mem_nil, or_false] at he
  rcases he with rfl | rfl | rfl | rfl | rfl | rfl | rfl | rfl | rfl | rfl | rfl | rfl | rfl | rfl | rfl | rfl | rfl | rfl | rfl
  · exact fu1E1_ok
  · exact fu1E2_ok
  · exact fu1E3_ok
  · exact fu1E4_ok
  · exact fu1E5_ok
  · exact fu1E6_ok
  · exact fu1E7_ok
  · exact fu1E8_ok
  · exact fu1E9_ok
  · exact fu1E10_ok
  · exact fu1E11_ok
  · exact fu1E12_ok
  · exact fu1E13_ok
  · exact fu1E14_ok
  · exact fu1E15_ok
  · exact fu1E16_ok
  · exact fu1E17_ok
  · exact fu1E18_ok
  · exact fu1E19_ok
theorem fu2Tab_ok : ∀ e ∈ fu2Tab, stepOKm e = true := by
  intro e he
  unfold fu2Tab at he
  simp only [List.mem_cons, List.not_mem_nil, or_false] at he
  rcases he with rfl | rfl | rfl | rfl | rfl | rfl | rfl | rfl | rfl | rfl | rfl | rfl | rfl | rfl | rfl | rfl | rfl | rfl | rfl
  · exact fu2E1_ok
  · exact fu2E2_ok
  · exact fu2E3_ok
  · exact fu2E4_ok
  · exact fu2E5_ok
  · exact fu2E6_ok
  · exact fu2E7_ok
  · exact fu2E8_ok
  · exact fu2E9_ok
  · exact fu2E10_ok
  · exact fu2E11_ok
  · exact fu2E12_ok
  · exact fu2E13_ok
  · exact fu2E14_ok
  · exact fu2E15_ok
  · exact fu2E16_ok
  · exact fu2E17_ok
  · exact fu2E18_ok
  · exact fu2E19_ok
theorem fu3Tab_ok : ∀ e ∈ fu3Tab, stepOKm e = true := by
  intro e he
  unfold fu3Tab at he
  simp only [List.mem_cons, List.not_mem_nil, or_false] at he
  rcases he with rfl | rfl | rfl | rfl | rfl | rfl | rfl | rfl | rfl | rfl | rfl | rfl | rfl | rfl
  · exact fu3E1_ok
  · exact fu3E2_ok
  · exact fu3E3_ok
  · exact fu3E4_ok
  · exact fu3E5_ok
  · exact fu3E6_ok
  · exact fu3E7_ok
  · exact fu3E8_ok
  · exact fu3E9_ok
  · exact fu3E10_ok
  · exact fu3E11_ok
  · exact fu3E12_ok
  · exact fu3E13_ok
  · exact fu3E14_ok
theorem fu4Tab_ok : ∀ e ∈ fu4Tab, stepOKm e = true := by
  intro e he
  unfold fu4Tab at he
  simp only [List.mem_cons, List.not_mem_nil, or_false] at he
  rcases he with rfl | rfl | rfl | rfl | rfl | rfl | rfl | rfl | rfl | rfl | rfl
  · exact fu4E1_ok
  · exact fu4E2_ok
  · exact fu4E3_ok
  · exact fu4E4_ok
  · exact fu4E5_ok
  · exact fu4E6_ok
  · exact fu4E7_ok
  · exact fu4E8_ok
  · exact fu4E9_ok
  · exact fu4E10_ok
  · exact fu4E11_ok
theorem fuTab_ok : ∀ e ∈ fuTab, stepOKm e = true := by
  intro e he
  unfold fuTab at he
  simp only [List.mem_append] at he
  rcases he with h | h | h | h | h
  · exact fu0Tab_ok e h
  · exact fu1Tab_ok e h
  · exact fu2Tab_ok e h
  · exact fu3Tab_ok e h
  · exact fu4Tab_ok e h
end Go.Proofs.YtknpjlcgjlnfbaaGreatDoor

set_option maxRecDepth 100000
namespace Go.Proofs.YtknpjlcgjlnfbaaGreatDoor.yardFull
open Go Go.ChangeShapes Go.WideShapes Go.RowKit
theorem closed : joinedFacts PP 6 FF SS CC = true := by
  unfold joinedFacts
  simp only [jf0, jf1, jf2, jf3, jf4, jf5, jf6, jf7, jf8, jf9, jf10, jf11, jf12, jf13, jf14, jf15, jf16, jf17, jf18, jf19, jf20, jf21, jf22, jf23, jf24, jf25, jf26, jf27, jf29, jf30, jf31, Bool.and_self]
  simp only [Bool.true_and, Bool.and_true]
  exact jf28
end Go.Proofs.YtknpjlcgjlnfbaaGreatDoor.yardFull

set_option linter.unusedSimpArgs false
set_option linter.unusedVariables false
set_option maxRecDepth 100000
namespace Go.Proofs.YtknpjlcgjlnfbaaGreatDoor.yardFull
open Go Go.AM Go.ChangeShapes Go.WideShapes Go.ChangeAt Go.RowKit

theorem own : ownKnob Tryz.prog.godebug = none := by kernel_rfl

theorem contract (H : Type) (enc : TypeId × Value → H) (W : World) (base : Nat) (args : Array Value) (ds gs : List (DataW H)) (before : List MemPlace)
    (hval : ∀ (j : Nat) t v, Tryz.f6.params[j]? = some t → args[j]? = some v → Value.okWide Tryz.prog W .any base t v)
    (hW : DataW.Whole enc Tryz.prog Tryz.f6.params.toList Rows.yardFullSpec.vars false W args.toList ds gs before) (hL : laidMetH Tryz.prog Rows.yardFullRow.laid W) (hsh : W.ShapedOpen Tryz.prog) :
    Calls Tryz.prog 6 args W fun e W' => ∃ v, e = .returned v ∧ Rows.yardFullSpec.post enc Tryz.prog Tryz.f6 false true false false W args v W' := by
  have hW' := hW
  obtain ⟨p, q, hA0, hV, rfl, hfz, hnd⟩ := hW
  have hA : DataW.TrodAll enc Tryz.prog W 0 (fun _ => true) true Tryz.f6.params.toList args.toList ds p := hA0
  rw [Tryz.params6] at hA hval
  obtain ⟨v0, vs0, d0, ds0, p0, q0, hargs, rfl, rfl, h0, r0⟩ := trodAll_cons hA
  obtain ⟨rfl, rfl, rfl⟩ := trodAll_nil r0
  obtain rfl : args = #[v0] := by cases args; simp_all
  obtain ⟨rfl, rfl⟩ := trodVars_none hV
  obtain ⟨k, rfl, rfl, rfl, hk⟩ := open_int Tryz.underlying3 (hval 0 3 v0 rfl rfl) h0
  clear hA0
  simp only [List.append_nil] at hW'
  have S := start hL hsh
  have Y := yw_of hL hsh
  refine (calls_true S (AXF_ok S Y fuTab_ok) (full_call k) (args' := #[.int .i64 k]) (.cons (.int _ _) .nil)).mono fun e W' ⟨he, hb, hos, hout⟩ => ?_
  subst he
  exact ⟨_, rfl, post_below (pa := []) (pv := []) hW' (fun _ _ _ => trodAll_cons_mk (shut_bool Tryz.underlying4 _) trodAll_mk0) (fun _ _ => trodAll_cons_mk (shut_int Tryz.underlying3 hk) trodAll_mk0) (fun _ _ => rfl) rfl
    hb hos hout (ok_one (by kernel_rfl) rfl (okWide_bool_mk Tryz.underlying4 _))⟩

theorem reads (os : Os) {H : Type} (enc : TypeId × Value → H) : ∃ places, DataW.whole enc Tryz.prog ((laidWorld os).forCall (fun _ _ => 0) ⟨#[], #[.int .i64 0], []⟩).memory Tryz.f6.params.toList Rows.yardFullSpec.vars false #[Value.int .i64 0].toList 8 = some ([.lit (.int .i64 0)], [], places) :=
  ⟨[], by kernel_rfl⟩
theorem lifted (os : Os) (started : os.Started) (H : Type) (enc : TypeId × Value → H) (F : Stop.Interp) :
    ReturnsInHanded {} Tryz.checked os 6 .any ((OpenSpec.ofChange Rows.yardFullSpec).preRow enc Tryz.prog Tryz.f6 Rows.yardFullRow.domain false Rows.yardFullRow.laid) (((OpenSpec.ofChange Rows.yardFullSpec).at F).post enc Tryz.prog Tryz.f6 false true false false) := by
  obtain ⟨places, hx⟩ := reads os enc
  refine returnsInHanded_of_row (C := Tryz.checked) (s := OpenSpec.ofChange Rows.yardFullSpec) own started (by kernel_rfl) Tryz.func6
    (witness_row_at (enc := enc) (C := Tryz.checked) false (laidWorld os) #[.int .i64 0] rfl (by kernel_rfl) (by kernel_rfl) (by kernel_rfl)
      (OpenSpec.preRow_of_cond 8 hx (by kernel_rfl) (fun k hk => by cases hk) (by kernel_rfl) (laid_met os _))) ?_
  intro W base args ds gs before hval hW _ _ _ hL hsh _
  exact contract H enc W base args ds gs before hval hW hL hsh

theorem said : Rows.YardFullSaid :=
  OpenClaim.holds_of_cond 6 Tryz.f6 rfl rfl rfl rfl rfl rfl rfl ⟨rfl, rfl, rfl, rfl, rfl⟩ rfl rfl rfl rfl rfl (by kernel_rfl) Tryz.func6 closed
    (of_decide_eq_true (by kernel_rfl)) (by unfold Func.isWrapper; first | (rw [if_pos (by decide +kernel)]; kernel_rfl) | (rw [if_neg (by decide +kernel)]; exact ⟨rfl, rfl⟩))
    (fun os started H enc _ F => by rw [OpenClaim.pre_eq_preRow]; exact lifted os started H enc F)

end Go.Proofs.YtknpjlcgjlnfbaaGreatDoor.yardFull
