/-
  The contracts of AX2 hold: awake by the kernel's run, the library's last rune by its proved summary.
-/
import Derived.Test.YtpbmpdocgplhpaaGreatDoorAx2
import Derived.Test.YtpbmpdocgplhpaaGreatDoorMG
import Derived.Shelf.Unicode.DecodeLast
import Derived.Lib.LaidU8T
set_option linter.unusedSimpArgs false
set_option linter.unusedVariables false
set_option maxRecDepth 100000
namespace Go.Proofs.YtpbmpdocgplhpaaGreatDoor
open Go Go.AM Go.Shelf

def decRen : Ren := ⟨fun | 271 => 137 | 120 => 168 | 197 => 150 | 260 => 175 | n => n, fun | 9 => 9 | 21 => 21 | 3 => 3 | 4 => 4 | 5 => 5 | 105 => 182 | 119 => 218 | 0 => 0 | 46 => 59 | 139 => 221 | 138 => 220 | n => n, fun | 3 => 3 | 4 => 4 | n => n⟩
theorem decLays : Lays.n271 Tryz.prog decRen := {
  mixed := by kernel_rfl
  f120 := Tryz.func168.trans (congrArg some (by kernel_rfl))
  f197 := Tryz.func150.trans (congrArg some (by kernel_rfl))
  f260 := Tryz.func175.trans (congrArg some (by kernel_rfl))
  f271 := Tryz.func137.trans (congrArg some (by kernel_rfl))
  t0 := Tryz.underlying0
  a0 := Tryz.isAgg0
  z0 := Tryz.sizeOf0
  v0 := Tryz.zeroValue0
  t3 := Tryz.underlying3
  a3 := Tryz.isAgg3
  z3 := Tryz.sizeOf3
  v3 := Tryz.zeroValue3
  t4 := Tryz.underlying4
  a4 := Tryz.isAgg4
  z4 := Tryz.sizeOf4
  v4 := Tryz.zeroValue4
  t5 := Tryz.underlying5
  a5 := Tryz.isAgg5
  z5 := Tryz.sizeOf5
  v5 := Tryz.zeroValue5
  t9 := Tryz.underlying9
  a9 := Tryz.isAgg9
  z9 := Tryz.sizeOf9
  v9 := Tryz.zeroValue9
  t21 := Tryz.underlying21
  a21 := Tryz.isAgg21
  z21 := Tryz.sizeOf21
  v21 := Tryz.zeroValue21
  t46 := Tryz.underlying59
  a46 := Tryz.isAgg59
  z46 := Tryz.sizeOf59
  v46 := Tryz.zeroValue59
  t105 := Tryz.underlying182
  a105 := Tryz.isAgg182
  z105 := Tryz.sizeOf182
  v105 := Tryz.zeroValue182
  t119 := Tryz.underlying218
  a119 := Tryz.isAgg218
  z119 := Tryz.sizeOf218
  t138 := Tryz.underlying220
  a138 := Tryz.isAgg220
  z138 := Tryz.sizeOf220
  v138 := Tryz.zeroValue220
  t139 := Tryz.underlying221
  a139 := Tryz.isAgg221
  z139 := Tryz.sizeOf221
  v139 := Tryz.zeroValue221
  g3 := by kernel_rfl
  g4 := by kernel_rfl
}
theorem decExtra : U8Extra Tryz.prog decRen := ⟨by kernel_rfl, by kernel_rfl, by kernel_rfl, by kernel_rfl, by kernel_rfl, by kernel_rfl, by kernel_rfl⟩
theorem decTypes : U8Types Tryz.prog decRen := ⟨decLays.t5, decLays.t119, decLays.t138, decLays.t139⟩
theorem decTabs {W : World} (h : laidMet Tryz.prog [("unicode/utf8.acceptRanges", Rows.laid_unicode_utf8_acceptRanges), ("careen/flag.none", Rows.laid_careen_flag_none), ("unicode/utf8.first", Rows.laid_unicode_utf8_first)] W) : Go.Lib.Utf8Tabs 3 4 W := by
  obtain ⟨ps, hv, _, _⟩ := h
  have r := Go.Lib.LaidVars_reads hv
  have e1 : Rows.laid_unicode_utf8_first = Go.Lib.firstData := by kernel_rfl
  have e2 : Rows.laid_unicode_utf8_acceptRanges = Go.Lib.acceptData := by kernel_rfl
  exact utf8Tabs_of_readsT (ρ := decRen) decTypes decExtra (r "unicode/utf8.first" Go.Lib.firstData (by rw [← e1]; simp)) (r "unicode/utf8.acceptRanges" Go.Lib.acceptData (by rw [← e2]; simp))
theorem tabs_kept {W w : World} (T : Go.Lib.Utf8Tabs 3 4 W) (K : Kept Tryz.prog.globals.size W w) : Go.Lib.Utf8Tabs 3 4 w := by
  have c : ∀ g i, g < 6 → w.cell? ⟨g, i, none⟩ = W.cell? ⟨g, i, none⟩ := by
    intro g i hg
    have := K g (by rw [globals4]; exact hg)
    simp only [World.cell?, this]
  refine ⟨fun i hi => ?_, fun i hi => ⟨?_, ?_⟩⟩
  · rw [c _ _ (by omega)]; exact T.1 i hi
  · rw [c _ _ (by omega)]; exact (T.2 i hi).1
  · rw [c _ _ (by omega)]; exact (T.2 i hi).2

theorem AX2_ok {W : World} (S : Go.AM.Start Tryz.prog ρ0 H0 W) (T : Go.Lib.Utf8Tabs 3 4 W) : ExtOK Tryz.prog W AX2 := by
  intro f c hc args h v h' hr ρ w args' H K ha
  unfold AX2 at hc
  cases hf : Nat.beq f 21 with
  | true =>
    obtain rfl := Nat.eq_of_beq_eq_true hf
    rw [hf] at hc
    simp only [cond_true, Option.some.injEq] at hc
    subst hc
    cases args with
    | nil =>
      simp only [awakeC, Option.some.injEq, Prod.mk.injEq] at hr
      obtain ⟨rfl, rfl⟩ := hr
      obtain ⟨h1, hb⟩ := callTrue_spec awake_run
      exact FnOK_plain mixed progOK' S (noX_ok W) hb rfl rfl H K ha
    | cons a l => simp [awakeC] at hr
  | false =>
    rw [hf] at hc
    cases hf9 : Nat.beq f 137 with
    | false => rw [hf9] at hc; simp at hc
    | true =>
      obtain rfl := Nat.eq_of_beq_eq_true hf9
      rw [hf9] at hc
      simp only [cond_false, cond_true, Option.some.injEq] at hc
      subst hc
      unfold decC at hr
      split at hr
      · rename_i s
        split at hr
        · rename_i hs
          simp only [Option.some.injEq, Prod.mk.injEq] at hr
          obtain ⟨rfl, rfl⟩ := hr
          have hargs : args' = #[.string s] := by
            apply Array.toList_inj.1
            show args'.toList = [.string s]
            generalize args'.toList = l at ha
            cases ha with
            | cons hv ht => cases hv; cases ht; rfl
          subst hargs
          have hcall := Any.utf8_DecodeLastRuneInString (ρ := decRen) decLays s w hs (tabs_kept T K)
          refine ⟨by kernel_rfl, fun cs => ?_⟩
          obtain ⟨e, w', fr, ⟨rfl, hB⟩, hst, h1, h2⟩ := hcall cs
          obtain ⟨k1, k2⟩ := H.later hB.size hB.block hB.tape hB.os hB.output
          exact ⟨ρ, _, w', fr, plain_rel (ρ := ρ) rfl (VRel.tuple rfl (fun i hi hi' => by
            match i, hi with
            | 0, _ => exact .int _ _
            | 1, _ => exact .int _ _)) ρ, k1, k2, hst, h1, h2⟩
        · simp at hr
      · simp at hr
end Go.Proofs.YtpbmpdocgplhpaaGreatDoor
