/-
  The contracts of AX2 hold: awake by the kernel's run, the library's last rune by its proved summary.
-/
import Derived.Test.YtpbmpdocgplhpaaDoorAx2
import Derived.Test.YtpbmpdocgplhpaaDoorMG
import Derived.Shelf.Unicode.DecodeLast
import Derived.Lib.LaidU8T
set_option linter.unusedSimpArgs false
set_option linter.unusedVariables false
set_option maxRecDepth 100000
namespace Go.Proofs.YtpbmpdocgplhpaaDoor
open Go Go.AM Go.Shelf

def decRen : Ren := ⟨fun | 271 => 99 | 120 => 122 | 197 => 123 | 260 => 137 | n => n, fun | 9 => 9 | 21 => 21 | 3 => 3 | 4 => 4 | 5 => 5 | 105 => 121 | 119 => 155 | 0 => 0 | 46 => 33 | 139 => 158 | 138 => 157 | n => n, fun | 3 => 2 | 4 => 3 | n => n⟩
theorem decLays : Lays.n271 Tryd.prog decRen := {
  mixed := by kernel_rfl
  f120 := Tryd.func122.trans (congrArg some (by kernel_rfl))
  f197 := Tryd.func123.trans (congrArg some (by kernel_rfl))
  f260 := Tryd.func137.trans (congrArg some (by kernel_rfl))
  f271 := Tryd.func99.trans (congrArg some (by kernel_rfl))
  t0 := Tryd.underlying0
  a0 := Tryd.isAgg0
  z0 := Tryd.sizeOf0
  v0 := Tryd.zeroValue0
  t3 := Tryd.underlying3
  a3 := Tryd.isAgg3
  z3 := Tryd.sizeOf3
  v3 := Tryd.zeroValue3
  t4 := Tryd.underlying4
  a4 := Tryd.isAgg4
  z4 := Tryd.sizeOf4
  v4 := Tryd.zeroValue4
  t5 := Tryd.underlying5
  a5 := Tryd.isAgg5
  z5 := Tryd.sizeOf5
  v5 := Tryd.zeroValue5
  t9 := Tryd.underlying9
  a9 := Tryd.isAgg9
  z9 := Tryd.sizeOf9
  v9 := Tryd.zeroValue9
  t21 := Tryd.underlying21
  a21 := Tryd.isAgg21
  z21 := Tryd.sizeOf21
  v21 := Tryd.zeroValue21
  t46 := Tryd.underlying33
  a46 := Tryd.isAgg33
  z46 := Tryd.sizeOf33
  v46 := Tryd.zeroValue33
  t105 := Tryd.underlying121
  a105 := Tryd.isAgg121
  z105 := Tryd.sizeOf121
  v105 := Tryd.zeroValue121
  t119 := Tryd.underlying155
  a119 := Tryd.isAgg155
  z119 := Tryd.sizeOf155
  t138 := Tryd.underlying157
  a138 := Tryd.isAgg157
  z138 := Tryd.sizeOf157
  v138 := Tryd.zeroValue157
  t139 := Tryd.underlying158
  a139 := Tryd.isAgg158
  z139 := Tryd.sizeOf158
  v139 := Tryd.zeroValue158
  g3 := by kernel_rfl
  g4 := by kernel_rfl
}
theorem decExtra : U8Extra Tryd.prog decRen := ⟨by kernel_rfl, by kernel_rfl, by kernel_rfl, by kernel_rfl, by kernel_rfl, by kernel_rfl, by kernel_rfl⟩
theorem decTypes : U8Types Tryd.prog decRen := ⟨decLays.t5, decLays.t119, decLays.t138, decLays.t139⟩
theorem decTabs {W : World} (h : laidMet Tryd.prog [("unicode/utf8.acceptRanges", Rows.laid_unicode_utf8_acceptRanges), ("careen/flag.none", Rows.laid_careen_flag_none), ("unicode/utf8.first", Rows.laid_unicode_utf8_first)] W) : Go.Lib.Utf8Tabs 2 3 W := by
  obtain ⟨ps, hv, _, _⟩ := h
  have r := Go.Lib.LaidVars_reads hv
  have e1 : Rows.laid_unicode_utf8_first = Go.Lib.firstData := by kernel_rfl
  have e2 : Rows.laid_unicode_utf8_acceptRanges = Go.Lib.acceptData := by kernel_rfl
  exact utf8Tabs_of_readsT (ρ := decRen) decTypes decExtra (r "unicode/utf8.first" Go.Lib.firstData (by rw [← e1]; simp)) (r "unicode/utf8.acceptRanges" Go.Lib.acceptData (by rw [← e2]; simp))
theorem tabs_kept {W w : World} (T : Go.Lib.Utf8Tabs 2 3 W) (K : Kept Tryd.prog.globals.size W w) : Go.Lib.Utf8Tabs 2 3 w := by
  have c : ∀ g i, g < 4 → w.cell? ⟨g, i, none⟩ = W.cell? ⟨g, i, none⟩ := by
    intro g i hg
    have := K g (by rw [globals4]; exact hg)
    simp only [World.cell?, this]
  refine ⟨fun i hi => ?_, fun i hi => ⟨?_, ?_⟩⟩
  · rw [c _ _ (by omega)]; exact T.1 i hi
  · rw [c _ _ (by omega)]; exact (T.2 i hi).1
  · rw [c _ _ (by omega)]; exact (T.2 i hi).2

theorem AX2_ok {W : World} (S : Go.AM.Start Tryd.prog ρ0 H0 W) (T : Go.Lib.Utf8Tabs 2 3 W) : ExtOK Tryd.prog W AX2 := by
  intro f c hc args h v h' hr ρ w args' H K ha
  unfold AX2 at hc
  cases hf : Nat.beq f 22 with
  | true =>
    obtain rfl := Nat.eq_of_beq_eq_true hf
    rw [hf] at hc
    simp only [cond_true, Option.some.injEq] at hc
    subst hc
    cases args with
    | nil =>
      simp only [awakeC, Option.some.injEq, Prod.mk.injEq] at hr
      obtain ⟨rfl, rfl⟩ := hr
      obtain ⟨h1, hb⟩ := callTrue_spec awake_run
      exact FnOK_plain mixed progOK' S (noX_ok W) hb rfl rfl H K ha
    | cons a l => simp [awakeC] at hr
  | false =>
    rw [hf] at hc
    cases hf9 : Nat.beq f 99 with
    | false => rw [hf9] at hc; simp at hc
    | true =>
      obtain rfl := Nat.eq_of_beq_eq_true hf9
      rw [hf9] at hc
      simp only [cond_false, cond_true, Option.some.injEq] at hc
      subst hc
      unfold decC at hr
      split at hr
      · rename_i s
        split at hr
        · rename_i hs
          simp only [Option.some.injEq, Prod.mk.injEq] at hr
          obtain ⟨rfl, rfl⟩ := hr
          have hargs : args' = #[.string s] := by
            apply Array.toList_inj.1
            show args'.toList = [.string s]
            generalize args'.toList = l at ha
            cases ha with
            | cons hv ht => cases hv; cases ht; rfl
          subst hargs
          have hcall := Any.utf8_DecodeLastRuneInString (ρ := decRen) decLays s w hs (tabs_kept T K)
          refine ⟨by kernel_rfl, fun cs => ?_⟩
          obtain ⟨e, w', fr, ⟨rfl, hB⟩, hst, h1, h2⟩ := hcall cs
          obtain ⟨k1, k2⟩ := H.later hB.size hB.block hB.tape hB.os hB.output
          exact ⟨ρ, _, w', fr, plain_rel (ρ := ρ) rfl (VRel.tuple rfl (fun i hi hi' => by
            match i, hi with
            | 0, _ => exact .int _ _
            | 1, _ => exact .int _ _)) ρ, k1, k2, hst, h1, h2⟩
        · simp at hr
      · simp at hr
end Go.Proofs.YtpbmpdocgplhpaaDoor
