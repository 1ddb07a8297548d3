/-
  The contracts of AX3 hold: those of AX2, and the library's Contains by its proved summary.
-/
import Derived.Test.YtpbmpdocgplhpaaDoorDec
import Derived.Test.YtpbmpdocgplhpaaDoorAx3
import Derived.Shelf.Strings.Search3
import Derived.Shelf.Vars
set_option linter.unusedSimpArgs false
set_option linter.unusedVariables false
set_option maxRecDepth 100000
namespace Go.Proofs.YtpbmpdocgplhpaaDoor
open Go Go.AM Go.Shelf

def contRen : Ren := ⟨fun | 143 => 81 | 144 => 70 | 217 => 111 | 219 => 93 | 224 => 113 | 225 => 112 | 266 => 130 | 267 => 114 | 314 => 131 | n => n, fun | 3 => 3 | 4 => 4 | 5 => 5 | 9 => 9 | 46 => 33 | 51 => 131 | 146 => 147 | n => n, fun n => n⟩
theorem contLays : Lays.n144 Tryd.prog contRen := {
  mixed := by kernel_rfl
  f143 := Tryd.func81.trans (congrArg some (by kernel_rfl))
  f144 := Tryd.func70.trans (congrArg some (by kernel_rfl))
  f217 := Tryd.func111.trans (congrArg some (by kernel_rfl))
  f219 := Tryd.func93.trans (congrArg some (by kernel_rfl))
  f224 := Tryd.func113.trans (congrArg some (by kernel_rfl))
  f225 := Tryd.func112.trans (congrArg some (by kernel_rfl))
  f266 := Tryd.func130.trans (congrArg some (by kernel_rfl))
  f267 := Tryd.func114.trans (congrArg some (by kernel_rfl))
  f314 := Tryd.func131.trans (congrArg some (by kernel_rfl))
  t3 := Tryd.underlying3
  a3 := Tryd.isAgg3
  z3 := Tryd.sizeOf3
  v3 := Tryd.zeroValue3
  t4 := Tryd.underlying4
  a4 := Tryd.isAgg4
  z4 := Tryd.sizeOf4
  v4 := Tryd.zeroValue4
  t5 := Tryd.underlying5
  a5 := Tryd.isAgg5
  z5 := Tryd.sizeOf5
  v5 := Tryd.zeroValue5
  t9 := Tryd.underlying9
  a9 := Tryd.isAgg9
  z9 := Tryd.sizeOf9
  v9 := Tryd.zeroValue9
  t46 := Tryd.underlying33
  a46 := Tryd.isAgg33
  z46 := Tryd.sizeOf33
  v46 := Tryd.zeroValue33
  t51 := Tryd.underlying131
  a51 := Tryd.isAgg131
  z51 := Tryd.sizeOf131
  v51 := Tryd.zeroValue131
  t146 := Tryd.underlying147
  a146 := Tryd.isAgg147
  z146 := Tryd.sizeOf147
  v146 := Tryd.zeroValue147
  g1 := by kernel_rfl
}
theorem maxlen_cell {W : World} (h : W.ShapedOpen Tryd.prog) : ∃ m, W.cell? ⟨1, 0, none⟩ = some (.int .i64 m) :=
  cell_of_shapedOpen_int (t := 3) (zero := #[.int .i64 0]) h (by rw [globals4]; omega) (by kernel_rfl) rfl (by kernel_rfl) (by kernel_rfl) Tryd.underlying3
theorem AX3_ok {W : World} (S : Go.AM.Start Tryd.prog ρ0 H0 W) (T : Go.Lib.Utf8Tabs 2 3 W) (hm : ∃ m, W.cell? ⟨1, 0, none⟩ = some (.int .i64 m)) : ExtOK Tryd.prog W AX3 := by
  intro f c hc
  unfold AX3 at hc
  cases hf : Nat.beq f 22 with
  | true => exact AX2_ok S T f c (by unfold AX2; rw [hf] at hc ⊢; exact hc)
  | false =>
    rw [hf] at hc
    cases hf9 : Nat.beq f 99 with
    | true => exact AX2_ok S T f c (by unfold AX2; rw [hf, hf9]; rw [hf9] at hc; exact hc)
    | false =>
      rw [hf9] at hc
      cases hf7 : Nat.beq f 70 with
      | false => rw [hf7] at hc; simp at hc
      | true =>
        obtain rfl := Nat.eq_of_beq_eq_true hf7
        rw [hf7] at hc
        simp only [cond_false, cond_true, Option.some.injEq] at hc
        subst hc
        intro args h v h' hr ρ w args' H K ha
        unfold contC at hr
        split at hr
        · rename_i s sub
          split at hr
          · rename_i hs
            simp only [Option.some.injEq, Prod.mk.injEq] at hr
            obtain ⟨rfl, rfl⟩ := hr
            have hargs : args' = #[.string s, .string sub] := by
              apply Array.toList_inj.1
              show args'.toList = [.string s, .string sub]
              generalize args'.toList = l at ha
              cases ha with
              | cons hv ht =>
                cases hv
                cases ht with
                | cons hv ht => cases hv; cases ht; rfl
            subst hargs
            obtain ⟨m, hm⟩ := hm
            have hmw : w.cell? ⟨1, 0, none⟩ = some (.int .i64 m) := by
              have := K 1 (by rw [globals4]; omega)
              simp only [World.cell?, this] at hm ⊢
              exact hm
            have hcall := Any.strings_Contains (ρ := contRen) contLays s sub m w hs hmw
            refine ⟨by kernel_rfl, fun cs => ?_⟩
            obtain ⟨e, w', fr, ⟨rfl, rfl⟩, hst, h1, h2⟩ := hcall cs
            obtain ⟨k1, k2⟩ := H.later (Nat.le_refl _) (fun _ _ => rfl) rfl rfl rfl
            exact ⟨ρ, _, _, fr, .bool _, k1, k2, hst, h1, h2⟩
          · simp at hr
        · simp at hr
end Go.Proofs.YtpbmpdocgplhpaaDoor
