/-
  The contracts of AX4 hold: those of AX2, and the library's sort of strings by its proved summary.
-/
import Derived.Test.YtpbmpdocgplhpaaDoorDec
import Derived.Test.YtpbmpdocgplhpaaDoorGrl
set_option linter.unusedSimpArgs false
set_option linter.unusedVariables false
set_option maxRecDepth 100000
namespace Go.Proofs.YtpbmpdocgplhpaaDoor
open Go Go.AM

theorem AX4_ok {W : World} (S : Go.AM.Start Tryd.prog ρ0 H0 W) (T : Go.Lib.Utf8Tabs 2 3 W) : ExtOK Tryd.prog W AX4 := by
  intro f c hc
  unfold AX4 at hc
  cases hf : Nat.beq f 22 with
  | true => exact AX2_ok S T f c (by unfold AX2; rw [hf] at hc ⊢; exact hc)
  | false =>
    rw [hf] at hc
    cases hf9 : Nat.beq f 99 with
    | true => exact AX2_ok S T f c (by unfold AX2; rw [hf, hf9]; rw [hf9] at hc; exact hc)
    | false =>
      rw [hf9] at hc
      cases hf7 : Nat.beq f 78 with
      | false => rw [hf7] at hc; simp at hc
      | true =>
        obtain rfl := Nat.eq_of_beq_eq_true hf7
        rw [hf7] at hc
        simp only [cond_false, cond_true, Option.some.injEq] at hc
        subst hc
        intro args h v h' hr ρ w args' H K ha
        exact sort_fnok hr H ha
end Go.Proofs.YtpbmpdocgplhpaaDoor
