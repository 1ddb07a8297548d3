/-
  'awake' answers true on any heap and leaves it as it is: run once by the kernel on the bare heap.
-/
import Derived.Test.YtpbmpdocgplhpaaDoorBase
import Derived.Test.YtpbmpdocgplhpaaDoorAwakeRun
set_option linter.unusedSimpArgs false
set_option linter.unusedVariables false
set_option maxRecDepth 100000
namespace Go.Proofs.YtpbmpdocgplhpaaDoor
open Go Go.AM

/-- The one contract: awake. -/
def AX : Ext := fun f => bif Nat.beq f 22 then some (fun args h => match args with | [] => some (.bool true, h) | _ => none) else none

theorem AX_ok {W : World} (S : Go.AM.Start Tryd.prog ρ0 H0 W) : ExtOK Tryd.prog W AX := by
  intro f c hc args h v h' hr ρ w args' H K ha
  unfold AX at hc
  cases hf : Nat.beq f 22 with
  | false => rw [hf] at hc; simp at hc
  | true =>
    obtain rfl := Nat.eq_of_beq_eq_true hf
    rw [hf] at hc
    simp only [cond_true, Option.some.injEq] at hc
    subst hc
    cases args with
    | nil =>
      simp only [Option.some.injEq, Prod.mk.injEq] at hr
      obtain ⟨rfl, rfl⟩ := hr
      obtain ⟨h1, hb⟩ := callTrue_spec awake_run
      exact FnOK_plain mixed progOK' S (noX_ok W) hb rfl rfl H K ha
    | cons a l => simp at hr
end Go.Proofs.YtpbmpdocgplhpaaDoor
