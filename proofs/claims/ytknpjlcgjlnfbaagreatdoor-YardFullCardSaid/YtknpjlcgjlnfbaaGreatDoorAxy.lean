/-
  The contracts that the abstract executor leans on in the yard's walks.
-/
import Derived.Test.YtknpjlcgjlnfbaaGreatDoorAs3
set_option linter.unusedSimpArgs false
set_option linter.unusedVariables false
set_option maxRecDepth 100000
namespace Go.Proofs.YtknpjlcgjlnfbaaGreatDoor
open Go Go.AM

/-- The contracts of the library's functions and of codeOf. -/
def AXL : Ext := fun f =>
  bif Nat.beq f 60 then some contC else bif Nat.beq f 119 then some splitC else bif Nat.beq f 117 then some joinC else bif Nat.beq f 195 then some trimC else
  bif Nat.beq f 172 then some itoaC else bif Nat.beq f 116 then some fintC else bif Nat.beq f 171 then some atoiC else bif Nat.beq f 62 then some codeC else none

theorem AXL_ok {W : World} (Y : YW W) : ExtOK Tryz.prog W AXL := by
  intro f c hc args h v h' hr ρ w args' H K ha
  have Y' := Y.at K
  unfold AXL at hc
  cases h23 : Nat.beq f 60 with
  | true => obtain rfl := Nat.eq_of_beq_eq_true h23; rw [h23] at hc; simp only [cond_true, Option.some.injEq] at hc; subst hc; exact cont_fnok Y' hr H ha
  | false =>
  rw [h23] at hc; simp only [cond_false] at hc
  cases h43 : Nat.beq f 119 with
  | true => obtain rfl := Nat.eq_of_beq_eq_true h43; rw [h43] at hc; simp only [cond_true, Option.some.injEq] at hc; subst hc; exact split_fnok Y' hr H ha
  | false =>
  rw [h43] at hc; simp only [cond_false] at hc
  cases h41 : Nat.beq f 117 with
  | true => obtain rfl := Nat.eq_of_beq_eq_true h41; rw [h41] at hc; simp only [cond_true, Option.some.injEq] at hc; subst hc; exact join_fnok hr H ha
  | false =>
  rw [h41] at hc; simp only [cond_false] at hc
  cases h84 : Nat.beq f 195 with
  | true => obtain rfl := Nat.eq_of_beq_eq_true h84; rw [h84] at hc; simp only [cond_true, Option.some.injEq] at hc; subst hc; exact trim_fnok hr H ha
  | false =>
  rw [h84] at hc; simp only [cond_false] at hc
  cases h61 : Nat.beq f 172 with
  | true => obtain rfl := Nat.eq_of_beq_eq_true h61; rw [h61] at hc; simp only [cond_true, Option.some.injEq] at hc; subst hc; exact itoa_fnok Y' hr H ha
  | false =>
  rw [h61] at hc; simp only [cond_false] at hc
  cases h40 : Nat.beq f 116 with
  | true => obtain rfl := Nat.eq_of_beq_eq_true h40; rw [h40] at hc; simp only [cond_true, Option.some.injEq] at hc; subst hc; exact fint_fnok Y' hr H ha
  | false =>
  rw [h40] at hc; simp only [cond_false] at hc
  cases h60 : Nat.beq f 171 with
  | true => obtain rfl := Nat.eq_of_beq_eq_true h60; rw [h60] at hc; simp only [cond_true, Option.some.injEq] at hc; subst hc; exact atoi_fnok Y' hr H ha
  | false =>
  rw [h60] at hc; simp only [cond_false] at hc
  cases h25 : Nat.beq f 62 with
  | true => obtain rfl := Nat.eq_of_beq_eq_true h25; rw [h25] at hc; simp only [cond_true, Option.some.injEq] at hc; subst hc; exact code_fnok Y' hr H ha
  | false => rw [h25] at hc; simp at hc
end Go.Proofs.YtknpjlcgjlnfbaaGreatDoor
