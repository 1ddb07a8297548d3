/-
  Lines that a yard does at given states, as in Dox, with the contracts of sorted and maps.Clone.
-/
import Derived.Test.YtknpjlcgjlnfbaaGreatDoorDox
import Derived.Test.YtknpjlcgjlnfbaaGreatDoorSx
import Derived.Test.YtknpjlcgjlnfbaaGreatDoorAxv
set_option linter.unusedSimpArgs false
set_option linter.unusedVariables false
set_option maxRecDepth 100000
namespace Go.Proofs.YtknpjlcgjlnfbaaGreatDoor
open Go Go.AM Go.AMT

noncomputable def stepOKm (e : Ent) : Bool :=
  match acallT Tryz.prog AXMT nc 300 (.fn 14) [yPtr, .string ⟨e.line.toArray⟩] (TH.ofL e.before) with
  | some (.string r, th) => r.data.toList == e.reply && pruned th e.after
  | _ => false
theorem doX_fnokm {W : World} (Y : YW W) {tab : List Ent} (hT : ∀ e ∈ tab, stepOKm e = true) {ρ : Rho} {h h' : AHeap} {w : World} {args : List Value} {args' : Array Value} {v : Value} (hr : doX tab args h = some (v, h'))
    (H : HRel Tryz.prog.globals.size ρ h w) (K : Kept Tryz.prog.globals.size W w) (ha : LRel ρ args args'.toList) : FnOK Tryz.prog Tryz.prog.globals.size ρ h w 14 args' v h' := by
  unfold doX at hr
  split at hr
  · rename_i p l
    cases hp : same p yPtr with
    | false => rw [hp] at hr; simp at hr
    | true =>
      rw [hp] at hr
      simp only [cond_true] at hr
      obtain rfl := same_eq hp
      obtain ⟨e, he, h1, rfl, rfl, rfl⟩ := lookE_spec hr
      have hs := hT e he
      unfold stepOKm at hs
      rw [← h1, ba_of] at hs
      split at hs
      · rename_i r th hrun
        simp only [Bool.and_eq_true, beq_iff_eq] at hs
        have hrun2 := acallT_t AXMT_ok calm_all 300 _ _ _ _ _ hrun
        rw [TH.toL_ofL] at hrun2
        obtain ⟨r1, r2⟩ := acall_sound mixed progOK' (AXM_ok Y) 300 (.fn 14) _ _ _ _ hrun2 ρ w args' H K ha
        refine ⟨r1, fun cs => ?_⟩
        obtain ⟨ρ', v', w', fr, q1, q2, q3, q4⟩ := r2 cs
        obtain ⟨s1, s2⟩ := pruned_spec hs.2
        obtain ⟨k1, k2⟩ := HRel.prune q2 s1 s2
        refine ⟨ρ', v', w', fr, ?_, k1, q3.trans k2, q4⟩
        rw [← hs.1, ba_of]
        exact q1
      · simp at hs
  · simp at hr
/-- The contracts, the table's, and awake's. -/
def AXF (tab : List Ent) : Ext := fun f => bif Nat.beq f 14 then some (doX tab) else bif Nat.beq f 34 then some trueC else AXM f
theorem AXF_ok {W : World} (S : Go.AM.Start Tryz.prog (rhoG Tryz.prog.globals.size) H0 W) (Y : YW W) {tab : List Ent} (hT : ∀ e ∈ tab, stepOKm e = true) : ExtOK Tryz.prog W (AXF tab) := by
  intro f c hc args h v h' hr ρ w args' H K ha
  unfold AXF at hc
  cases hf : Nat.beq f 14 with
  | true =>
    obtain rfl := Nat.eq_of_beq_eq_true hf
    rw [hf] at hc
    simp only [cond_true, Option.some.injEq] at hc
    subst hc
    exact doX_fnokm Y hT hr H K ha
  | false =>
    rw [hf] at hc
    simp only [cond_false] at hc
    cases h34 : Nat.beq f 34 with
    | true =>
      obtain rfl := Nat.eq_of_beq_eq_true h34
      exact AXV_ok S Y 34 c (by unfold AXV; rw [h34] at hc ⊢; exact hc) args h v h' hr ρ w args' H K ha
    | false =>
      rw [h34] at hc
      simp only [cond_false] at hc
      exact AXM_ok Y f c hc args h v h' hr ρ w args' H K ha
end Go.Proofs.YtknpjlcgjlnfbaaGreatDoor
