/-
  awake answers true on any heap and leaves it as it is; the contracts with it.
-/
import Derived.Test.YtknpjlcgjlnfbaaGreatDoorAwq
set_option linter.unusedSimpArgs false
set_option linter.unusedVariables false
set_option maxRecDepth 100000
namespace Go.Proofs.YtknpjlcgjlnfbaaGreatDoor
open Go Go.AM Go.ChangeShapes Go.WideShapes Go.ChangeAt Go.RowKit
def AXV : Ext := fun f => bif Nat.beq f 34 then some trueC else AXL f
theorem AXV_ok {W : World} (S : Go.AM.Start Tryz.prog (rhoG Tryz.prog.globals.size) H0 W) (Y : YW W) : ExtOK Tryz.prog W AXV := by
  intro f c hc args h v h' hr ρ w args' H K ha
  unfold AXV at hc
  cases hf : Nat.beq f 34 with
  | false =>
    rw [hf] at hc
    simp only [cond_false] at hc
    exact AXL_ok Y f c hc args h v h' hr ρ w args' H K ha
  | true =>
    obtain rfl := Nat.eq_of_beq_eq_true hf
    rw [hf] at hc
    simp only [cond_true, Option.some.injEq] at hc
    subst hc
    cases args with
    | nil =>
      simp only [trueC, Option.some.injEq, Prod.mk.injEq] at hr
      obtain ⟨rfl, rfl⟩ := hr
      obtain ⟨h1, hb⟩ := callTrue_spec awake_run
      exact FnOK_plain mixed progOK' S (AXD_ok Y awTab_ok) hb rfl rfl H K ha
    | cons a l => simp [trueC] at hr
variable {H : Type} {enc : TypeId × Value → H} {P : Program}
/-- The post, where all that was is as it was, and the answer is true. -/
theorem post_below {f : Func} {s : ChangeSpec} {apart fresh handsOn again : Bool} {W W' : World} {args : Array Value} {v : Value} {ds gs : List (DataW H)} {before pa pv : List MemPlace}
    (hW : DataW.Whole enc P f.params.toList s.vars apart W args.toList ds gs before)
    (hres : ∀ (b : Nat) (sp : Nat → Bool) (hd : Bool), DataW.TrodAll enc P W' b sp hd f.resultTypes.toList (v.resultList f.resultTypes.size) (s.fn H (ds ++ gs)).results [])
    (hargs : ∀ sp : Nat → Bool, (∀ p ∈ before, sp p.block = true) → DataW.TrodAll enc P W' 0 sp true f.params.toList args.toList (s.fn H (ds ++ gs)).args pa)
    (hvars : ∀ sp : Nat → Bool, (∀ p ∈ before, sp p.block = true) → DataW.TrodVars enc P W' sp s.vars (s.fn H (ds ++ gs)).vars pv)
    (hps : before = pa ++ pv) (hb : ∀ c, c < W.heap.size → W'.heap[c]? = W.heap[c]?) (hos : W'.os = W.os) (hout : W'.output = W.output)
    (hok : ∀ (j : Nat) (t : TypeId) (r : Value), f.resultTypes[j]? = some t → (v.resultList f.resultTypes.size)[j]? = some r → Value.okWide P W' .any 0 t r) :
    s.post enc P f apart fresh handsOn again W args v W' := by
  have hk : ∀ may, W.keptBut W' may := by
    intro may
    refine ⟨hos, hout, fun i hi => ?_⟩
    rw [hb i hi]
    generalize W.heap[i]? = o
    cases o with
    | none => rfl
    | some o => cases o <;> simp
  have hold : ∀ p ∈ before, (fun b => decide (b < W.heap.size)) p.block = true := fun p hp => by simpa using hW.lt p hp
  have hlt := hW.lt
  refine ⟨ds, gs, before, [], pa, pv, hW, hres _ _ _, hargs _ hold, hvars _ hold, World.keptBut_mono (fun p hp => ⟨hp, ?_⟩) (hk _), fun _ => ?_⟩
  · rw [hps, List.mem_append] at hp
    exact Or.inr hp
  · obtain ⟨_, _, _, _, _, hz, hn⟩ := hW
    refine ⟨hok, _, _, ([] ++ pa) ++ pv, ⟨[] ++ pa, pv, trodAll_append (hargs _ (fun _ _ => rfl)) (hres _ _ _), hvars _ (fun _ _ => rfl), rfl, ?_, ?_⟩, ?_⟩
    · intro b off hp
      have hp' : MemPlace.cell b off ∈ before := by rw [hps]; simpa using hp
      have h1 := hz b off hp'
      have h2 : b < W.heap.size := hlt _ hp'
      unfold World.frozen? at h1 ⊢
      rw [hb b h2]; exact h1
    · intro ha
      have := hn ha
      rw [hps] at this
      simpa using this
    · intro p hp _
      rw [hps]
      simpa using hp
theorem calls_true {W : World} {X : Ext} (S : Go.AM.Start Tryz.prog (rhoG Tryz.prog.globals.size) H0 W) (hX : ExtOK Tryz.prog W X) {f : FuncId} {args : List Value} {n : Nat} (hrun : callTrue (acall Tryz.prog X n (.fn f) args H0) = true) {args' : Array Value} (ha : LRel (rhoG Tryz.prog.globals.size) args args'.toList) :
    Calls Tryz.prog f args' W fun e W' => e = .returned (.bool true) ∧ (∀ c, c < W.heap.size → W'.heap[c]? = W.heap[c]?) ∧ W'.os = W.os ∧ W'.output = W.output := by
  obtain ⟨h', hN⟩ := callTrue_spec hrun
  refine (calls_of mixed progOK' hX hN (S.at (fun _ _ => rfl) S.rel.gsz) (fun _ _ => rfl) ha).mono fun e W' ⟨ρ', v', he, hv, _, hF⟩ => ?_
  cases hv
  exact ⟨he, S.below hF, hF.os, hF.output⟩
end Go.Proofs.YtknpjlcgjlnfbaaGreatDoor
