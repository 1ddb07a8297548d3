/-
  THE ABSTRACT EXECUTOR: what a run on the bare program's heap tells of a call on any heap: contracts of calls with plain arguments.
-/
import Derived.Test.YtknpjlcgjlnfbaaGreatDoorVc3
set_option linter.unusedSimpArgs false
set_option linter.unusedVariables false
namespace Go.AM
variable {P : Program} {X : Ext} {G : Nat} {ρ : Rho} {h : AHeap} {w : World}

def scalarOK : Value → Bool
  | .bool _ | .int _ _ | .string _ | .nilIface | .nilFunc => true
  | .pointer none | .slice none 0 0 | .map none => true
  | _ => false
def plainOK : Value → Bool
  | .tuple a => a.toList.all fun v => scalarOK v || (match v with | .agg b => b.toList.all scalarOK | _ => false)
  | .agg a => a.toList.all scalarOK
  | v => scalarOK v
theorem scalar_eq {v v' : Value} (hs : scalarOK v = true) (hv : VRel ρ v v') : v' = v := by
  cases hv <;> first | rfl | simp [scalarOK] at hs
theorem scalar_refl {v : Value} (hs : scalarOK v = true) (ρ : Rho) : VRel ρ v v := by
  unfold scalarOK at hs
  split at hs <;> first | exact .bool _ | exact .int _ _ | exact .string _ | exact .nilIface | exact .nilFunc | exact .nilptr | exact .nilslice | exact .nilmap | simp at hs
theorem agg_eq {a : Array Value} {v' : Value} (hs : a.toList.all scalarOK = true) (hv : VRel ρ (.agg a) v') : v' = .agg a := by
  cases hv with
  | agg hx h1 =>
    congr 1
    apply Array.ext hx.symm
    intro i hi hi'
    exact scalar_eq (List.all_eq_true.1 hs _ (by simp)) (h1 i hi' hi)
theorem agg_refl {a : Array Value} (hs : a.toList.all scalarOK = true) (ρ : Rho) : VRel ρ (.agg a) (.agg a) :=
  .agg rfl fun i hi _ => scalar_refl (List.all_eq_true.1 hs _ (by simp)) ρ
theorem plain_part {v v' : Value} (hs : (scalarOK v || (match v with | .agg b => b.toList.all scalarOK | _ => false)) = true) (hv : VRel ρ v v') (ρ2 : Rho) : v' = v ∧ VRel ρ2 v v' := by
  rw [Bool.or_eq_true] at hs
  rcases hs with hs | hs
  · have := scalar_eq hs hv; subst this; exact ⟨rfl, scalar_refl hs ρ2⟩
  · split at hs
    · have := agg_eq hs hv; subst this; exact ⟨rfl, agg_refl hs ρ2⟩
    · simp at hs
theorem plain_rel {v v' : Value} (hs : plainOK v = true) (hv : VRel ρ v v') (ρ2 : Rho) : VRel ρ2 v v' := by
  cases hv with
  | tuple hx h1 => exact .tuple hx fun i hi hi' => (plain_part (List.all_eq_true.1 hs _ (by simp)) (h1 i hi hi') ρ2).2
  | agg hx h1 =>
    have := agg_eq hs (.agg hx h1)
    rw [this]; exact agg_refl hs ρ2
  | bool b => exact .bool b
  | int k n => exact .int k n
  | string s => exact .string s
  | nilIface => exact .nilIface
  | nilFunc => exact .nilFunc
  | nilptr => exact .nilptr
  | nilslice => exact .nilslice
  | nilmap => exact .nilmap
  | _ => simp [plainOK, scalarOK] at hs

/-- The start world's variables of packages, as rows that are but read. -/
structure Start (P : Program) (ρ0 : Rho) (H0 : AHeap) (W0 : World) : Prop where
  rel : HRel P.globals.size ρ0 H0 W0
  ro : ∀ o ∈ H0, o.own = false
  low : ∀ b p, ρ0 b = some p → p.blk < P.globals.size

theorem Start.at {ρ0 : Rho} {H0 : AHeap} {W0 w : World} (S : Start P ρ0 H0 W0) (K : Kept P.globals.size W0 w) (hg : P.globals.size ≤ w.heap.size) : HRel P.globals.size ρ0 H0 w := by
  have R := S.rel
  exact ⟨R.dom, fun b o p hb hp => (R.obj b o p hb hp).mono (.refl ρ0) (fun _ => K _ (S.low b p hp)), fun b p hp => Nat.lt_of_lt_of_le (S.low b p hp) hg, R.bd, R.sep, R.glob, R.gown, hg⟩

theorem Start.below {ρ0 ρ' : Rho} {H0 h' : AHeap} {W0 w w' : World} (S : Start P ρ0 H0 W0) (F : Fr ρ0 H0 w ρ' h' w') : ∀ c, c < w.heap.size → w'.heap[c]? = w.heap[c]? := by
  intro c hc
  refine F.keep c hc (fun b o p hb ho hp => ?_)
  have := S.ro o (List.mem_of_getElem? hb)
  rw [ho] at this; simp at this

/-- Where all that was is as it was, the same heap stands for the new world. -/
theorem HRel.later {w' : World} (H : HRel G ρ h w) (hs : w.heap.size ≤ w'.heap.size) (hk : ∀ c, c < w.heap.size → w'.heap[c]? = w.heap[c]?) (ht : w'.tape = w.tape) (hos : w'.os = w.os) (ho : w'.output = w.output) :
    HRel G ρ h w' ∧ Fr ρ h w ρ h w' :=
  ⟨⟨H.dom, fun b o p hb hp => (H.obj b o p hb hp).mono (.refl ρ) (fun _ => hk _ (H.lt b p hp)), fun b p hp => Nat.lt_of_lt_of_le (H.lt b p hp) hs, H.bd, H.sep, H.glob, H.gown, Nat.le_trans H.gsz hs⟩,
   ⟨.refl ρ, hs, ht, hos, ho, fun b o p hb ho hp _ => ⟨b, o, p, hb, ho, hp, rfl⟩, fun b o p hb ho hp _ => ⟨b, o, p, hb, ho, hp, rfl⟩, fun c hc _ => hk c hc⟩⟩

/-- A run with a plain answer on the bare heap: a contract on any heap. -/
theorem FnOK_plain (hmix : P.follows .mixedOrders = true) (hP : progOK P = true) {W0 : World} {ρ0 : Rho} {H0 : AHeap} (S : Start P ρ0 H0 W0) (hX : ExtOK P W0 X) {n : Nat} {f : FuncId} {args : List Value} {v : Value} {h1 : AHeap}
    (hrun : acall P X n (.fn f) args H0 = some (v, h1)) (ha : args.all (fun v => scalarOK v || (match v with | .agg b => b.toList.all scalarOK | _ => false)) = true) (hv : plainOK v = true)
    (H : HRel P.globals.size ρ h w) (K : Kept P.globals.size W0 w) {args' : Array Value} (hargs : LRel ρ args args'.toList) : FnOK P P.globals.size ρ h w f args' v h := by
  have h0 := S.at K H.gsz
  have hargs0 : LRel ρ0 args args'.toList := by
    clear hrun
    revert hargs
    generalize args'.toList = l
    intro hl
    induction hl with
    | nil => exact .nil
    | cons hv _ ih =>
      simp only [List.all_cons, Bool.and_eq_true] at ha
      exact .cons (plain_part ha.1 hv ρ0).2 (ih ha.2)
  obtain ⟨r1, r2⟩ := acall_sound hmix hP hX n (.fn f) args H0 v h1 hrun ρ0 w args' h0 K hargs0
  refine ⟨r1, fun cs => ?_⟩
  obtain ⟨ρ', v', w', fr, q1, q2, q3, q4⟩ := r2 cs
  obtain ⟨k1, k2⟩ := H.later q3.size (S.below q3) q3.tape q3.os q3.output
  exact ⟨ρ, v', w', fr, plain_rel hv q1 ρ, k1, k2, q4⟩

theorem noX_ok (W0 : World) : ExtOK P W0 (fun _ => none) := fun f c h => by simp at h

/-- Contracts of calls without arguments that answer plainly. -/
def plainX (l : List (FuncId × List Value × Value)) (X : Ext) : Ext := fun f =>
  match l.find? (fun q => Nat.beq q.1 f) with
  | some q => some fun args h => if args.length = 0 ∧ q.2.1.length = 0 then some (q.2.2, h) else none
  | none => X f
end Go.AM
