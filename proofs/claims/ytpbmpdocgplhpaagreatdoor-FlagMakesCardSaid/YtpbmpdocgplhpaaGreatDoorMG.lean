/-
  MERGED BY PROGRAM out of the texts AwakeRun Base Awake Witness.
-/
import Derived.Test.YtpbmpdocgplhpaaGreatDoorMB
import Derived.Test.YtpbmpdocgplhpaaGreatDoorProg
import Derived.KernelRfl
import Derived.Test.YtpbmpdocgplhpaaGreatDoorMV
import Derived.Test.YtpbmpdocgplhpaaGreatDoorCards
import Derived.Test.YtpbmpdocgplhpaaGreatDoorTie
import Derived.WalkKit
import Derived.ProofKit
import Derived.OpenShut
import Derived.Deep.DeepHandedRow
import Derived.Lib.LaidTab

/-
  'awake', run once by the kernel on the bare heap.
-/
set_option maxRecDepth 100000
namespace Go.Proofs.YtpbmpdocgplhpaaGreatDoor
open Go Go.AM
def H0 : AHeap := [.row [.int .i64 (-1), .int .i64 (-1), .int .i64 (-1)] false, .dead, .dead, .dead, .dead, .dead]
def callTrue : Option (Value × AHeap) → Bool
  | some (.bool b, _) => b
  | _ => false
theorem callTrue_spec {r : Option (Value × AHeap)} (h : callTrue r = true) : ∃ h', r = some (.bool true, h') := by
  unfold callTrue at h
  split at h
  · rename_i b h1; subst h; exact ⟨h1, rfl⟩
  · simp at h
theorem awake_run : callTrue (acall Tryz.prog (fun _ => none) 60 (.fn 21) [] H0) = true := by kernel_rfl
end Go.Proofs.YtpbmpdocgplhpaaGreatDoor

/-
  The seat's ground: its program is one that the abstract executor serves; the start of a call, as an abstract heap; the end of a call, as the row's post.
-/
set_option linter.unusedSimpArgs false
set_option linter.unusedVariables false
set_option maxRecDepth 100000
namespace Go.Proofs.YtpbmpdocgplhpaaGreatDoor
open Go Go.AM Go.ChangeShapes Go.WideShapes Go.ChangeAt Go.RowKit

theorem progOK' : progOK Tryz.prog = true := by kernel_rfl
theorem mixed : Tryz.prog.follows .mixedOrders = true := by kernel_rfl
theorem globals4 : Tryz.prog.globals.size = 6 := by kernel_rfl
theorem gNone : Tryz.prog.globalNamed "careen/flag.none" = some 0 := by kernel_rfl
theorem gNoneType : (Tryz.prog.globals[0]?).map (·.type) = some 127 := by kernel_rfl
theorem gTab : Tryz.prog.globalNamed "unicode/utf8.acceptRanges" = some 4 := by kernel_rfl

/-- What the row's list tells of the two variables. -/
theorem laid_cells {W : World} (h : laidMet Tryz.prog [("unicode/utf8.acceptRanges", Rows.laid_unicode_utf8_acceptRanges), ("careen/flag.none", Rows.laid_careen_flag_none), ("unicode/utf8.first", Rows.laid_unicode_utf8_first)] W) :
    (∃ c t fz, W.heap[0]? = some (.cells c t fz) ∧ c.toList = [.int .i64 (-1), .int .i64 (-1), .int .i64 (-1)]) ∧ 5 ≤ W.heap.size := by
  obtain ⟨ps, ⟨g3, t3, cs3, fuel3, p3, q3, hg3, ht3, hv3, hd3, ⟨g, t, cs, fuel, p, q, hg, ht, hv, hd, hrest, _⟩, _⟩, _⟩ := h
  obtain rfl := Option.some.inj (gTab.symm.trans hg3)
  obtain rfl := Option.some.inj (gNone.symm.trans hg)
  obtain rfl := Option.some.inj (gNoneType.symm.trans ht)
  have hheap : ∀ {n : String} {g : Nat} {cs : Array Value}, Tryz.prog.globalNamed n = some g → W.var? Tryz.prog n = some cs → ∃ t fz, W.heap[g]? = some (.cells cs t fz) := by
    intro n g cs hg hv
    unfold World.var? at hv
    rw [hg, Option.bind_some] at hv
    split at hv
    · rename_i c t fz hh
      simp only [Option.some.injEq] at hv; subst hv
      exact ⟨t, fz, hh⟩
    · simp at hv
  obtain ⟨t0, fz0, h0⟩ := hheap gNone hv
  obtain ⟨t1, fz1, h1⟩ := hheap gTab hv3
  refine ⟨⟨cs, t0, fz0, h0, ?_⟩, ?_⟩
  · cases fuel with
    | zero => simp [DataW.trod] at hd
    | succ fuel =>
      simp only [DataW.trod, Tryz.underlying127] at hd
      rw [show Tryz.prog.cellsOf 127 = 3 from by kernel_rfl] at hd
      split at hd
      · rename_i hlen
        obtain ⟨xs, hm, hx⟩ := Option.map_eq_some_iff.1 hd
        have hx1 := congrArg Prod.fst hx
        simp only [Rows.laid_careen_flag_none, DataW.agg.injEq] at hx1
        simp only [List.mapM_cons, List.mapM_nil, Option.bind_eq_bind, Option.bind_eq_some_iff, Option.pure_def, Option.some.injEq] at hm
        obtain ⟨x0, hx0, r0, ⟨x1, hx1', r1, ⟨x2, hx2, r2, rfl, rfl⟩, rfl⟩, rfl⟩ := hm
        rw [show Tryz.prog.cellsOf 3 = 1 from by kernel_rfl] at hx0 hx1' hx2
        obtain ⟨n0, c0, rfl, _⟩ := DataW.trod_int Tryz.underlying3 hx0
        obtain ⟨n1, c1, rfl, _⟩ := DataW.trod_int Tryz.underlying3 hx1'
        obtain ⟨n2, c2, rfl, _⟩ := DataW.trod_int Tryz.underlying3 hx2
        simp only [List.map_cons, List.map_nil, List.cons.injEq, DataW.lit.injEq, Lit.int.injEq, true_and, and_true] at hx1
        obtain ⟨rfl, rfl, rfl⟩ := hx1
        generalize cs.toList = l at hlen c0 c1 c2
        match l, hlen with
        | [a, b, c], _ => simp at c0 c1 c2; simp [c0, c1, c2]
      · simp at hd
  · by_cases hlt : 4 < W.heap.size
    · omega
    · rw [Array.getElem?_eq_none (by omega)] at h1; simp at h1

noncomputable def ρ0 : Rho := fun b => if b < 6 then some ⟨b, 0, 3⟩ else none

theorem start {W : World} (h : laidMet Tryz.prog [("unicode/utf8.acceptRanges", Rows.laid_unicode_utf8_acceptRanges), ("careen/flag.none", Rows.laid_careen_flag_none), ("unicode/utf8.first", Rows.laid_unicode_utf8_first)] W) (hm : ∃ m, W.cell? ⟨5, 0, none⟩ = some (.int .i64 m)) : Go.AM.Start Tryz.prog ρ0 H0 W := by
  obtain ⟨⟨c, t, fz, h0, hc⟩, hsz5⟩ := laid_cells h
  have hsz : 6 ≤ W.heap.size := by
    obtain ⟨m, hm⟩ := hm
    by_cases hlt : 5 < W.heap.size
    · exact hlt
    · simp only [World.cell?, Array.getElem?_eq_none (show W.heap.size ≤ 5 by omega)] at hm
      simp at hm
  have hrho : ∀ {b : Nat} {p : Pl}, ρ0 b = some p → b < 6 ∧ p = ⟨b, 0, 3⟩ := by
    intro b p hp
    unfold ρ0 at hp
    split at hp
    · rename_i hb; simp only [Option.some.injEq] at hp; exact ⟨hb, hp.symm⟩
    · simp at hp
  have hown : ∀ o ∈ H0, o.own = false := by
    intro o ho
    simp only [H0, List.mem_cons, List.not_mem_nil, or_false] at ho
    rcases ho with rfl | rfl | rfl | rfl | rfl | rfl <;> rfl
  have hlt : ∀ {b : Nat} {o : AObj}, H0[b]? = some o → b < 6 := by
    intro b o hb
    by_cases h : b < 6
    · exact h
    · rw [List.getElem?_eq_none (by simp [H0]; omega)] at hb; simp at hb
  refine ⟨⟨?_, ?_, ?_, ?_, ?_, ?_, ?_, ?_⟩, hown, ?_⟩
  · intro b o hb _; have := hlt hb; exact ⟨⟨b, 0, 3⟩, by simp [ρ0, this]⟩
  · intro b o p hb hp
    obtain ⟨hb4, rfl⟩ := hrho hp
    match b, hb4 with
    | 0, _ =>
      simp only [H0, List.getElem?_cons_zero, Option.some.injEq] at hb; subst hb
      have hcs : c.size = 3 := by have := congrArg List.length hc; simpa using this
      refine ⟨c, t, fz, h0, by simp [hcs], ?_, by simp, by simp⟩
      intro i v hv
      refine ⟨v, ?_, ?_⟩
      · rw [Nat.zero_add, ← Array.getElem?_toList, hc]; exact hv
      · have hm : v ∈ [Value.int .i64 (-1), .int .i64 (-1), .int .i64 (-1)] := List.mem_of_getElem? hv
        simp only [List.mem_cons, List.not_mem_nil, or_false, or_self] at hm
        subst hm; exact .int _ _
    | 1, _ => simp only [H0, List.getElem?_cons_succ, List.getElem?_cons_zero, Option.some.injEq] at hb; subst hb; trivial
    | 2, _ => simp only [H0, List.getElem?_cons_succ, List.getElem?_cons_zero, Option.some.injEq] at hb; subst hb; trivial
    | 3, _ => simp only [H0, List.getElem?_cons_succ, List.getElem?_cons_zero, Option.some.injEq] at hb; subst hb; trivial
    | 4, _ => simp only [H0, List.getElem?_cons_succ, List.getElem?_cons_zero, Option.some.injEq] at hb; subst hb; trivial
    | 5, _ => simp only [H0, List.getElem?_cons_succ, List.getElem?_cons_zero, Option.some.injEq] at hb; subst hb; trivial
  · intro b p hp; obtain ⟨hb, rfl⟩ := hrho hp; simp; omega
  · intro b p hp; obtain ⟨hb, rfl⟩ := hrho hp; simpa [H0] using hb
  · intro b b' o o' p p' _ hb _ _ _ ho; rw [hown o (List.mem_of_getElem? hb)] at ho; simp at ho
  · intro g hg; rw [globals4] at hg; exact ⟨3, by simp [ρ0, hg]⟩
  · intro b o p hb _ ho; rw [hown o (List.mem_of_getElem? hb)] at ho; simp at ho
  · rw [globals4]; exact hsz
  · intro b p hp; obtain ⟨hb, rfl⟩ := hrho hp; rw [globals4]; exact hb

variable {H : Type} {enc : TypeId × Value → H} {P : Program}
/-- The post, where all that was is as it was, and the answer is true. -/
theorem post_below {f : Func} {s : ChangeSpec} {apart fresh handsOn again : Bool} {W W' : World} {args : Array Value} {v : Value} {ds gs : List (DataW H)} {before pa pv : List MemPlace}
    (hW : DataW.Whole enc P f.params.toList s.vars apart W args.toList ds gs before)
    (hres : ∀ (b : Nat) (sp : Nat → Bool) (hd : Bool), DataW.TrodAll enc P W' b sp hd f.resultTypes.toList (v.resultList f.resultTypes.size) (s.fn H (ds ++ gs)).results [])
    (hargs : ∀ sp : Nat → Bool, (∀ p ∈ before, sp p.block = true) → DataW.TrodAll enc P W' 0 sp true f.params.toList args.toList (s.fn H (ds ++ gs)).args pa)
    (hvars : ∀ sp : Nat → Bool, (∀ p ∈ before, sp p.block = true) → DataW.TrodVars enc P W' sp s.vars (s.fn H (ds ++ gs)).vars pv)
    (hps : before = pa ++ pv) (hb : ∀ c, c < W.heap.size → W'.heap[c]? = W.heap[c]?) (hos : W'.os = W.os) (hout : W'.output = W.output)
    (hok : ∀ (j : Nat) (t : TypeId) (r : Value), f.resultTypes[j]? = some t → (v.resultList f.resultTypes.size)[j]? = some r → Value.okWide P W' .any 0 t r) :
    s.post enc P f apart fresh handsOn again W args v W' := by
  have hk : ∀ may, W.keptBut W' may := by
    intro may
    refine ⟨hos, hout, fun i hi => ?_⟩
    rw [hb i hi]
    generalize W.heap[i]? = o
    cases o with
    | none => rfl
    | some o => cases o <;> simp
  have hold : ∀ p ∈ before, (fun b => decide (b < W.heap.size)) p.block = true := fun p hp => by simpa using hW.lt p hp
  have hlt := hW.lt
  refine ⟨ds, gs, before, [], pa, pv, hW, hres _ _ _, hargs _ hold, hvars _ hold, World.keptBut_mono (fun p hp => ⟨hp, ?_⟩) (hk _), fun _ => ?_⟩
  · rw [hps, List.mem_append] at hp
    exact Or.inr hp
  · obtain ⟨_, _, _, _, _, hz, hn⟩ := hW
    refine ⟨hok, _, _, ([] ++ pa) ++ pv, ⟨[] ++ pa, pv, trodAll_append (hargs _ (fun _ _ => rfl)) (hres _ _ _), hvars _ (fun _ _ => rfl), rfl, ?_, ?_⟩, ?_⟩
    · intro b off hp
      have hp' : MemPlace.cell b off ∈ before := by rw [hps]; simpa using hp
      have h1 := hz b off hp'
      have h2 : b < W.heap.size := hlt _ hp'
      unfold World.frozen? at h1 ⊢
      rw [hb b h2]; exact h1
    · intro ha
      have := hn ha
      rw [hps] at this
      simpa using this
    · intro p hp _
      rw [hps]
      simpa using hp

/-- From the abstract executor to the machine: the call answers true, and all that was is as it was. -/
theorem calls_true {W : World} {X : Ext} (S : Go.AM.Start Tryz.prog ρ0 H0 W) (hX : ExtOK Tryz.prog W X) {f : FuncId} {args : List Value} (c : Ca Tryz.prog X (.fn f) args H0 (fun v _ => v = .bool true)) {args' : Array Value} (ha : LRel ρ0 args args'.toList) :
    Calls Tryz.prog f args' W fun e W' => e = .returned (.bool true) ∧ (∀ c, c < W.heap.size → W'.heap[c]? = W.heap[c]?) ∧ W'.os = W.os ∧ W'.output = W.output := by
  obtain ⟨N, v, h', rfl, hN⟩ := c
  refine (calls_of mixed progOK' hX (hN N (Nat.le_refl N)) (S.at (fun _ _ => rfl) S.rel.gsz) (fun _ _ => rfl) ha).mono fun e W' ⟨ρ', v', he, hv, _, hF⟩ => ?_
  cases hv
  exact ⟨he, S.below hF, hF.os, hF.output⟩
end Go.Proofs.YtpbmpdocgplhpaaGreatDoor

/-
  'awake' answers true on any heap and leaves it as it is: run once by the kernel on the bare heap.
-/
set_option linter.unusedSimpArgs false
set_option linter.unusedVariables false
set_option maxRecDepth 100000
namespace Go.Proofs.YtpbmpdocgplhpaaGreatDoor
open Go Go.AM

/-- The one contract: awake. -/
def AX : Ext := fun f => bif Nat.beq f 21 then some (fun args h => match args with | [] => some (.bool true, h) | _ => none) else none

theorem AX_ok {W : World} (S : Go.AM.Start Tryz.prog ρ0 H0 W) : ExtOK Tryz.prog W AX := by
  intro f c hc args h v h' hr ρ w args' H K ha
  unfold AX at hc
  cases hf : Nat.beq f 21 with
  | false => rw [hf] at hc; simp at hc
  | true =>
    obtain rfl := Nat.eq_of_beq_eq_true hf
    rw [hf] at hc
    simp only [cond_true, Option.some.injEq] at hc
    subst hc
    cases args with
    | nil =>
      simp only [Option.some.injEq, Prod.mk.injEq] at hr
      obtain ⟨rfl, rfl⟩ := hr
      obtain ⟨h1, hb⟩ := callTrue_spec awake_run
      exact FnOK_plain mixed progOK' S (noX_ok W) hb rfl rfl H K ha
    | cons a l => simp at hr
end Go.Proofs.YtpbmpdocgplhpaaGreatDoor

/-
  A world in which the three variables of the row's list read as they are laid.
-/
set_option maxRecDepth 100000
namespace Go.Proofs.YtpbmpdocgplhpaaGreatDoor
open Go Go.AM Go.ChangeShapes Go.WideShapes Go.ChangeAt Go.RowKit

/-- The numbers of a flat datum. -/
def cellsOfData : DataW Unit → List Value
  | .agg l => l.flatMap fun d => match d with
    | .lit (.int k n) => [.int k n]
    | .agg m => m.flatMap fun e => match e with
      | .lit (.int k n) => [.int k n]
      | _ => []
    | _ => []
  | _ => []
def withCells (cs : Array Value) : Obj → Obj
  | .cells _ t frozen => .cells cs t frozen
  | o => o
noncomputable def laidWorld (os : Os) : World :=
  let w := World.holding Tryz.prog os ⟨#[], #[], []⟩
  { w with heap := ((w.heap.modify 0 (withCells #[.int .i64 (-1), .int .i64 (-1), .int .i64 (-1)])).modify 3 (withCells (cellsOfData Rows.laid_unicode_utf8_first).toArray)).modify 4 (withCells (cellsOfData Rows.laid_unicode_utf8_acceptRanges).toArray) }
def seatLaid : List (String × DataW Unit) := [("unicode/utf8.acceptRanges", Rows.laid_unicode_utf8_acceptRanges), ("careen/flag.none", Rows.laid_careen_flag_none), ("unicode/utf8.first", Rows.laid_unicode_utf8_first)]
theorem laid_met (os : Os) (args : Array Value) : laidMet Tryz.prog seatLaid ((laidWorld os).forCall (fun _ _ => 0) ⟨#[], args, []⟩).memory :=
  laidMet_of_run' 8 (by kernel_rfl) (by kernel_rfl)
end Go.Proofs.YtpbmpdocgplhpaaGreatDoor
