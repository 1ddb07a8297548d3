/-
  The ground of TopRounds: its program is one that the abstract executor serves; what the row's list tells of the variables; the start and the end of a call.
-/
import Derived.Test.YtpbmpdocgplhpaaGreatDoorVst
import Derived.Test.YtpbmpdocgplhpaaGreatDoorYpl
import Derived.Test.YtpbmpdocgplhpaaGreatDoorCards
import Derived.Test.YtpbmpdocgplhpaaGreatDoorTie
import Derived.WalkKit
import Derived.ProofKit
import Derived.OpenShut
import Derived.Deep.DeepHandedRow
import Derived.Shelf.Vars
import Derived.Lib.LaidTab
import Derived.Lib.LaidU8T
set_option linter.unusedSimpArgs false
set_option linter.unusedVariables false
set_option maxRecDepth 100000
namespace Go.Proofs.YtpbmpdocgplhpaaGreatDoor
open Go Go.AM Go.ChangeShapes Go.WideShapes Go.ChangeAt Go.RowKit

theorem progOK' : progOK Tryz.prog = true := by kernel_rfl
theorem mixed : Tryz.prog.follows .mixedOrders = true := by kernel_rfl
theorem globals6 : Tryz.prog.globals.size = 6 := by kernel_rfl
def seatLaid : List (String × DataW Unit) := [("math/bits.deBruijn32tab", Rows.laid_math_bits_deBruijn32tab), ("math/bits.deBruijn64tab", Rows.laid_math_bits_deBruijn64tab), ("unicode/utf8.acceptRanges", Rows.laid_unicode_utf8_acceptRanges), ("unicode/utf8.first", Rows.laid_unicode_utf8_first)]
theorem heap_of_var {W : World} {n : String} {g : Nat} {cs : Array Value} (hg : Tryz.prog.globalNamed n = some g) (hv : W.var? Tryz.prog n = some cs) : ∃ t fz, W.heap[g]? = some (.cells cs t fz) := by
  unfold World.var? at hv
  rw [hg, Option.bind_some] at hv
  split at hv
  · rename_i c t fz hh
    simp only [Option.some.injEq] at hv; subst hv
    exact ⟨t, fz, hh⟩
  · simp at hv
theorem tab_cells {W : World} {n : String} {g : Nat} {t e : TypeId} {N : Nat} {k : IntKind} {zs : List Int} (r : Lib.VarReads Tryz.prog W n (Lib.tabData k zs)) (hg : Tryz.prog.globalNamed n = some g)
    (hty : (Tryz.prog.globals[g]?).map (·.type) = some t) (ht : Tryz.prog.underlying t = some (.array N e)) (he : Tryz.prog.underlying e = some (.int k)) (hce : Tryz.prog.cellsOf e = 1) (hct : Tryz.prog.cellsOf t = N) :
    Lib.TabIs Tryz.prog W n k zs ∧ ∃ c t' fz, W.heap[g]? = some (.cells c t' fz) ∧ c.toList = zs.map fun z => Value.int k z := by
  obtain ⟨g', t', cs, fuel, p, hg', ht', hv, hd⟩ := r
  obtain rfl := Option.some.inj (hg.symm.trans hg')
  obtain rfl := Option.some.inj (hty.symm.trans ht')
  have e1 := Lib.cells_of_tab ht he hce hct hd
  obtain ⟨t2, fz, hh⟩ := heap_of_var hg hv
  exact ⟨by unfold Lib.TabIs; rw [hv, ← e1], cs, t2, fz, hh, e1⟩

def deb32 : List Int := [0, 1, 28, 2, 29, 14, 24, 3, 30, 22, 20, 15, 25, 17, 4, 8, 31, 27, 13, 23, 21, 19, 16, 7, 26, 12, 18, 6, 11, 5, 10, 9]
def deb64 : List Int := [0, 1, 56, 2, 57, 49, 28, 3, 61, 58, 42, 50, 38, 29, 17, 4, 62, 47, 59, 36, 45, 43, 51, 22, 53, 39, 33, 30, 24, 18, 12, 5, 63, 55, 48, 27, 60, 41, 37, 16, 46, 35, 44, 21, 52, 32, 23, 11, 54, 26, 40, 15, 34, 20, 31, 10, 25, 14, 19, 9, 13, 8, 7, 6]
def tabRow (k : IntKind) (zs : List Int) : AObj := .row (zs.map fun z => .int k z) false
/-- The start of a call. -/
def H0 : AHeap := [.dead, tabRow .u8 deb32, tabRow .u8 deb64, .dead, .dead, .dead]

theorem heap_size {W : World} (h : W.ShapedOpen Tryz.prog) : 6 ≤ W.heap.size := by
  obtain ⟨cs, hh, _, _⟩ := h.1 5 #[.int .i64 0] 3 (by rw [globals6]; omega) (by kernel_rfl)
  by_cases hlt : 5 < W.heap.size
  · omega
  · rw [Array.getElem?_eq_none (by omega)] at hh; simp at hh
theorem start {W : World} (h : laidMet Tryz.prog seatLaid W) (hsh : W.ShapedOpen Tryz.prog) : Go.AM.Start Tryz.prog (rhoG Tryz.prog.globals.size) H0 W := by
  have r {n : String} {d : DataW Unit} (hm : (n, d) ∈ seatLaid) : Lib.VarReads Tryz.prog W n d := Lib.laidMet.reads h hm
  have g7 := (tab_cells (g := 1) (n := "math/bits.deBruijn32tab") (k := .u8) (zs := deb32) (r (by rw [show Lib.tabData .u8 deb32 = Rows.laid_math_bits_deBruijn32tab by kernel_rfl]; simp [seatLaid])) (by kernel_rfl) (by kernel_rfl) Tryz.underlying214 Tryz.underlying5 (by kernel_rfl) (by kernel_rfl)).2
  have g8 := (tab_cells (g := 2) (n := "math/bits.deBruijn64tab") (k := .u8) (zs := deb64) (r (by rw [show Lib.tabData .u8 deb64 = Rows.laid_math_bits_deBruijn64tab by kernel_rfl]; simp [seatLaid])) (by kernel_rfl) (by kernel_rfl) Tryz.underlying215 Tryz.underlying5 (by kernel_rfl) (by kernel_rfl)).2
  refine start_of (by rw [globals6]; rfl) (by rw [globals6]; exact heap_size hsh) (fun b o hb => ?_)
  have hb6 : b < 6 := by have := (List.getElem?_eq_some_iff.1 hb).1; simpa [H0] using this
  have tk : ∀ {k : IntKind} {zs : List Int} {b : Nat}, zs.length ≤ 100 → (∃ c t' fz, W.heap[b]? = some (.cells c t' fz) ∧ c.toList = zs.map fun z => Value.int k z) → GlobOK W b (tabRow k zs) := by
    intro k zs b hz g
    refine Or.inr ⟨_, rfl, by simpa using hz, ?_, g⟩
    rw [List.all_eq_true]; intro v hv; obtain ⟨z, _, rfl⟩ := List.mem_map.1 hv; rfl
  have hcase : b = 0 ∨ b = 1 ∨ b = 2 ∨ b = 3 ∨ b = 4 ∨ b = 5 := by omega
  rcases hcase with rfl | rfl | rfl | rfl | rfl | rfl <;>
    simp only [H0, List.getElem?_cons_succ, List.getElem?_cons_zero, Option.some.injEq] at hb <;> subst hb
  · exact Or.inl rfl
  · exact tk (by decide) g7
  · exact tk (by decide) g8
  · exact Or.inl rfl
  · exact Or.inl rfl
  · exact Or.inl rfl
variable {H : Type} {enc : TypeId × Value → H} {P : Program}
/-- The post, where all that was is as it was, and the answer is true. -/
theorem post_below {f : Func} {s : ChangeSpec} {apart fresh handsOn again : Bool} {W W' : World} {args : Array Value} {v : Value} {ds gs : List (DataW H)} {before pa pv : List MemPlace}
    (hW : DataW.Whole enc P f.params.toList s.vars apart W args.toList ds gs before)
    (hres : ∀ (b : Nat) (sp : Nat → Bool) (hd : Bool), DataW.TrodAll enc P W' b sp hd f.resultTypes.toList (v.resultList f.resultTypes.size) (s.fn H (ds ++ gs)).results [])
    (hargs : ∀ sp : Nat → Bool, (∀ p ∈ before, sp p.block = true) → DataW.TrodAll enc P W' 0 sp true f.params.toList args.toList (s.fn H (ds ++ gs)).args pa)
    (hvars : ∀ sp : Nat → Bool, (∀ p ∈ before, sp p.block = true) → DataW.TrodVars enc P W' sp s.vars (s.fn H (ds ++ gs)).vars pv)
    (hps : before = pa ++ pv) (hb : ∀ c, c < W.heap.size → W'.heap[c]? = W.heap[c]?) (hos : W'.os = W.os) (hout : W'.output = W.output)
    (hok : ∀ (j : Nat) (t : TypeId) (r : Value), f.resultTypes[j]? = some t → (v.resultList f.resultTypes.size)[j]? = some r → Value.okWide P W' .any 0 t r) :
    s.post enc P f apart fresh handsOn again W args v W' := by
  have hk : ∀ may, W.keptBut W' may := by
    intro may
    refine ⟨hos, hout, fun i hi => ?_⟩
    rw [hb i hi]
    generalize W.heap[i]? = o
    cases o with
    | none => rfl
    | some o => cases o <;> simp
  have hold : ∀ p ∈ before, (fun b => decide (b < W.heap.size)) p.block = true := fun p hp => by simpa using hW.lt p hp
  have hlt := hW.lt
  refine ⟨ds, gs, before, [], pa, pv, hW, hres _ _ _, hargs _ hold, hvars _ hold, World.keptBut_mono (fun p hp => ⟨hp, ?_⟩) (hk _), fun _ => ?_⟩
  · rw [hps, List.mem_append] at hp
    exact Or.inr hp
  · obtain ⟨_, _, _, _, _, hz, hn⟩ := hW
    refine ⟨hok, _, _, ([] ++ pa) ++ pv, ⟨[] ++ pa, pv, trodAll_append (hargs _ (fun _ _ => rfl)) (hres _ _ _), hvars _ (fun _ _ => rfl), rfl, ?_, ?_⟩, ?_⟩
    · intro b off hp
      have hp' : MemPlace.cell b off ∈ before := by rw [hps]; simpa using hp
      have h1 := hz b off hp'
      have h2 : b < W.heap.size := hlt _ hp'
      unfold World.frozen? at h1 ⊢
      rw [hb b h2]; exact h1
    · intro ha
      have := hn ha
      rw [hps] at this
      simpa using this
    · intro p hp _
      rw [hps]
      simpa using hp
/-- From the abstract executor to the machine: the call answers true, and all that was is as it was. -/
theorem calls_true {W : World} {X : Ext} (S : Go.AM.Start Tryz.prog (rhoG Tryz.prog.globals.size) H0 W) (hX : ExtOK Tryz.prog W X) {f : FuncId} {args : List Value} (c : Ca Tryz.prog X (.fn f) args H0 (fun v _ => v = .bool true)) {args' : Array Value} (ha : LRel (rhoG Tryz.prog.globals.size) args args'.toList) :
    Calls Tryz.prog f args' W fun e W' => e = .returned (.bool true) ∧ (∀ c, c < W.heap.size → W'.heap[c]? = W.heap[c]?) ∧ W'.os = W.os ∧ W'.output = W.output := by
  obtain ⟨N, v, h', rfl, hN⟩ := c
  refine (calls_of mixed progOK' hX (hN N (Nat.le_refl N)) (S.at (fun _ _ => rfl) S.rel.gsz) (fun _ _ => rfl) ha).mono fun e W' ⟨ρ', v', he, hv, _, hF⟩ => ?_
  cases hv
  exact ⟨he, S.below hF, hF.os, hF.output⟩
theorem one_arg {ρ : Rho} {x : Value} {args' : Array Value} (ha : LRel ρ [x] args'.toList) : ∃ x', args' = #[x'] ∧ VRel ρ x x' := by
  obtain ⟨l⟩ := args'
  simp only at ha
  cases ha with
  | cons hv ht => cases ht; exact ⟨_, rfl, hv⟩
theorem two_args {ρ : Rho} {x y : Value} {args' : Array Value} (ha : LRel ρ [x, y] args'.toList) : ∃ x' y', args' = #[x', y'] ∧ VRel ρ x x' ∧ VRel ρ y y' := by
  obtain ⟨l⟩ := args'
  simp only at ha
  cases ha with
  | cons hv ht => cases ht with
    | cons hv2 ht2 => cases ht2; exact ⟨_, _, rfl, hv, hv2⟩
noncomputable abbrev GN : Nat := Tryz.prog.globals.size
theorem fnok_below {ρ : Rho} {h : AHeap} {w : World} {f : FuncId} {args' : Array Value} {v v' : Value} (hin : (callFunc f args').run Tryz.prog w = .ok (.enter f args') w)
    (hcall : Calls Tryz.prog f args' w fun e w' => e = .returned v' ∧ Below w.heap.size w w') (H : HRel GN ρ h w) (hv : VRel ρ v v') : FnOK Tryz.prog GN ρ h w f args' v h := by
  refine ⟨hin, fun cs => ?_⟩
  obtain ⟨e, w', fr, ⟨rfl, hB⟩, hst, h1, h2⟩ := hcall cs
  obtain ⟨k1, k2⟩ := H.later hB.size hB.block hB.tape hB.os hB.output
  exact ⟨ρ, v', w', fr, hv, k1, k2, hst, h1, h2⟩
end Go.Proofs.YtpbmpdocgplhpaaGreatDoor
