/-
  codeOf of an error about a line that wraps a refusal: the refusal's code; as a contract.
-/
import Derived.Test.YtknpjlcgjlnfbaaGreatDoorAs2
import Derived.Test.YtknpjlcgjlnfbaaGreatDoorCtr
set_option linter.unusedSimpArgs false
set_option linter.unusedVariables false
set_option maxRecDepth 100000
namespace Go.Proofs.YtknpjlcgjlnfbaaGreatDoor
open Go Go.RowKit Go.Extern.Stop Go.Stop Go.Extern Go.AM

set_option maxHeartbeats 4000000 in
theorem code_calls (s : ByteArray) (n : Int) (w : World) (hg : w.cell? ⟨3, 0, none⟩ = some (rT 119)) :
    Calls Tryz.prog 62 #[.iface 124 (.agg #[.string s, .iface 249 (.agg #[.int .i64 n])])] w fun e w' => e = .returned (.int .i64 n) ∧ Below w.heap.size w w' := by
  have hlt : 3 < w.heap.size := by
    rcases Nat.lt_or_ge 3 w.heap.size with h | h
    · exact h
    · simp [World.cell?, Array.getElem?_eq_none h] at hg
  have hgA : (w.alloc (.cells #[.int .i64 0] 249)).cell? ⟨3, 0, none⟩ = some (rT 119) := by rw [World.cell?_alloc_lt _ _ ⟨3, 0, none⟩ hlt]; exact hg
  have htA : (w.alloc (.cells #[.int .i64 0] 249)).cell? ⟨w.heap.size, 0, none⟩ = some (.int .i64 0) := by simp
  have hfA : (w.alloc (.cells #[.int .i64 0] 249)).frozen? ⟨w.heap.size, 0, none⟩ = false := by simp
  have hcon := as_calls s n w.heap.size (.int .i64 0) (w.alloc (.cells #[.int .i64 0] 249)) hgA htA hfA
  go_enter Tryz.func62, Tryz.ntmps62
  go_wp2_with (go_at_call 123; refine hcon.mono ?_; rintro e w' ⟨rfl, rfl⟩)
  go_ret
  refine ⟨rfl, ?_⟩
  have b1 : Below w.heap.size w (w.alloc (.cells #[.int .i64 n] 249)) := (Below.refl _ _).alloc (Nat.le_refl _) _
  exact ((((b1.alloc (by simp) _).alloc (by simp; omega) _).alloc (by simp; omega) _).alloc (by simp; omega) _).alloc (by simp; omega) _

/-- The number in a refusal. -/
def codeIn (v : Value) (h : AHeap) : Option (Value × AHeap) :=
  match v with
  | .agg ys =>
    match ys.toList with
    | [y] => match y with
      | .int .i64 n => some (.int .i64 n, h)
      | _ => none
    | _ => none
  | _ => none
/-- The refusal in an error about a line. -/
def codeAt (v : Value) (h : AHeap) : Option (Value × AHeap) :=
  match v with
  | .agg xs =>
    match xs.toList with
    | [a, b] => match a, b with
      | .string _, .iface t y => if t = 249 then codeIn y h else none
      | _, _ => none
    | _ => none
  | _ => none
/-- codeOf. -/
def codeC (args : List Value) (h : AHeap) : Option (Value × AHeap) :=
  match args with
  | [v] => match v with
    | .iface t x => if t = 124 then codeAt x h else none
    | _ => none
  | _ => none
theorem codeC_inv {args : List Value} {h h' : AHeap} {v : Value} (hr : codeC args h = some (v, h')) : ∃ s n, args = [.iface 124 (.agg #[.string s, .iface 249 (.agg #[.int .i64 n])])] ∧ v = .int .i64 n ∧ h' = h := by
  unfold codeC codeAt codeIn at hr
  repeat' split at hr
  all_goals first | (simp at hr; done) | skip
  simp only [Option.some.injEq, Prod.mk.injEq] at hr
  obtain ⟨rfl, rfl⟩ := hr
  rename_i t1 h1 _ xs _ _ _ s t2 h2 _ ys hxs _ _ n hys
  obtain ⟨xs⟩ := xs
  obtain ⟨ys⟩ := ys
  simp only at hxs hys
  subst hys hxs h1 h2
  exact ⟨_, _, rfl, rfl, rfl⟩
theorem agg1_rel {ρ : Rho} {x v' : Value} (h : VRel ρ (.agg #[x]) v') : ∃ x', v' = .agg #[x'] ∧ VRel ρ x x' := by
  cases h with
  | agg hs h =>
    rename_i a
    obtain ⟨l⟩ := a
    simp only [List.size_toArray, List.length_cons, List.length_nil] at hs
    match l, hs with
    | [x'], _ => exact ⟨x', rfl, h 0 (by simp) (by simp)⟩
theorem agg2_rel {ρ : Rho} {x y v' : Value} (h : VRel ρ (.agg #[x, y]) v') : ∃ x' y', v' = .agg #[x', y'] ∧ VRel ρ x x' ∧ VRel ρ y y' := by
  cases h with
  | agg hs h =>
    rename_i a
    obtain ⟨l⟩ := a
    simp only [List.size_toArray, List.length_cons, List.length_nil] at hs
    match l, hs with
    | [x', y'], _ => exact ⟨x', y', rfl, h 0 (by simp) (by simp), h 1 (by simp) (by simp)⟩
theorem code_fnok {ρ : Rho} {h h' : AHeap} {w : World} {args : List Value} {args' : Array Value} {v : Value} (Y : YW w) (hr : codeC args h = some (v, h')) (H : HRel GN ρ h w) (ha : LRel ρ args args'.toList) : FnOK Tryz.prog GN ρ h w 62 args' v h' := by
  obtain ⟨s, n, rfl, rfl, rfl⟩ := codeC_inv hr
  obtain ⟨x', rfl, hx⟩ := one_arg ha
  cases hx with
  | iface _ hx =>
    obtain ⟨a, b, rfl, ha1, hb1⟩ := agg2_rel hx
    cases ha1
    cases hb1 with
    | iface _ hb1 =>
      obtain ⟨c, rfl, hc⟩ := agg1_rel hb1
      cases hc
      exact fnok_below (by kernel_rfl) (code_calls s n w Y.etyp) H (.int _ _)
end Go.Proofs.YtknpjlcgjlnfbaaGreatDoor
