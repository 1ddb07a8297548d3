/-
  What the walks of the laws share.
-/
import Derived.Test.YtpbmpdocgplhpaaDoorMD
import Derived.Test.YtpbmpdocgplhpaaDoorMG
set_option linter.unusedSimpArgs false
set_option linter.unusedVariables false
set_option maxRecDepth 100000
namespace Go.Proofs.YtpbmpdocgplhpaaDoor
open Go Go.AM

theorem sortN_AX : SortN AX := ⟨by kernel_rfl, by kernel_rfl, by kernel_rfl, by kernel_rfl, by kernel_rfl, by kernel_rfl, by kernel_rfl, by kernel_rfl, by kernel_rfl⟩
theorem sortX_AX : SortX AX := sortN_AX.x
theorem ringX_AX : RingX AX := ⟨sortX_AX, by kernel_rfl, by kernel_rfl, by kernel_rfl, by kernel_rfl, by kernel_rfl, by kernel_rfl, by kernel_rfl⟩
theorem awake_ca (h : AHeap) : Ca Tryd.prog AX (.fn 22) [] h (fun v h' => v = .bool true ∧ h' = h) :=
  Ca_ext (c := fun args h => match args with | [] => some (.bool true, h) | _ => none) (by kernel_rfl) rfl ⟨rfl, rfl⟩

/-- A number brought into 1 .. q. -/
def norm (q k : Int) : Int := IntKind.wrap .i64 (1 + IntKind.wrap .i64 (Int.tmod (IntKind.wrap .u64 k) q))
theorem norm_in (q : Nat) (hq : 0 < q) (hq2 : q < 1000000) (k : Int) : ∃ a : Nat, 1 ≤ a ∧ a ≤ q ∧ norm q k = a := by
  have h1 : 0 ≤ IntKind.wrap .u64 k := by simp [IntKind.wrap, IntKind.bits, IntKind.signed]; omega
  have h2 : Int.tmod (IntKind.wrap .u64 k) q = (IntKind.wrap .u64 k) % q := Int.tmod_eq_emod_of_nonneg h1
  have h3 := Int.emod_nonneg (IntKind.wrap .u64 k) (show (q : Int) ≠ 0 by omega)
  have h4 := Int.emod_lt_of_pos (IntKind.wrap .u64 k) (show (0 : Int) < q by omega)
  refine ⟨((IntKind.wrap .u64 k) % q).toNat + 1, by omega, by omega, ?_⟩
  unfold norm
  rw [h2, wrap_small (n := (IntKind.wrap .u64 k) % q) h3 (by omega), wrap_small (by omega) (by omega)]
  omega
/-- The law's end. -/
def TrueQ (fn : Func) (e : AExit) (y : FS) : Prop := (e = .normal ∨ e = .ret) ∧ ∃ v, fresults Tryd.prog fn.results.toList y = some v ∧ v = .bool true

end Go.Proofs.YtpbmpdocgplhpaaDoor
