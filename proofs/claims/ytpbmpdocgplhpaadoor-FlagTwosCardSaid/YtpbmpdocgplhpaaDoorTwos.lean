/-
  'FlagTwos': the whole law for 1..4 flags by the kernel; for any other number the first round by rules, the second by the kernel.
-/
import Derived.Test.YtpbmpdocgplhpaaDoorAwake
set_option linter.unusedSimpArgs false
set_option linter.unusedVariables false
set_option maxRecDepth 100000
namespace Go.Proofs.YtpbmpdocgplhpaaDoor.flagTwos
open Go Go.AM

theorem run1 : callTrue (acall Tryd.prog AX 60 (.fn 7) [.int .i64 1] H0) = true := by kernel_rfl
theorem run2 : callTrue (acall Tryd.prog AX 60 (.fn 7) [.int .i64 2] H0) = true := by kernel_rfl
theorem run3 : callTrue (acall Tryd.prog AX 60 (.fn 7) [.int .i64 3] H0) = true := by kernel_rfl
theorem run4 : callTrue (acall Tryd.prog AX 60 (.fn 7) [.int .i64 4] H0) = true := by kernel_rfl

theorem two_refused (k : Int) (hk : k < 1 ∨ 4 < k) : Ca Tryd.prog AX (.fn 30) [.int .i64 k] H0 (fun v h' => v = .tuple #[.slice none 0 0, .int .i64 1] ∧ h' = H0 ++ [.row [.int .i64 k] true]) := by
  refine Ca_fn (fn := Tryd.f30) (c := Tryd.f30.body.getD .skip) (by kernel_rfl) (by kernel_rfl) (by kernel_rfl) (by kernel_rfl) ?_
  refine Fin_run 1000 ?_
  refine Fin_head (.pointer (some ⟨4, 0, none⟩)) (H0 ++ [.row [.int .i64 k] true]) (by kernel_rfl) (by kernel_rfl) ?_
  refine Fin_run 1000 ?_
  refine Fin_head (.int .i64 k) (H0 ++ [.row [.int .i64 k] true]) (by kernel_rfl) (by kernel_rfl) ?_
  refine Fin_run 1000 ?_
  refine Fin_g (k < 1) (by kernel_rfl) (by kernel_rfl) (fun h3 => ?_) (fun h3 => ?_)
  · refine Fin_run 1000 ?_
    refine Fin_cB true (by kernel_rfl) ?_
    refine Fin_run 1000 ?_
    exact Fin_r (by kernel_rfl) ⟨Or.inr rfl, .tuple #[.slice none 0 0, .int .i64 1], by kernel_rfl, rfl, by kernel_rfl⟩
  · refine Fin_run 1000 ?_
    refine Fin_head (.int .i64 k) (H0 ++ [.row [.int .i64 k] true]) (by kernel_rfl) (by kernel_rfl) ?_
    refine Fin_run 1000 ?_
    refine Fin_c (k > 4) (by kernel_rfl) (fun h5 => ?_) (fun h5 => ?_)
    · refine Fin_run 1000 ?_
      exact Fin_r (by kernel_rfl) ⟨Or.inr rfl, .tuple #[.slice none 0 0, .int .i64 1], by kernel_rfl, rfl, by kernel_rfl⟩
    · omega

/-- The second round, by the kernel, for each number that the first leaves. -/
theorem second (k z : Int) (hz : z = 1 ∨ z = 2 ∨ z = 3 ∨ z = 4) (f : Nat → Value) (hf : [(0, Value.int .i64 z), (3, .int .i64 1), (2, .bool false)].map (fun p => f p.1) = [(0, Value.int .i64 z), (3, .int .i64 1), (2, .bool false)].map (·.2)) :
    Fin Tryd.prog AX none Tryd.f7.ntmps (lpN Tryd.f7 0) .normal ⟨f, H0 ++ [.row [.int .i64 k] true]⟩ (fun e y => (e = .normal ∨ e = .ret) ∧ ∃ v, fresults Tryd.prog Tryd.f7.results.toList y = some v ∧ v = .bool true) := by
  refine Fin_known _ hf ?_
  rcases hz with rfl | rfl | rfl | rfl
  · exact Fin_true (n := 60) (by kernel_rfl)
  · exact Fin_true (n := 60) (by kernel_rfl)
  · exact Fin_true (n := 60) (by kernel_rfl)
  · exact Fin_true (n := 60) (by kernel_rfl)

/-- The number of the second round. -/
def nxt (k : Int) : Int := IntKind.wrap .i64 (1 + IntKind.wrap .i64 (Int.tmod (IntKind.wrap .u64 k) 4))
theorem nxt_in (k : Int) : nxt k = 1 ∨ nxt k = 2 ∨ nxt k = 3 ∨ nxt k = 4 := by
  have h1 : 0 ≤ IntKind.wrap .u64 k := by simp [IntKind.wrap, IntKind.bits, IntKind.signed]; omega
  have h2 : Int.tmod (IntKind.wrap .u64 k) 4 = (IntKind.wrap .u64 k) % 4 := Int.tmod_eq_emod_of_nonneg h1
  unfold nxt
  rw [h2]
  have h3 : (IntKind.wrap .u64 k) % 4 = 0 ∨ (IntKind.wrap .u64 k) % 4 = 1 ∨ (IntKind.wrap .u64 k) % 4 = 2 ∨ (IntKind.wrap .u64 k) % 4 = 3 := by omega
  rcases h3 with h | h | h | h <;> rw [h] <;> decide

theorem other (k : Int) (hk : k < 1 ∨ 4 < k) : Ca Tryd.prog AX (.fn 7) [.int .i64 k] H0 (fun v _ => v = .bool true) := by
  refine Ca_fn (fn := Tryd.f7) (c := Tryd.f7.body.getD .skip) (by kernel_rfl) (by kernel_rfl) (by kernel_rfl) (by kernel_rfl) ?_
  refine Fin_run 1000 ?_
  refine Fin_unrl ?_
  refine Fin_run 1000 ?_
  refine Fin_cB true (by kernel_rfl) ?_
  refine Fin_run 1000 ?_
  refine Fin_call 30 [.int .i64 k] (by kernel_rfl) (by kernel_rfl) (two_refused k hk) (fun v1 hh1 hv1 => ?_)
  obtain ⟨rfl, rfl⟩ := hv1
  refine Fin_run 1000 ?_
  refine Fin_g (k < 1) (by kernel_rfl) (by kernel_rfl) (fun h2 => ?_) (fun h2 => ?_)
  · refine Fin_run 1000 ?_
    refine Fin_cB true (by kernel_rfl) ?_
    refine Fin_run 1000 ?_
    refine Fin_gB false (by kernel_rfl) (by kernel_rfl) ?_
    refine Fin_run 1000 ?_
    refine Fin_cB false (by kernel_rfl) ?_
    refine Fin_run 1000 ?_
    exact Fin_goto (lpN Tryd.f7 0) (H0 ++ [AObj.row [Value.int .i64 k] true]) [(0, .int .i64 (nxt k)), (3, .int .i64 1), (2, .bool false)] (by kernel_rfl) (by kernel_rfl) (by kernel_rfl) (fun f hf => second k (nxt k) (nxt_in k) f hf)
  · refine Fin_run 1000 ?_
    refine Fin_c (k > 4) (by kernel_rfl) (fun h7 => ?_) (fun h7 => ?_)
    · refine Fin_run 1000 ?_
      refine Fin_gB false (by kernel_rfl) (by kernel_rfl) ?_
      refine Fin_run 1000 ?_
      refine Fin_cB false (by kernel_rfl) ?_
      refine Fin_run 1000 ?_
      exact Fin_goto (lpN Tryd.f7 0) (H0 ++ [AObj.row [Value.int .i64 k] true]) [(0, .int .i64 (nxt k)), (3, .int .i64 1), (2, .bool false)] (by kernel_rfl) (by kernel_rfl) (by kernel_rfl) (fun f hf => second k (nxt k) (nxt_in k) f hf)
    · omega
end Go.Proofs.YtpbmpdocgplhpaaDoor.flagTwos
