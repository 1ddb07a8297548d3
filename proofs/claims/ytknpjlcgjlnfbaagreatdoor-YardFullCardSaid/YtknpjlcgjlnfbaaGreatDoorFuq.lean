/-
  YardFull, run by the kernel on the bare heap, its lines and awake being told: for each of the five kinds (merged by program of Fur and Fuc).
-/
import Derived.Test.YtknpjlcgjlnfbaaGreatDoorFut
import Derived.KernelRfl
set_option linter.unusedSimpArgs false
set_option linter.unusedVariables false
set_option maxRecDepth 100000
namespace Go.Proofs.YtknpjlcgjlnfbaaGreatDoor
open Go Go.AM Go.AMT
abbrev II (n : Int) : Value := .int .i64 n
noncomputable def fuTab : List Ent := fu0Tab ++ (fu1Tab ++ (fu2Tab ++ (fu3Tab ++ fu4Tab)))
noncomputable abbrev fuX : Ext := AXF fuTab
def seqA : Code → Code
  | .seq a _ => a
  | c => c
def seqB : Code → Code
  | .seq _ b => b
  | c => c
noncomputable def f6c : Code := Tryz.f6.body.getD .skip
noncomputable def f6r : Code := seqB (seqB (seqB (seqB f6c)))
theorem f6_shape : f6c = .seq (seqA f6c) (.seq (seqA (seqB f6c)) (.seq (seqA (seqB (seqB f6c))) (.seq (seqA (seqB (seqB (seqB f6c)))) f6r))) := by kernel_rfl
def fuT (a b c k : Value) : List Value := [a, undef, .bool false, .pointer (some ⟨16, 0, none⟩), k, undef, undef, undef, undef, undef, undef, .pointer (some ⟨16, 0, none⟩), .pointer (some ⟨16, 0, none⟩), .bool false, a, b, c, k] ++ List.replicate 80 undef
noncomputable def fuH : AHeap := H0 ++ [.row [II 8, II 0, II 0] true, .amap [], .row [II 0, II 0, II 0, II 0, II 0] true, .row [II 0, II 0, II 0] true, .row [.string ⟨#[]⟩, .string ⟨#[49]⟩, .slice (some ⟨12, 0, some 1⟩) 3 3, .slice none 0 0, .slice none 0 0, .slice none 0 0, .map (some 13), II 1, II 0, .slice (some ⟨14, 0, some 1⟩) 5 5, .slice (some ⟨15, 0, some 1⟩) 3 3, .slice none 0 0, .slice none 0 0] true]
noncomputable def fuK (k : Int) : Int := IntKind.wrap .i64 (Int.tmod (IntKind.wrap .u64 k) 5)
noncomputable def fuCall : ACall := acall Tryz.prog fuX 60
noncomputable def resTrue (f : Func) : Option (AExit × St) → Bool
  | some (.ret, s) => (match aresults Tryz.prog f.results.toList s.t s.h with | some (.bool b) => b | _ => false)
  | some (.normal, s) => (match aresults Tryz.prog f.results.toList s.t s.h with | some (.bool b) => b | _ => false)
  | _ => false
theorem fu_run0 (a b c : Value) : resTrue Tryz.f6 (aex Tryz.prog fuCall 60 none f6r ⟨fuT a b c (II 0), fuH⟩) = true := by kernel_rfl
theorem fu_run1 (a b c : Value) : resTrue Tryz.f6 (aex Tryz.prog fuCall 60 none f6r ⟨fuT a b c (II 1), fuH⟩) = true := by kernel_rfl
theorem fu_run2 (a b c : Value) : resTrue Tryz.f6 (aex Tryz.prog fuCall 60 none f6r ⟨fuT a b c (II 2), fuH⟩) = true := by kernel_rfl
theorem fu_run3 (a b c : Value) : resTrue Tryz.f6 (aex Tryz.prog fuCall 60 none f6r ⟨fuT a b c (II 3), fuH⟩) = true := by kernel_rfl
theorem fu_run4 (a b c : Value) : resTrue Tryz.f6 (aex Tryz.prog fuCall 60 none f6r ⟨fuT a b c (II 4), fuH⟩) = true := by kernel_rfl
theorem fu_pre (k : Int) : aex Tryz.prog fuCall 60 none f6c ⟨[II k] ++ List.replicate 97 undef, H0⟩ = aex Tryz.prog fuCall 60 none f6r ⟨fuT (II k) (.int .u64 (IntKind.wrap .u64 k)) (.int .u64 (Int.tmod (IntKind.wrap .u64 k) 5)) (II (fuK k)), fuH⟩ := by
  rw [f6_shape]
  have h0 : aex Tryz.prog fuCall 60 none (seqA f6c) ⟨[II k] ++ List.replicate 97 undef, H0⟩ = some (.normal, ⟨[II k, undef, .bool false] ++ List.replicate 95 undef, H0⟩) := by kernel_rfl
  have h1 : aex Tryz.prog fuCall 60 none (seqA (seqB f6c)) ⟨[II k, undef, .bool false] ++ List.replicate 95 undef, H0⟩ = some (.normal, ⟨[II k, undef, .bool false, .pointer (some ⟨16, 0, none⟩), undef, undef, undef, undef, undef, undef, undef, .pointer (some ⟨16, 0, none⟩)] ++ List.replicate 86 undef, fuH⟩) := by kernel_rfl
  have h2 : aex Tryz.prog fuCall 60 none (seqA (seqB (seqB f6c))) ⟨[II k, undef, .bool false, .pointer (some ⟨16, 0, none⟩), undef, undef, undef, undef, undef, undef, undef, .pointer (some ⟨16, 0, none⟩)] ++ List.replicate 86 undef, fuH⟩ = some (.normal, ⟨[II k, undef, .bool false, .pointer (some ⟨16, 0, none⟩), undef, undef, undef, undef, undef, undef, undef, .pointer (some ⟨16, 0, none⟩), .pointer (some ⟨16, 0, none⟩), .bool false] ++ List.replicate 84 undef, fuH⟩) := by kernel_rfl
  have h3 : aex Tryz.prog fuCall 60 none (seqA (seqB (seqB (seqB f6c)))) ⟨[II k, undef, .bool false, .pointer (some ⟨16, 0, none⟩), undef, undef, undef, undef, undef, undef, undef, .pointer (some ⟨16, 0, none⟩), .pointer (some ⟨16, 0, none⟩), .bool false] ++ List.replicate 84 undef, fuH⟩ = some (.normal, ⟨fuT (II k) (.int .u64 (IntKind.wrap .u64 k)) (.int .u64 (Int.tmod (IntKind.wrap .u64 k) 5)) (II (fuK k)), fuH⟩) := by kernel_rfl
  simp only [aex, h0, h1, h2, h3]
theorem fu_wrap {n : Int} (h0 : -9223372036854775808 ≤ n) (h1 : n ≤ 9223372036854775807) : IntKind.wrap .i64 n = n := by
  simp [IntKind.wrap, IntKind.bits, IntKind.signed]; omega
theorem fuK_range (k : Int) : fuK k = 0 ∨ fuK k = 1 ∨ fuK k = 2 ∨ fuK k = 3 ∨ fuK k = 4 := by
  have h0 : 0 ≤ IntKind.wrap .u64 k := by
    show 0 ≤ _
    unfold IntKind.wrap
    simp [IntKind.signed, IntKind.bits]
    omega
  unfold fuK
  generalize IntKind.wrap .u64 k = u at h0
  have h1 : Int.tmod u 5 = u % 5 := Int.tmod_eq_emod_of_nonneg h0
  rw [h1, fu_wrap (by omega) (by omega)]
  omega
theorem full_run (k : Int) : resTrue Tryz.f6 (aex Tryz.prog fuCall 60 none f6c ⟨[II k] ++ List.replicate 97 undef, H0⟩) = true := by
  rw [fu_pre]
  rcases fuK_range k with h | h | h | h | h <;> rw [h]
  · exact fu_run0 _ _ _
  · exact fu_run1 _ _ _
  · exact fu_run2 _ _ _
  · exact fu_run3 _ _ _
  · exact fu_run4 _ _ _
end Go.Proofs.YtknpjlcgjlnfbaaGreatDoor

set_option linter.unusedSimpArgs false
set_option linter.unusedVariables false
set_option maxRecDepth 100000
namespace Go.AM
theorem acall_fn {P : Program} {X : Ext} {n f : Nat} {fn : Func} {c : Code} {args : List Value} {h : AHeap} {e : AExit} {s : St} {v : Value} (hx : X f = none) (hf : P.funcs[f]? = some fn) (hb : fn.body = some c)
    (hr : aex P (acall P X n) n none c ⟨args ++ List.replicate (fn.ntmps - args.length) undef, h⟩ = some (e, s)) (he : e = .normal ∨ e = .ret) (hv : aresults P fn.results.toList s.t s.h = some v) : acall P X (n + 1) (.fn f) args h = some (v, s.h) := by
  simp only [acall, hx, hf, hb, hr]
  rcases he with rfl | rfl <;> simp only [hv]
end Go.AM
namespace Go.Proofs.YtknpjlcgjlnfbaaGreatDoor
open Go Go.AM Go.AMT
theorem res_spec {r : Option (AExit × St)} {f : Func} (h : resTrue f r = true) : ∃ e s, r = some (e, s) ∧ (e = .normal ∨ e = .ret) ∧ aresults Tryz.prog f.results.toList s.t s.h = some (.bool true) := by
  cases r with
  | none => simp [resTrue] at h
  | some p =>
    obtain ⟨e, s⟩ := p
    have key : ∀ o : Option Value, (match o with | some (.bool b) => b | _ => false) = true → o = some (.bool true) := by
      intro o ho
      split at ho
      · rename_i b; rw [ho]
      · simp at ho
    cases e with
    | normal => exact ⟨_, s, rfl, Or.inl rfl, key _ h⟩
    | ret => exact ⟨_, s, rfl, Or.inr rfl, key _ h⟩
    | _ => simp [resTrue] at h
theorem full_call (k : Int) : callTrue (acall Tryz.prog fuX (60 + 1) (.fn 6) [II k] H0) = true := by
  have hx : fuX 6 = none := by kernel_rfl
  have hb : Tryz.f6.body = some f6c := by kernel_rfl
  have hn : ([II k] : List Value) ++ List.replicate (Tryz.f6.ntmps - [II k].length) undef = [II k] ++ List.replicate 97 undef := by kernel_rfl
  obtain ⟨e, s, h1, h2, h3⟩ := res_spec (full_run k)
  rw [acall_fn hx Tryz.func6 hb (by rw [hn]; exact h1) h2 h3]
  rfl
end Go.Proofs.YtknpjlcgjlnfbaaGreatDoor
