/-
  codeOf of an error about a line that wraps a refusal: the refusal's code.
-/
import Derived.Test.YtknpjlcgjlnfbaaGreatDoorAs
set_option linter.unusedSimpArgs false
set_option linter.unusedVariables false
set_option maxRecDepth 100000
namespace Go.Proofs.YtknpjlcgjlnfbaaGreatDoor
open Go Go.RowKit Go.Extern.Stop Go.Stop Go.Extern

set_option maxHeartbeats 4000000 in
theorem as_calls (s : ByteArray) (n : Int) (t : Nat) (old : Value) (w : World) (hg : w.cell? ⟨3, 0, none⟩ = some (rT 119)) (ht0 : w.cell? ⟨t, 0, none⟩ = some old) (hf0 : w.frozen? ⟨t, 0, none⟩ = false) :
    Calls Tryz.prog 123 #[.iface 124 (.agg #[.string s, .iface 249 (.agg #[.int .i64 n])]), .iface 251 (.pointer (some ⟨t, 0, none⟩))] w fun ev w' => ev = .returned (.bool true) ∧ w' = (((((w.alloc (.cells #[.pointer (some ⟨t, 0, none⟩)] 251)).alloc (.cells #[tH 251, .pointer (some ⟨w.heap.size, 0, none⟩), .int .u64 150] 317)).alloc (.cells #[tH 251, .pointer (some ⟨w.heap.size, 0, none⟩), .int .u64 150] 317)).alloc (.cells #[.string s, .iface 249 (.agg #[.int .i64 n])] 124)).alloc (.cells #[.int .i64 n] 249)).setCell ⟨t, 0, none⟩ (.int .i64 n) := by
  have h80 := @run_callFunc_extern Tryz.prog 191 _ (fun args => ReflectliteValue.unpack (args.getD 0 (.tuple #[]))) Tryz.func191 (by kernel_rfl) (by kernel_rfl) (by kernel_rfl) (by kernel_rfl)
  have h81 := @run_callFunc_extern Tryz.prog 192 _ (ReflectliteValue.methodAny (ReflectliteValue.valueError "reflectlite.Value.Type" 0) (fun t _ _ _ => ReflectliteType.toType t)) Tryz.func192 (by kernel_rfl) (by kernel_rfl) (by kernel_rfl) (by kernel_rfl)
  have h82 := @run_callFunc_extern Tryz.prog 193 _ (ReflectliteValue.method (ReflectliteValue.valueError "reflectlite.Value.IsNil" 0) ReflectliteValue.isNil) Tryz.func193 (by kernel_rfl) (by kernel_rfl) (by kernel_rfl) (by kernel_rfl)
  have h339 := @run_callFunc_extern Tryz.prog 359 _ (ReflectliteType.abiMethod fun t => do pure (.int .u8 (← Rtype.kind t))) Tryz.func359 (by kernel_rfl) (by kernel_rfl) (by kernel_rfl) (by kernel_rfl)
  have h373 := @run_callFunc_extern Tryz.prog 395 _ (ReflectliteType.method ReflectliteType.elem) Tryz.func395 (by kernel_rfl) (by kernel_rfl) (by kernel_rfl) (by kernel_rfl)
  have h374 := @run_callFunc_extern Tryz.prog 396 _ (ReflectliteType.relation "Implements" ReflectliteType.implements_) Tryz.func396 (by kernel_rfl) (by kernel_rfl) (by kernel_rfl) (by kernel_rfl)
  have h124 := @run_callFunc_extern Tryz.prog 254 _ ReflectliteType.typeOf Tryz.func254 (by kernel_rfl) (by kernel_rfl) (by kernel_rfl) (by kernel_rfl)
  have h371 := @run_callFunc_extern Tryz.prog 393 _ (ReflectliteType.relation "AssignableTo" ReflectliteType.assignableTo) Tryz.func393 (by kernel_rfl) (by kernel_rfl) (by kernel_rfl) (by kernel_rfl)
  have h125 := @run_callFunc_extern Tryz.prog 255 _ (ReflectliteValue.method (ReflectliteValue.valueError "reflectlite.Value.Elem" 0) ReflectliteValue.elem) Tryz.func255 (by kernel_rfl) (by kernel_rfl) (by kernel_rfl) (by kernel_rfl)
  have h126 := @run_callFunc_extern Tryz.prog 256 _ ReflectliteValue.set Tryz.func256 (by kernel_rfl) (by kernel_rfl) (by kernel_rfl) (by kernel_rfl)
  have t68 := asTypeOf68
  have t121 := asTypeOf121
  have mA := asMethodAssignable
  have a68 := asAssignable68
  have a121 := asAssignable121
  have v121 := asValueOf121
  have f6 := asValueOf123
  have f7 := asType123
  have mK := asMethodKind
  have mE := asMethodElem
  have mI := asMethodImplements
  have mU := asMethodUnwrap
  have nA := asNoAs68
  have uW := asUnwrap68
  have k123 := asKind123
  have k121 := asKind121
  have e123 := asElem123
  have i121 := asImplements121
  have n8 := asIsNil123 ⟨w.heap.size, 0, none⟩ ⟨t, 0, none⟩ ((w.alloc (.cells #[.pointer (some ⟨t, 0, none⟩)] 251)).alloc (.cells #[tH 251, .pointer (some ⟨w.heap.size, 0, none⟩), .int .u64 150] 317)) (by simp)
  have hlt : 3 < w.heap.size := by
    rcases Nat.lt_or_ge 3 w.heap.size with h | h
    · exact h
    · simp [World.cell?, Array.getElem?_eq_none h] at hg
  have hg2 : ((w.alloc (.cells #[.pointer (some ⟨t, 0, none⟩)] 251)).alloc (.cells #[tH 251, .pointer (some ⟨w.heap.size, 0, none⟩), .int .u64 150] 317)).cell? ⟨3, 0, none⟩ = some (rT 119) := by
    rw [World.cell?_alloc_lt _ _ ⟨3, 0, none⟩ (by simp; omega), World.cell?_alloc_lt _ _ ⟨3, 0, none⟩ hlt]; exact hg
  have htl : t < w.heap.size := by
    rcases Nat.lt_or_ge t w.heap.size with h | h
    · exact h
    · simp [World.cell?, Array.getElem?_eq_none h] at ht0
  have el := asElemV123 ⟨w.heap.size, 0, none⟩ ⟨t, 0, none⟩ ((((w.alloc (.cells #[.pointer (some ⟨t, 0, none⟩)] 251)).alloc (.cells #[tH 251, .pointer (some ⟨w.heap.size, 0, none⟩), .int .u64 150] 317)).alloc (.cells #[tH 251, .pointer (some ⟨w.heap.size, 0, none⟩), .int .u64 150] 317)).alloc (.cells #[.string s, .iface 249 (.agg #[.int .i64 n])] 124)) (by rw [World.cell?_alloc_lt _ _ ⟨w.heap.size, 0, none⟩ (by simp; omega), World.cell?_alloc_lt _ _ ⟨w.heap.size, 0, none⟩ (by simp; omega)]; simp)
  have st := asSet121 t (w.heap.size + 1 + 1 + 1 + 1) n .i64 old (((((w.alloc (.cells #[.pointer (some ⟨t, 0, none⟩)] 251)).alloc (.cells #[tH 251, .pointer (some ⟨w.heap.size, 0, none⟩), .int .u64 150] 317)).alloc (.cells #[tH 251, .pointer (some ⟨w.heap.size, 0, none⟩), .int .u64 150] 317)).alloc (.cells #[.string s, .iface 249 (.agg #[.int .i64 n])] 124)).alloc (.cells #[.int .i64 n] 249))
    (by rw [World.cell?_alloc_at _ _ _ _ (by simp)]; rfl)
    (by rw [World.cell?_alloc_lt _ _ ⟨t, 0, none⟩ (by simp; omega), World.cell?_alloc_lt _ _ ⟨t, 0, none⟩ (by simp; omega), World.cell?_alloc_lt _ _ ⟨t, 0, none⟩ (by simp; omega), World.cell?_alloc_lt _ _ ⟨t, 0, none⟩ (by simp; omega), World.cell?_alloc_lt _ _ ⟨t, 0, none⟩ htl]; exact ht0)
    (by rw [World.frozen?_alloc_old _ _ ⟨t, 0, none⟩ (by simp; omega), World.frozen?_alloc_old _ _ ⟨t, 0, none⟩ (by simp; omega), World.frozen?_alloc_old _ _ ⟨t, 0, none⟩ (by simp; omega), World.frozen?_alloc_old _ _ ⟨t, 0, none⟩ (by simp; omega), World.frozen?_alloc_old _ _ ⟨t, 0, none⟩ (Nat.ne_of_lt htl)]; exact hf0)
  go_enter Tryz.func123, Tryz.ntmps123
  go_wp2
  refine wp_loop_rounds 2 ?_
  rw [rounds_succ]
  go_wp2
  rw [rounds_succ]
  go_wp2
  go_ret
  exact ⟨rfl, rfl⟩
end Go.Proofs.YtknpjlcgjlnfbaaGreatDoor
