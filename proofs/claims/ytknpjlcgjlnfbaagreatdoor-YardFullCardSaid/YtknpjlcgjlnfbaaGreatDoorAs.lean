/-
  errors.As of an error that is about a line and wraps a refusal, as codeOf asks it: the library's own text is walked; the model's entries for internal/reflectlite are closed facts.
-/
import Derived.Test.YtknpjlcgjlnfbaaGreatDoorProg
import Derived.WalkKit
import Derived.LaidEql
import Derived.Stop.Asserts
import Derived.RowKitTokens
set_option maxRecDepth 100000
namespace Go.Proofs.YtknpjlcgjlnfbaaGreatDoor
open Go Go.RowKit Go.Extern.Stop Go.Stop Go.Extern

abbrev tH (t : Nat) : Value := .pointer (some ⟨12, t, none⟩)
abbrev rT (t : Nat) : Value := .iface 372 (.agg #[tH t])

theorem asValueOf123 (t : Addr) (w : World) : (ReflectliteValue.unpack (.iface 251 (.pointer (some t)))).run Tryz.prog w
    = .ok (.agg #[tH 251, .pointer (some ⟨w.heap.size, 0, none⟩), .int .u64 150]) (w.alloc (.cells #[.pointer (some t)] 251)) := by kernel_rfl
theorem asType123 (a : Addr) (w : World) : (ReflectliteValue.methodAny (ReflectliteValue.valueError "reflectlite.Value.Type" 0) (fun t _ _ _ => ReflectliteType.toType t) #[.agg #[tH 251, .pointer (some a), .int .u64 150]]).run Tryz.prog w
    = .ok (rT 251) w := by kernel_rfl
theorem asMethodKind (h : Value) (w : World) : (Go.method 598 372 (.agg #[h]) "Kind").run Tryz.prog w = .ok (359, h) w := by kernel_rfl
theorem asKind123 (w : World) : ((ReflectliteType.abiMethod fun t => (fun a : Nat => Value.int IntKind.u8 (a : Int)) <$> Rtype.kind t) #[tH 251]).run Tryz.prog w = .ok (.int .u8 22) w := by kernel_rfl
theorem asKind121 (w : World) : ((ReflectliteType.abiMethod fun t => (fun a : Nat => Value.int IntKind.u8 (a : Int)) <$> Rtype.kind t) #[tH 249]).run Tryz.prog w = .ok (.int .u8 25) w := by kernel_rfl
theorem rlm (z : Sem Value) (f : TypeId → Addr → Nat → Nat → Sem Value) (v : Value) :
    ReflectliteValue.method z f #[v] = (do match ← ReflectliteValue.parts v with | none => z | some (t, a, fl) => f t a fl (fl % 32)) := rfl
theorem asParts123 (a : Addr) (w : World) : (ReflectliteValue.parts (.agg #[tH 251, .pointer (some a), .int .u64 150])).run Tryz.prog w = .ok (some (251, a, 150)) w := by kernel_rfl
theorem asIsNil123 (a p : Addr) (W : World) (ha : W.cell? a = some (.pointer (some p))) :
    (ReflectliteValue.method (ReflectliteValue.valueError "reflectlite.Value.IsNil" 0) ReflectliteValue.isNil #[.agg #[tH 251, .pointer (some a), .int .u64 150]]).run Tryz.prog W = .ok (.bool false) W := by
  rw [rlm]
  simp only [Sem.run_bind, asParts123, Result.andThen]
  simp [ReflectliteValue.isNil, loadVar, isAgg, underlying, Tryz.underlying251, ha, Result.andThen]
theorem asMethodElem (h : Value) (w : World) : (Go.method 598 372 (.agg #[h]) "Elem").run Tryz.prog w = .ok (395, .agg #[h]) w := by kernel_rfl
theorem asMethodImplements (h : Value) (w : World) : (Go.method 598 372 (.agg #[h]) "Implements").run Tryz.prog w = .ok (396, .agg #[h]) w := by kernel_rfl
theorem asMethodAssignable (h : Value) (w : World) : (Go.method 598 372 (.agg #[h]) "AssignableTo").run Tryz.prog w = .ok (393, .agg #[h]) w := by kernel_rfl
theorem asElem123 (w : World) : (ReflectliteType.method ReflectliteType.elem #[.agg #[tH 251]]).run Tryz.prog w = .ok (rT 249) w := by kernel_rfl
theorem asImplements121 (w : World) : (ReflectliteType.relation "Implements" ReflectliteType.implements_ #[.agg #[tH 249], rT 119]).run Tryz.prog w = .ok (.bool true) w := by kernel_rfl
theorem asTypeOf68 (v : Value) (w : World) : (ReflectliteType.typeOf #[.iface 124 v]).run Tryz.prog w = .ok (rT 124) w := by kernel_rfl
theorem asTypeOf121 (v : Value) (w : World) : (ReflectliteType.typeOf #[.iface 249 v]).run Tryz.prog w = .ok (rT 249) w := by kernel_rfl
theorem asAssignable68 (w : World) : (ReflectliteType.relation "AssignableTo" ReflectliteType.assignableTo #[.agg #[tH 124], rT 249]).run Tryz.prog w = .ok (.bool false) w := by kernel_rfl
theorem asAssignable121 (w : World) : (ReflectliteType.relation "AssignableTo" ReflectliteType.assignableTo #[.agg #[tH 249], rT 249]).run Tryz.prog w = .ok (.bool true) w := by kernel_rfl
theorem asValueOf121 (c : Value) (w : World) : (ReflectliteValue.unpack (.iface 249 (.agg #[c]))).run Tryz.prog w
    = .ok (.agg #[tH 249, .pointer (some ⟨w.heap.size, 0, none⟩), .int .u64 153]) (w.alloc (.cells #[c] 249)) := by kernel_rfl
theorem asElemOf123 (w : World) : (Rtype.elem? 251).run Tryz.prog w = .ok (some 249) w := by kernel_rfl
theorem asMk121 (p : Addr) (w : World) : (ReflectliteValue.mk 249 p ReflectliteValue.flagAddr).run Tryz.prog w = .ok (.agg #[tH 249, .pointer (some p), .int .u64 409]) w := by kernel_rfl
theorem asElemV123 (a p : Addr) (W : World) (ha : W.cell? a = some (.pointer (some p))) :
    (ReflectliteValue.method (ReflectliteValue.valueError "reflectlite.Value.Elem" 0) ReflectliteValue.elem #[.agg #[tH 251, .pointer (some a), .int .u64 150]]).run Tryz.prog W
      = .ok (.agg #[tH 249, .pointer (some p), .int .u64 409]) W := by
  rw [rlm]
  simp only [Sem.run_bind, asParts123, Result.andThen]
  simp [ReflectliteValue.elem, loadVar, isAgg, underlying, Tryz.underlying251, ha, Result.andThen, asElemOf123, asMk121]
theorem rls (v x : Value) : ReflectliteValue.set #[v, x] = (do
    let (some (dst, a, fl), some (src, b, _)) := (← ReflectliteValue.parts v, ← ReflectliteValue.parts x)
      | unsupported (.noEntry "extern/(internal/reflectlite.Value).Set.zeroValue")
    if fl / ReflectliteValue.flagAddr % 2 == 0 then unsupported (.noEntry "extern/(internal/reflectlite.Value).Set.unaddressable")
    let val ← loadVar src b
    if ← Rtype.directlyAssignable dst src then storeVar dst a val
    else if ← Rtype.implements dst src then
      if (← Rtype.kind src) == 20 then
        match val with
        | .nilIface => unsupported (.noEntry "extern/reflectlite: a nil value of one interface type handed on as a value of another")
        | _ => storeVar dst a val
      else storeVar dst a (.iface src val)
    else panicString ("reflectlite.Set: value of type " ++ (← Rtype.spelt src) ++ " is not assignable to type " ++ (← Rtype.spelt dst))
    pure (.tuple #[])) := rfl
theorem asParts121a (a : Addr) (w : World) : (ReflectliteValue.parts (.agg #[tH 249, .pointer (some a), .int .u64 409])).run Tryz.prog w = .ok (some (249, a, 409)) w := by kernel_rfl
theorem asParts121 (a : Addr) (w : World) : (ReflectliteValue.parts (.agg #[tH 249, .pointer (some a), .int .u64 153])).run Tryz.prog w = .ok (some (249, a, 153)) w := by kernel_rfl
theorem asDirect121 (w : World) : (Rtype.directlyAssignable 249 249).run Tryz.prog w = .ok true w := by kernel_rfl
theorem asSize121 (w : World) : (sizeOf 249).run Tryz.prog w = .ok 1 w := by kernel_rfl
theorem asAgg121 (w : World) : (isAgg 249).run Tryz.prog w = .ok true w := by kernel_rfl
theorem asLoad121 (b : Nat) (c : Value) (W : World) (hb : W.cell? ⟨b, 0, none⟩ = some c) : (loadVar 249 ⟨b, 0, none⟩).run Tryz.prog W = .ok (.agg #[c]) W := by
  simp [loadVar, Result.andThen, loadCells, loadCellsFrom, Addr.add, hb]
theorem asStore121 (ta : Nat) (k : IntKind) (n : Int) (old : Value) (W : World) (ht : W.cell? ⟨ta, 0, none⟩ = some old) (hf : W.frozen? ⟨ta, 0, none⟩ = false) : (storeVar 249 ⟨ta, 0, none⟩ (.agg #[.int k n])).run Tryz.prog W = .ok () (W.setCell ⟨ta, 0, none⟩ (.int k n)) := by
  simp [storeVar, Result.andThen, storeCells, Addr.add, Value.cells]
  rw [run_store Tryz.prog W ⟨ta, 0, none⟩ _ _ rfl]
  simp [ht, hf]
theorem asSet121 (ta b : Nat) (n : Int) (k : IntKind) (old : Value) (W : World) (hb : W.cell? ⟨b, 0, none⟩ = some (.int k n)) (ht : W.cell? ⟨ta, 0, none⟩ = some old) (hf : W.frozen? ⟨ta, 0, none⟩ = false) :
    (ReflectliteValue.set #[.agg #[tH 249, .pointer (some ⟨ta, 0, none⟩), .int .u64 409], .agg #[tH 249, .pointer (some ⟨b, 0, none⟩), .int .u64 153]]).run Tryz.prog W
      = .ok (.tuple #[]) (W.setCell ⟨ta, 0, none⟩ (.int k n)) := by
  rw [rls]
  simp only [Sem.run_bind, asParts121a, asParts121, Result.andThen]
  simp [ReflectliteValue.flagAddr, asLoad121 b _ W hb, asDirect121, Result.andThen, asStore121 ta k n old W ht hf]
theorem asNoAs68 (v : Value) (xT : TypeId) (w : World) : (Instr.typeAssert (.iface 124 v) xT 377 true).run Tryz.prog w = .ok (.tuple #[.nilIface, .bool false]) w := run_typeAssert_lacksB Tryz.underlying377 (by kernel_rfl) (by kernel_rfl) v xT w
theorem asUnwrap68 (v : Value) (xT : TypeId) (w : World) : (Instr.typeAssert (.iface 124 v) xT 380 true).run Tryz.prog w = .ok (.tuple #[.iface 124 v, .bool true]) w := run_typeAssert_hasB Tryz.underlying380 (by kernel_rfl) v xT w
theorem asMethodUnwrap (v : Value) (w : World) : (Go.method 598 124 v "Unwrap").run Tryz.prog w = .ok (364, v) w := by kernel_rfl
end Go.Proofs.YtknpjlcgjlnfbaaGreatDoor
