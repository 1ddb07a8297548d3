/-
  The contracts over trees.
-/
import Derived.Test.YtknpjlcgjlnfbaaGreatDoorAxy
import Derived.Test.YtknpjlcgjlnfbaaGreatDoorAt4
set_option linter.unusedSimpArgs false
set_option linter.unusedVariables false
set_option maxRecDepth 100000
namespace Go.Proofs.YtknpjlcgjlnfbaaGreatDoor
open Go Go.AM Go.AMT
noncomputable def contCT : List Value → TH → Option (Value × TH)
  | [.string s, .string sub], h => match sub.data.toList with
    | [c] => if s.size < 4294967281 then some (.bool (hasB c s.data.toList), h) else none
    | _ => none
  | _, _ => none
noncomputable def splitCT : List Value → TH → Option (Value × TH)
  | [.string s, .string sep], h => match sep.data.toList with
    | [c] => if c = 32 ∧ s.size < 1000000 then some (.slice (some ⟨h.len, 0, some 1⟩) (spl s).length (spl s).length, h.push (.row (strs (spl s)) true)) else none
    | _ => none
  | _, _ => none
noncomputable def joinCT : List Value → TH → Option (Value × TH)
  | [.slice (some ⟨b, o, some 1⟩) len _, .string sep], h =>
    match loadNT h b o len with
    | some cs =>
      match strsOf cs with
      | some L => if (joinS L sep).size ≤ 1000000 ∧ len ≤ 1000000 then some (.string (joinS L sep), h) else none
      | none => none
    | none => none
  | _, _ => none
noncomputable def trimCT : List Value → TH → Option (Value × TH)
  | [.string s, .string cs], h => if cs.size < 1000 ∧ (cs.data.toList.all fun c => decide (c.toNat < 128)) = true ∧ s.size ≤ 1000000 then some (.string (trimF s cs), h) else none
  | _, _ => none
noncomputable def itoaCT : List Value → TH → Option (Value × TH)
  | [.int .i64 n], h => if inI64 n = true then some (.string (gB (itoa n)), h) else none
  | _, _ => none
noncomputable def fintCT : List Value → TH → Option (Value × TH)
  | [.int .i64 n, .int .i64 b], h => if inI64 n = true ∧ b = 10 then some (.string (gB (itoa n)), h) else none
  | _, _ => none
noncomputable def errVT (h : TH) : Value := .iface 418 (.pointer (some ⟨h.len, 0, none⟩))
noncomputable def atoiCT : List Value → TH → Option (Value × TH)
  | [.string s], h => if s.size ≤ 1000000 then (match Lib.atoiAll s.data.toList with
    | .ok v => some (.tuple #[.int .i64 v, .nilIface], h)
    | .syntax => some (.tuple #[.int .i64 0, errVT h], h.push (.dead))
    | .range => some (.tuple #[.int .i64 (Lib.atoiSat s.data.toList), errVT h], h.push (.dead))) else none
  | _, _ => none

noncomputable def codeInT (v : Value) (h : TH) : Option (Value × TH) :=
  match v with
  | .agg ys =>
    match ys.toList with
    | [y] => match y with
      | .int .i64 n => some (.int .i64 n, h)
      | _ => none
    | _ => none
  | _ => none
noncomputable def codeAtT (v : Value) (h : TH) : Option (Value × TH) :=
  match v with
  | .agg xs =>
    match xs.toList with
    | [a, b] => match a, b with
      | .string _, .iface t y => if t = 249 then codeInT y h else none
      | _, _ => none
    | _ => none
  | _ => none
noncomputable def codeCT (args : List Value) (h : TH) : Option (Value × TH) :=
  match args with
  | [v] => match v with
    | .iface t x => if t = 124 then codeAtT x h else none
    | _ => none
  | _ => none
noncomputable def AXLT : ExtT := fun f =>
  bif Nat.beq f 60 then some contCT else bif Nat.beq f 119 then some splitCT else bif Nat.beq f 117 then some joinCT else bif Nat.beq f 195 then some trimCT else
  bif Nat.beq f 172 then some itoaCT else bif Nat.beq f 116 then some fintCT else bif Nat.beq f 171 then some atoiCT else bif Nat.beq f 62 then some codeCT else none



theorem AXLT_ok : ExtTOK AXLT AXL := by
  intro f
  unfold AXLT AXL
  cases h23 : Nat.beq f 60 with
  | true => exact ⟨contC, rfl, fun args th v th' h => by unfold contCT at h; unfold contC; ((repeat' split at *) <;> first | (simp_all [TH.toL_push, TH.toL_length, loadN_t, errV, errVT]; done) | grind [TH.toL_push, TH.toL_length, loadN_t, errV, errVT])⟩
  | false =>
  cases h43 : Nat.beq f 119 with
  | true => exact ⟨splitC, rfl, fun args th v th' h => by unfold splitCT at h; unfold splitC; ((repeat' split at *) <;> first | (simp_all [TH.toL_push, TH.toL_length, loadN_t, errV, errVT]; done) | grind [TH.toL_push, TH.toL_length, loadN_t, errV, errVT])⟩
  | false =>
  cases h41 : Nat.beq f 117 with
  | true => exact ⟨joinC, rfl, fun args th v th' h => by unfold joinCT at h; unfold joinC; ((repeat' split at *) <;> first | (simp_all [TH.toL_push, TH.toL_length, loadN_t, errV, errVT]; done) | grind [TH.toL_push, TH.toL_length, loadN_t, errV, errVT])⟩
  | false =>
  cases h84 : Nat.beq f 195 with
  | true => exact ⟨trimC, rfl, fun args th v th' h => by unfold trimCT at h; unfold trimC; ((repeat' split at *) <;> first | (simp_all [TH.toL_push, TH.toL_length, loadN_t, errV, errVT]; done) | grind [TH.toL_push, TH.toL_length, loadN_t, errV, errVT])⟩
  | false =>
  cases h61 : Nat.beq f 172 with
  | true => exact ⟨itoaC, rfl, fun args th v th' h => by unfold itoaCT at h; unfold itoaC; ((repeat' split at *) <;> first | (simp_all [TH.toL_push, TH.toL_length, loadN_t, errV, errVT]; done) | grind [TH.toL_push, TH.toL_length, loadN_t, errV, errVT])⟩
  | false =>
  cases h40 : Nat.beq f 116 with
  | true => exact ⟨fintC, rfl, fun args th v th' h => by unfold fintCT at h; unfold fintC; ((repeat' split at *) <;> first | (simp_all [TH.toL_push, TH.toL_length, loadN_t, errV, errVT]; done) | grind [TH.toL_push, TH.toL_length, loadN_t, errV, errVT])⟩
  | false =>
  cases h60 : Nat.beq f 171 with
  | true => exact ⟨atoiC, rfl, fun args th v th' h => by unfold atoiCT at h; unfold atoiC; ((repeat' split at *) <;> first | (simp_all [TH.toL_push, TH.toL_length, loadN_t, errV, errVT]; done) | grind [TH.toL_push, TH.toL_length, loadN_t, errV, errVT])⟩
  | false =>
  cases h25 : Nat.beq f 62 with
  | true => exact ⟨codeC, rfl, fun args th v th' h => by unfold codeCT codeAtT codeInT at h; unfold codeC codeAt codeIn; ((repeat' split at *) <;> first | (simp_all [TH.toL_push, TH.toL_length, loadN_t, errV, errVT]; done) | grind [TH.toL_push, TH.toL_length, loadN_t, errV, errVT])⟩
  | false => rfl
end Go.Proofs.YtknpjlcgjlnfbaaGreatDoor
