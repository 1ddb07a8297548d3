/-
  Contracts of the library's functions that TopRounds leans on: what they answer, and that they do.
-/
import Derived.Test.YtpbmpdocgplhpaaGreatDoorRbase
import Derived.Test.YtpbmpdocgplhpaaGreatDoorFrm
import Derived.Shelf.Strings.SlTrimAscii
import Derived.Test.YtpbmpdocgplhpaaGreatDoorAt4
set_option linter.unusedSimpArgs false
set_option linter.unusedVariables false
set_option maxRecDepth 100000
namespace Go.Proofs.YtpbmpdocgplhpaaGreatDoor
open Go Go.AM Go.AMT Go.Shelf Go.RowKit

def trimC : List Value → AHeap → Option (Value × AHeap)
  | [.string s, .string cs], h => if cs.size < 1000 ∧ (cs.data.toList.all fun c => decide (c.toNat < 128)) = true ∧ s.size ≤ 1000000 then some (.string (trimF s cs), h) else none
  | _, _ => none
def boolsOf : List Value → Option (List Bool)
  | [] => some []
  | .bool b :: r => match boolsOf r with
    | some l => some (b :: l)
    | none => none
  | _ => none
def formC : List Value → AHeap → Option (Value × AHeap)
  | [.slice (some ⟨b, o, some 1⟩) len _], h =>
    match loadN h b o len with
    | some cs =>
      match boolsOf cs with
      | some l => if len ≤ 100000 then some (.string (gB (l.map bitB)), h) else none
      | none => none
    | none => none
  | _, _ => none
theorem boolsOf_spec : ∀ {cs : List Value} {l : List Bool}, boolsOf cs = some l → cs = l.map Value.bool := by
  intro cs
  induction cs with
  | nil => intro l h; simp only [boolsOf, Option.some.injEq] at h; subst h; rfl
  | cons v cs ih =>
    intro l h
    unfold boolsOf at h
    split at h
    · rename_i heq; simp at heq
    · rename_i s r heq
      simp only [List.cons.injEq] at heq
      obtain ⟨rfl, rfl⟩ := heq
      split at h
      · rename_i l hl
        simp only [Option.some.injEq] at h; subst h
        rw [ih hl]; rfl
      · simp at h
    · simp at h
section
variable {ρ : Rho} {h h' : AHeap} {w : World} {args : List Value} {args' : Array Value} {v : Value}
theorem trim_fnok (hr : trimC args h = some (v, h')) (H : HRel GN ρ h w) (ha : LRel ρ args args'.toList) : FnOK Tryz.prog GN ρ h w 65 args' v h' := by
  unfold trimC at hr
  split at hr
  · rename_i s cs
    split at hr
    · rename_i hc
      obtain ⟨h1, h2, h3⟩ := hc
      simp only [Option.some.injEq, Prod.mk.injEq] at hr
      obtain ⟨rfl, rfl⟩ := hr
      obtain ⟨x', y', rfl, hx, hy⟩ := two_args ha
      cases hx; cases hy
      have hascii : ∀ (j : Nat) b, cs.data.toList[j]? = some b → b.toNat < 128 := by
        intro j b hj
        have := List.all_eq_true.1 h2 b (List.mem_of_getElem? hj)
        simpa using this
      have hcall := Any.strings_Trim_laid (ρ := trimRen) trimLays (by kernel_rfl) s cs w (by omega) (by omega) hascii
      exact fnok_below (by kernel_rfl) hcall H (.string _)
    · simp at hr
  · simp at hr
theorem form_fnok (hr : formC args h = some (v, h')) (H : HRel GN ρ h w) (ha : LRel ρ args args'.toList) : FnOK Tryz.prog GN ρ h w 67 args' v h' := by
  unfold formC at hr
  split at hr
  · rename_i b o len k
    split at hr
    · rename_i cs hld
      split at hr
      · rename_i l hL
        split at hr
        · rename_i hlen
          have hcs := boolsOf_spec hL
          simp only [Option.some.injEq, Prod.mk.injEq] at hr
          obtain ⟨rfl, rfl⟩ := hr
          obtain ⟨x', rfl, hx⟩ := one_arg ha
          have hll : l.length = len := by
            unfold loadN at hld
            split at hld
            · split at hld
              · simp only [Option.some.injEq] at hld
                have := congrArg List.length hld
                rw [hcs] at this
                simp at this
                omega
              · simp at hld
            · simp at hld
          cases hx with
          | slice0 b o sz a k =>
            have hl0 : l = [] := List.eq_nil_of_length_eq_zero hll
            subst hl0
            exact fnok_below (by kernel_rfl) (form_calls (some a) 0 0 [] w rfl (fun e => absurd rfl e) (by omega)) H (.string _)
          | slice hp hle2 hcp hxx =>
            rename_i p cap
            obtain ⟨cs', _, r2, _, r4⟩ := loadN_sound (P := Tryz.prog) H hp hld
            refine fnok_below (by kernel_rfl) (form_calls (some ⟨p.blk, p.sh + o, none⟩) len cap l w hll (fun _ => ⟨p.blk, p.sh + o, rfl, H.lt b p hp, fun i x hx => ?_⟩) (by omega)) H (.string _)
            rw [hcs] at r2
            obtain ⟨v', g1, g2⟩ := r2.get? (i := i) (v := .bool x) (by simp [hx])
            cases g2
            exact r4 i _ g1
        · simp at hr
      · simp at hr
    · simp at hr
  · simp at hr
end
def AXR : Ext := fun f => bif Nat.beq f 65 then some trimC else bif Nat.beq f 67 then some formC else none
theorem AXR_ok {W : World} : ExtOK Tryz.prog W AXR := by
  intro f c hc args h v h' hr ρ w args' H K ha
  unfold AXR at hc
  cases h65 : Nat.beq f 65 with
  | true => obtain rfl := Nat.eq_of_beq_eq_true h65; rw [h65] at hc; simp only [cond_true, Option.some.injEq] at hc; subst hc; exact trim_fnok hr H ha
  | false =>
  rw [h65] at hc; simp only [cond_false] at hc
  cases h67 : Nat.beq f 67 with
  | true => obtain rfl := Nat.eq_of_beq_eq_true h67; rw [h67] at hc; simp only [cond_true, Option.some.injEq] at hc; subst hc; exact form_fnok hr H ha
  | false => rw [h67] at hc; simp at hc

/-! ### The same over trees -/
noncomputable def trimCT : List Value → TH → Option (Value × TH)
  | [.string s, .string cs], h => if cs.size < 1000 ∧ (cs.data.toList.all fun c => decide (c.toNat < 128)) = true ∧ s.size ≤ 1000000 then some (.string (trimF s cs), h) else none
  | _, _ => none
noncomputable def formCT : List Value → TH → Option (Value × TH)
  | [.slice (some ⟨b, o, some 1⟩) len _], h =>
    match loadNT h b o len with
    | some cs =>
      match boolsOf cs with
      | some l => if len ≤ 100000 then some (.string (gB (l.map bitB)), h) else none
      | none => none
    | none => none
  | _, _ => none
noncomputable def AXRT : ExtT := fun f => bif Nat.beq f 65 then some trimCT else bif Nat.beq f 67 then some formCT else none
theorem AXRT_ok : ExtTOK AXRT AXR := by
  intro f
  unfold AXRT AXR
  cases h65 : Nat.beq f 65 with
  | true => exact ⟨trimC, rfl, fun args th v th' h => by unfold trimCT at h; unfold trimC; ((repeat' split at *) <;> first | (simp_all [TH.toL_push, TH.toL_length, loadN_t]; done) | grind [TH.toL_push, TH.toL_length, loadN_t])⟩
  | false =>
  cases h67 : Nat.beq f 67 with
  | true => exact ⟨formC, rfl, fun args th v th' h => by unfold formCT at h; unfold formC; ((repeat' split at *) <;> first | (simp_all [TH.toL_push, TH.toL_length, loadN_t]; done) | grind [TH.toL_push, TH.toL_length, loadN_t])⟩
  | false => rfl
end Go.Proofs.YtpbmpdocgplhpaaGreatDoor
