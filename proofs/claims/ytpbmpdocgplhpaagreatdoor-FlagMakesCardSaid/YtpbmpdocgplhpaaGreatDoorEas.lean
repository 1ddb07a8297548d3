/-
  FlagEastman: the walk of the law.
-/
import Derived.Test.YtpbmpdocgplhpaaGreatDoorEasPl
import Derived.Test.YtpbmpdocgplhpaaGreatDoorSpJn
import Derived.Test.YtpbmpdocgplhpaaGreatDoorGrl
import Derived.Test.YtpbmpdocgplhpaaGreatDoorRdK
set_option linter.unusedSimpArgs false
set_option linter.unusedVariables false
set_option maxRecDepth 100000
namespace Go.Proofs.YtpbmpdocgplhpaaGreatDoor
open Go Go.AM

def AX5 : Ext := fun f => bif Nat.beq f 21 then some awakeC else bif Nat.beq f 137 then some decC else bif Nat.beq f 63 then some sortC else bif Nat.beq f 73 then some splitC else bif Nat.beq f 78 then some joinC else none
theorem awake_ca5 (h : AHeap) : Ca Tryz.prog AX5 (.fn 21) [] h (fun v h' => v = .bool true ∧ h' = h) :=
  Ca_ext (c := awakeC) (by kernel_rfl) rfl ⟨rfl, rfl⟩
theorem ax5_cases {f : FuncId} {c : List Value → AHeap → Option (Value × AHeap)} (hc : AX5 f = some c) : (f = 21 ∧ c = awakeC) ∨ (f = 137 ∧ c = decC) ∨ (f = 63 ∧ c = sortC) ∨ (f = 73 ∧ c = splitC) ∨ (f = 78 ∧ c = joinC) := by
  unfold AX5 at hc
  cases h1 : Nat.beq f 21 with
  | true => rw [h1] at hc; exact .inl ⟨Nat.eq_of_beq_eq_true h1, (Option.some.inj hc).symm⟩
  | false =>
    rw [h1, cond_false] at hc
    cases h2 : Nat.beq f 137 with
    | true => rw [h2] at hc; exact .inr (.inl ⟨Nat.eq_of_beq_eq_true h2, (Option.some.inj hc).symm⟩)
    | false =>
      rw [h2, cond_false] at hc
      cases h3 : Nat.beq f 63 with
      | true => rw [h3] at hc; exact .inr (.inr (.inl ⟨Nat.eq_of_beq_eq_true h3, (Option.some.inj hc).symm⟩))
      | false =>
        rw [h3, cond_false] at hc
        cases h4 : Nat.beq f 73 with
        | true => rw [h4] at hc; exact .inr (.inr (.inr (.inl ⟨Nat.eq_of_beq_eq_true h4, (Option.some.inj hc).symm⟩)))
        | false =>
          rw [h4, cond_false] at hc
          cases h5 : Nat.beq f 78 with
          | true => rw [h5] at hc; exact .inr (.inr (.inr (.inr ⟨Nat.eq_of_beq_eq_true h5, (Option.some.inj hc).symm⟩)))
          | false => rw [h5, cond_false] at hc; simp at hc
theorem sortX5 : SortX AX5 := by
  refine ⟨fun h b kk L hb hL => ?_, by kernel_rfl, by kernel_rfl⟩
  refine Ca_ext (c := sortC) (by kernel_rfl) (v := .tuple #[]) (h' := h.set b (.row (strs (sortM ltS L)) true)) ?_ rfl
  simp only [sortC, hb, strsOf_strs]
  rw [if_pos ⟨trivial, by omega⟩, sortB_eq]
theorem ringX5 : RingX AX5 := ⟨sortX5, by kernel_rfl, by kernel_rfl, by kernel_rfl, by kernel_rfl, by kernel_rfl, by kernel_rfl, by kernel_rfl⟩
theorem chosX5 : ChosX AX5 := ⟨⟨by kernel_rfl, by kernel_rfl, by kernel_rfl, by kernel_rfl, by kernel_rfl, by kernel_rfl⟩, by kernel_rfl, by kernel_rfl, by kernel_rfl, by kernel_rfl, by kernel_rfl, by kernel_rfl, by kernel_rfl, by kernel_rfl⟩
theorem makeX5 : MakeX AX5 := ⟨chosX5, ringX5, by kernel_rfl, by kernel_rfl, by kernel_rfl, by kernel_rfl, by kernel_rfl⟩

/-- What the plain facts tell of a made code. -/
structure MadeOK (k n : Nat) (M : List ByteArray) : Prop where
  code : codeF k n M = true
  free : freeF M = true
  len : M.length = (ringsL k n).length
  words : ∀ w ∈ ringsF k n, asciiB w = true ∧ w.size < 1000000 ∧ goodGo 4 (Lib.charsB w) = true
end Go.Proofs.YtpbmpdocgplhpaaGreatDoor
