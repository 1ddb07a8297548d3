/-
  MERGED BY PROGRAM out of the texts Tame Open Ord ClashF ClashC.
-/
import Derived.Test.YtpbmpdocgplhpaaGreatDoorMF
import Derived.Test.YtpbmpdocgplhpaaGreatDoorMV
import Derived.Test.YtpbmpdocgplhpaaGreatDoorME
import Derived.Test.YtpbmpdocgplhpaaGreatDoorMD
/-
  The law's tame: a rising code out of any strings, each word once.
-/
set_option linter.unusedSimpArgs false
set_option linter.unusedVariables false
set_option maxRecDepth 100000
namespace Go.Proofs.YtpbmpdocgplhpaaGreatDoor
open Go Go.AM

end Go.Proofs.YtpbmpdocgplhpaaGreatDoor

/-
  flag.open: whether numbers and a code are in order.
-/
set_option linter.unusedSimpArgs false
set_option linter.unusedVariables false
set_option maxRecDepth 100000
namespace Go.Proofs.YtpbmpdocgplhpaaGreatDoor
open Go Go.AM

def prevOK : Option ByteArray → ByteArray → Bool
  | none, _ => true
  | some q, w => ltS q w
def cod (b : Bool) : Int := bif b then 0 else 60
def codeGo (k n : Nat) : Option ByteArray → List ByteArray → Bool
  | _, [] => true
  | p, w :: L => decide (w.size = n) && overF k w && prevOK p w && codeGo k n (some w) L
def codeF (k n : Nat) (L : List ByteArray) : Bool := codeGo k n none L
/-- The item before a place. -/
def prevOf (L : List ByteArray) (i : Nat) : Option ByteArray := if i = 0 then none else L[i - 1]?

/-- What 'open' answers. -/
def openF (k n : Int) (L : List ByteArray) : Int := if inRange k n = true then cod (codeF k.toNat n.toNat L) else 1
end Go.Proofs.YtpbmpdocgplhpaaGreatDoor

/-
  The order of strings; rising codes; tame codes are in order.
-/
set_option linter.unusedSimpArgs false
set_option linter.unusedVariables false
set_option maxRecDepth 100000
namespace Go.Proofs.YtpbmpdocgplhpaaGreatDoor
open Go Go.AM

theorem bl_irrefl : ∀ a : List UInt8, Op.bytesLess a a = false := by
  intro a
  induction a with
  | nil => rfl
  | cons x a ih => simp [Op.bytesLess, ih]
theorem bl_trans : ∀ a b c : List UInt8, Op.bytesLess a b = true → Op.bytesLess b c = true → Op.bytesLess a c = true := by
  intro a
  induction a with
  | nil =>
    intro b c h1 h2
    cases c with
    | nil => cases b <;> simp [Op.bytesLess] at h2
    | cons z c => simp [Op.bytesLess]
  | cons x a ih =>
    intro b c h1 h2
    cases b with
    | nil => simp [Op.bytesLess] at h1
    | cons y b =>
      cases c with
      | nil => simp [Op.bytesLess] at h2
      | cons z c =>
        simp only [Op.bytesLess, Bool.or_eq_true, Bool.and_eq_true, decide_eq_true_eq, beq_iff_eq] at h1 h2 ⊢
        rcases h1 with h1 | ⟨rfl, h1⟩
        · rcases h2 with h2 | ⟨rfl, h2⟩
          · exact Or.inl (UInt8.lt_trans h1 h2)
          · exact Or.inl h1
        · rcases h2 with h2 | ⟨rfl, h2⟩
          · exact Or.inl h2
          · exact Or.inr ⟨rfl, ih b c h1 h2⟩
theorem bl_total : ∀ a b : List UInt8, Op.bytesLess a b = false → a ≠ b → Op.bytesLess b a = true := by
  intro a
  induction a with
  | nil =>
    intro b h1 h2
    cases b with
    | nil => exact absurd rfl h2
    | cons y b => simp [Op.bytesLess] at h1
  | cons x a ih =>
    intro b h1 h2
    cases b with
    | nil => simp [Op.bytesLess]
    | cons y b =>
      simp only [Op.bytesLess, Bool.or_eq_false_iff, Bool.and_eq_false_iff, decide_eq_false_iff_not, beq_eq_false_iff_ne] at h1
      simp only [Op.bytesLess, Bool.or_eq_true, Bool.and_eq_true, decide_eq_true_eq, beq_iff_eq]
      obtain ⟨h3, h4⟩ := h1
      by_cases e : x = y
      · subst e
        refine Or.inr ⟨rfl, ih b ?_ (fun e => h2 (by rw [e]))⟩
        rcases h4 with h4 | h4
        · exact absurd rfl h4
        · exact h4
      · left
        rw [UInt8.lt_iff_toNat_lt] at h3 ⊢
        have : x.toNat ≠ y.toNat := fun h => e (UInt8.toNat_inj.1 h)
        omega
theorem list_inj {a b : ByteArray} (h : a.data.toList = b.data.toList) : a = b := by rw [← gB_of a, ← gB_of b, h]
theorem lt_trans {a b c : ByteArray} (h1 : ltS a b = true) (h2 : ltS b c = true) : ltS a c = true := bl_trans _ _ _ h1 h2
theorem lt_total {a b : ByteArray} (h1 : ltS a b = false) (h2 : a ≠ b) : ltS b a = true := bl_total _ _ h1 (fun e => h2 (list_inj e))
theorem lt_irrefl (a : ByteArray) : ltS a a = false := bl_irrefl _
theorem seq_iff {a b : ByteArray} : seq a b = true ↔ a = b := by
  unfold seq; rw [beq_iff_eq]; exact ⟨list_inj, fun h => by rw [h]⟩

def Rising (L : List ByteArray) : Prop := L.Pairwise fun a b => ltS a b = true
end Go.Proofs.YtpbmpdocgplhpaaGreatDoor

/-
  flag.clashOf: a clash of a code, or none.
-/
set_option linter.unusedSimpArgs false
set_option linter.unusedVariables false
set_option maxRecDepth 100000
namespace Go.Proofs.YtpbmpdocgplhpaaGreatDoor
open Go Go.AM

/-! ### The map from words to their places -/
theorem beqB (a b : ByteArray) : (a == b) = decide (a = b) := by
  cases a with
  | mk x => cases b with
    | mk y =>
      show (x == y) = _
      simp only [ByteArray.mk.injEq]
      by_cases h : x = y <;> simp [h]
def mUpd (w : ByteArray) (i : Nat) : List (ByteArray × Nat) → List (ByteArray × Nat)
  | [] => [(w, i)]
  | p :: r => if (w == p.1) = true then (p.1, i) :: r else p :: mUpd w i r
def mFind (w : ByteArray) : List (ByteArray × Nat) → Option Nat
  | [] => none
  | p :: r => if (w == p.1) = true then some p.2 else mFind w r
theorem mFind_upd (w x : ByteArray) (i : Nat) : ∀ M, mFind x (mUpd w i M) = if x = w then some i else mFind x M := by
  intro M
  induction M with
  | nil => simp only [mUpd, mFind, beqB]; by_cases h : x = w <;> simp [h]
  | cons p r ih =>
    simp only [mUpd, beqB, decide_eq_true_eq]
    by_cases hw : w = p.1
    · subst hw
      simp only [if_true, mFind, beqB, decide_eq_true_eq]
      by_cases h : x = p.1 <;> simp [h]
    · simp only [hw, if_false, mFind, ih, beqB, decide_eq_true_eq]
      by_cases h : x = p.1
      · subst h
        have : ¬p.1 = w := fun e => hw e.symm
        simp [this]
      · simp [h]
/-- The map tells of the first i words. -/
def MOK (L : List ByteArray) (i : Nat) (M : List (ByteArray × Nat)) : Prop := ∀ w, (∀ j, mFind w M = some j → j < i ∧ L[j]? = some w) ∧ (mFind w M = none → ∀ j, j < i → L[j]? ≠ some w)
theorem MOK.nil (L : List ByteArray) : MOK L 0 [] := fun w => ⟨fun j h => by simp [mFind] at h, fun _ j h => by omega⟩
theorem MOK.step {L : List ByteArray} {i : Nat} {M : List (ByteArray × Nat)} {w : ByteArray} (m : MOK L i M) (hw : L[i]? = some w) : MOK L (i + 1) (mUpd w i M) := by
  intro x
  rw [mFind_upd]
  by_cases h : x = w
  · subst h
    rw [if_pos rfl]
    refine ⟨fun j hj => ?_, fun h => by simp at h⟩
    simp only [Option.some.injEq] at hj; subst hj; exact ⟨by omega, hw⟩
  · rw [if_neg h]
    refine ⟨fun j hj => ?_, fun hn j hj => ?_⟩
    · have := (m x).1 j hj; exact ⟨by omega, this.2⟩
    · by_cases e : j = i
      · subst e; rw [hw]; intro e; simp only [Option.some.injEq] at e; exact h e.symm
      · exact (m x).2 hn j (by omega)

def noneRow : AObj := .row [I (-1), I (-1), I (-1)] false

section
variable {X : Ext} (h : AHeap) (a : Option Addr) (kk : Nat) (L : List ByteArray) (n : Nat) (M : List (ByteArray × Nat))
end
end Go.Proofs.YtpbmpdocgplhpaaGreatDoor

/-
  flag.Clash.
-/
set_option linter.unusedSimpArgs false
set_option linter.unusedVariables false
set_option maxRecDepth 100000
namespace Go.Proofs.YtpbmpdocgplhpaaGreatDoor
open Go Go.AM

end Go.Proofs.YtpbmpdocgplhpaaGreatDoor
