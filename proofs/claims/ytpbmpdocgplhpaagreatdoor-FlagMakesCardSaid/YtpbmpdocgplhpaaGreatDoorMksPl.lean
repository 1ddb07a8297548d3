/-
  FlagMakes' plain law: what Make makes for the lengths 1, 3 and 5.
-/
import Derived.Test.YtpbmpdocgplhpaaGreatDoorEasPl
import Derived.Test.YtpbmpdocgplhpaaGreatDoorRgPl2
import Derived.Test.YtpbmpdocgplhpaaGreatDoorME
set_option linter.unusedSimpArgs false
set_option linter.unusedVariables false
set_option maxRecDepth 100000
namespace Go.Proofs.YtpbmpdocgplhpaaGreatDoor
open Go Go.AM

/-- A piece of a word as a number. -/
def cdL (l : List UInt8) : Nat := l.foldl (fun a c => 4 * a + (c.toNat - 97)) 0
def cdP (y : ByteArray) (i j : Nat) : Nat := cdL ((y.data.toList.take j).drop i)
theorem cdP_seq {x y : ByteArray} {i j i' j' : Nat} (h : seq (y.extract i j) (x.extract i' j') = true) : cdP y i j = cdP x i' j' := by
  have e := seq_iff.1 h
  have hx := gB_of x
  have hy := gB_of y
  rw [← hx, ← hy, gB_extract, gB_extract] at e
  have := gB_inj e
  unfold cdP
  rw [this]
def maskE (L : List ByteArray) (p : Nat) : Nat := L.foldl (fun m y => Nat.lor m (2 ^ (cdP y (y.size - p) y.size))) 0
def maskB (L : List ByteArray) (p : Nat) : Nat := L.foldl (fun m y => Nat.lor m (2 ^ (cdP y 0 (y.size - p)))) 0
def freeN (L : List ByteArray) : Bool := L.all fun x => (List.range' 1 (x.size - 1)).all fun p => !(Nat.testBit (maskE L p) (cdP x 0 p) && Nat.testBit (maskB L p) (cdP x p x.size))
theorem mask_bit (g : ByteArray → Nat) : ∀ (L : List ByteArray) (m c : Nat), (Nat.testBit m c = true ∨ ∃ y ∈ L, g y = c) → Nat.testBit (L.foldl (fun m y => Nat.lor m (2 ^ g y)) m) c = true := by
  intro L
  induction L with
  | nil => intro m c h; rcases h with h | ⟨y, hy, _⟩; exact h; simp at hy
  | cons a L ih =>
    intro m c h
    rw [List.foldl_cons]
    refine ih _ _ ?_
    have e : Nat.testBit (Nat.lor m (2 ^ g a)) c = (Nat.testBit m c || Nat.testBit (2 ^ g a) c) := Nat.testBit_or ..
    rw [e, Nat.testBit_two_pow]
    rcases h with h | ⟨y, hy, hg⟩
    · left; rw [h]; rfl
    · rcases List.mem_cons.1 hy with rfl | hy
      · left; simp [hg]
      · right; exact ⟨y, hy, hg⟩
theorem freeN_free {L : List ByteArray} (h : freeN L = true) : freeF L = true := by
  unfold freeF
  unfold freeN at h
  rw [List.all_eq_true] at h ⊢
  intro x hx
  have h := h x hx
  unfold freeWord
  rw [List.all_eq_true] at h ⊢
  intro p hp
  have h := h p hp
  rw [Bool.not_eq_true', Bool.and_eq_false_iff] at h ⊢
  rcases h with h | h
  · left
    rw [Bool.eq_false_iff] at h ⊢
    intro he
    refine h (mask_bit (fun y => cdP y (y.size - p) y.size) L 0 _ (Or.inr ?_))
    unfold enAt at he
    rw [List.any_eq_true] at he
    obtain ⟨y, hy, e⟩ := he
    exact ⟨y, hy, cdP_seq e⟩
  · right
    rw [Bool.eq_false_iff] at h ⊢
    intro he
    refine h (mask_bit (fun y => cdP y 0 (y.size - p)) L 0 _ (Or.inr ?_))
    unfold beAt at he
    rw [List.any_eq_true] at he
    obtain ⟨y, hy, e⟩ := he
    exact ⟨y, hy, cdP_seq e⟩

/-- The first turn of a word, as the law asks for it; all of a code's, in order. -/
def rt0 (w : ByteArray) : ByteArray := (rTurnsTo w w.size).getD 0 ByteArray.empty
def firstsM (M : List ByteArray) : List ByteArray := M.foldl (fun F w => withS F (rt0 w)) []
def mksOK (k n : Nat) : Bool :=
  (ringsF k n).all wordOK && (let M := madeM (ringsF k n); codeF k n M && freeN M && Nat.beq M.length (ringsL k n).length && M.all (fun w => Nat.blt 0 (rTurnsTo w w.size).length) && textsF (firstsM M) ((allM k n).filter rRingOK))
theorem mks_1 : ((List.range 4).all fun a => mksOK (a + 1) 1) = true := by kernel_rfl
theorem mks_3 : ((List.range 4).all fun a => mksOK (a + 1) 3) = true := by kernel_rfl
theorem mks_15 : mksOK 1 5 = true := by kernel_rfl
theorem mks_25 : mksOK 2 5 = true := by kernel_rfl
theorem mks_35 : mksOK 3 5 = true := by kernel_rfl
end Go.Proofs.YtpbmpdocgplhpaaGreatDoor
