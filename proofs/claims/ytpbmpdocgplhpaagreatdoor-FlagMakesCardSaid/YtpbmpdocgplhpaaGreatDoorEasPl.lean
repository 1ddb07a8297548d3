/-
  What Make makes, for the lengths 1 and 3: plain.
-/
import Derived.Test.YtpbmpdocgplhpaaGreatDoorMake
import Derived.Test.YtpbmpdocgplhpaaGreatDoorMD
import Derived.KernelRfl
set_option linter.unusedSimpArgs false
set_option linter.unusedVariables false
set_option maxRecDepth 100000
namespace Go.Proofs.YtpbmpdocgplhpaaGreatDoor
open Go Go.AM

def madeM (R : List ByteArray) : List ByteArray := compactM seq (sortM ltS (R.map chosenF))
theorem madeF_eq (R : List ByteArray) : madeF R = madeM R := by unfold madeF madeM; rw [sortB_eq]
def wordOK (w : ByteArray) : Bool := asciiB w && decide (w.size < 1000000) && goodGo 4 (Lib.charsB w)
theorem code_to {k n : Nat} : ∀ {L : List ByteArray} {p : Option ByteArray}, codeGo k n p L = true → (∀ w ∈ L, w.size = n ∧ overF k w = true) ∧ Rising L ∧ (∀ q, p = some q → ∀ w ∈ L, ltS q w = true) := by
  intro L
  induction L with
  | nil => intro p _; exact ⟨by simp, List.Pairwise.nil, by simp⟩
  | cons a L ih =>
    intro p h
    simp only [codeGo, Bool.and_eq_true, decide_eq_true_eq] at h
    obtain ⟨⟨⟨h1, h2⟩, h3⟩, h4⟩ := h
    obtain ⟨i1, i2, i3⟩ := ih h4
    refine ⟨fun w hw => ?_, List.pairwise_cons.2 ⟨fun w hw => i3 a rfl w hw, i2⟩, fun q hq w hw => ?_⟩
    · rcases List.mem_cons.1 hw with rfl | hw
      · exact ⟨h1, h2⟩
      · exact i1 w hw
    · subst hq
      rcases List.mem_cons.1 hw with rfl | hw
      · exact h3
      · exact lt_trans h3 (i3 a rfl w hw)
end Go.Proofs.YtpbmpdocgplhpaaGreatDoor
