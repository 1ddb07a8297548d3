/-
  What Make makes, for the lengths 1 and 3: plain.
-/
import Derived.Test.YtpbmpdocgplhpaaDoorMake
import Derived.Test.YtpbmpdocgplhpaaDoorGolPl
import Derived.KernelRfl
set_option linter.unusedSimpArgs false
set_option linter.unusedVariables false
set_option maxRecDepth 100000
namespace Go.Proofs.YtpbmpdocgplhpaaDoor
open Go Go.AM

def madeM (R : List ByteArray) : List ByteArray := compactM seq (sortM ltS (R.map chosenF))
theorem madeF_eq (R : List ByteArray) : madeF R = madeM R := by unfold madeF madeM; rw [sortB_eq]
def wordOK (w : ByteArray) : Bool := asciiB w && decide (w.size < 1000000) && goodGo 4 (Lib.charsB w)
def madeOK (k n : Nat) : Bool :=
  (ringsF k n).all wordOK && (let M := madeM (ringsF k n); codeF k n M && freeF M && Nat.beq M.length (ringsL k n).length)
theorem made_13 : ((List.range 4).all fun a => (List.range 2).all fun b => madeOK (a + 1) (2 * b + 1)) = true := by kernel_rfl
theorem code_to {k n : Nat} : ∀ {L : List ByteArray} {p : Option ByteArray}, codeGo k n p L = true → (∀ w ∈ L, w.size = n ∧ overF k w = true) ∧ Rising L ∧ (∀ q, p = some q → ∀ w ∈ L, ltS q w = true) := by
  intro L
  induction L with
  | nil => intro p _; exact ⟨by simp, List.Pairwise.nil, by simp⟩
  | cons a L ih =>
    intro p h
    simp only [codeGo, Bool.and_eq_true, decide_eq_true_eq] at h
    obtain ⟨⟨⟨h1, h2⟩, h3⟩, h4⟩ := h
    obtain ⟨i1, i2, i3⟩ := ih h4
    refine ⟨fun w hw => ?_, List.pairwise_cons.2 ⟨fun w hw => i3 a rfl w hw, i2⟩, fun q hq w hw => ?_⟩
    · rcases List.mem_cons.1 hw with rfl | hw
      · exact ⟨h1, h2⟩
      · exact i1 w hw
    · subst hq
      rcases List.mem_cons.1 hw with rfl | hw
      · exact h3
      · exact lt_trans h3 (i3 a rfl w hw)
theorem rising_lvl {L : List ByteArray} (h : Rising L) : Lvl L := h.imp fun hab => lt_as hab
theorem sortB_id {L : List ByteArray} (h : Rising L) : sortB L = L := lvl_unique (sortB_lvl L) (rising_lvl h) (sortB_perm L)
theorem growF_ext : ∀ (ws : List (List UInt8)) (C : List ByteArray), ∃ E, growF C ws = C ++ E := by
  intro ws
  induction ws with
  | nil => intro C; exact ⟨[], by simp [growF]⟩
  | cons w ws ih =>
    intro C
    obtain ⟨E, e⟩ := ih (growStep C w)
    have : growF C (w :: ws) = growF (growStep C w) ws := rfl
    rw [this, e]
    unfold growStep
    cases !(isIn (gB w) C) && freeF (C ++ [gB w]) with
    | false => exact ⟨E, rfl⟩
    | true => exact ⟨gB w :: E, by simp⟩
theorem growF_same {k n : Nat} {M : List ByteArray} (g : GrowOK k n M) (hl : M.length = (ringsL k n).length) (hk : k ≤ 4) (hn1 : 1 ≤ n) (hn : n ≤ 5) : growF M (wordsL k n) = M := by
  have g2 := (grow_words g).1
  have h1 := count_nd (free_clR (fun w h => (g2.wd w h).1) g2.fr) g2.nd g2.wd hk hn1 hn
  obtain ⟨E, e⟩ := growF_ext (wordsL k n) M
  rw [e, List.length_append] at h1
  have : E = [] := List.eq_nil_of_length_eq_zero (by omega)
  rw [e, this, List.append_nil]
end Go.Proofs.YtpbmpdocgplhpaaDoor
