/-
  FlagTurns' plain law: whole words, turns and first turns are the reference's, of each word.
-/
import Derived.Test.YtpbmpdocgplhpaaDoorRgPl2
import Derived.Test.YtpbmpdocgplhpaaDoorMF
import Derived.KernelRfl
set_option linter.unusedSimpArgs false
set_option linter.unusedVariables false
set_option maxRecDepth 100000
namespace Go.Proofs.YtpbmpdocgplhpaaDoor
open Go Go.AM

theorem compOut_length (eq : ByteArray → ByteArray → Bool) : ∀ (t k : Nat) (L : List ByteArray), (compOut eq t k L).length ≤ L.length := by
  intro t
  induction t with
  | zero => intro k L; exact Nat.le_refl _
  | succ t ih =>
    intro k L
    simp only [compOut]
    split
    · split
      · rw [List.length_take, compIn_length]; omega
      · exact ih _ _
    · exact Nat.le_refl _
theorem compactM_length (eq : ByteArray → ByteArray → Bool) (L : List ByteArray) : (compactM eq L).length ≤ L.length := compOut_length eq _ _ _
def tOK (w : List UInt8) : Bool := (bif wholeL w then rWholeL w else !rWholeL w) && sameL2 (sortedL (turnsL w)) (rTurnsL w w.length) && eqL (firstL w) ((rTurnsL w w.length).getD 0 []) && Nat.blt 0 (rTurnsL w w.length).length
theorem t_all : ((List.range 5).all fun n => (wordsL 4 (n + 1)).all tOK) = true := by kernel_rfl
theorem grow_in (cs : List UInt8) : ∀ (d : Nat) (p w : List UInt8), w.length = d → (∀ c ∈ w, c ∈ cs) → p ++ w ∈ growL cs d p := by
  intro d
  induction d with
  | zero => intro p w hw _; simp only [growL, List.mem_singleton]; rw [List.eq_nil_of_length_eq_zero hw]; simp
  | succ d ih =>
    intro p w hw hc
    cases w with
    | nil => simp at hw
    | cons a w =>
      simp only [growL, List.mem_flatMap]
      refine ⟨a, hc a (by simp), ?_⟩
      have := ih (p ++ [a]) w (by simpa using hw) (fun c h => hc c (by simp [h]))
      simpa using this
theorem word_in {s : ByteArray} {k : Nat} (h : overF k s = true) : s.data.toList ∈ wordsL k s.size := by
  have := grow_in (lettersL k) s.size [] s.data.toList (Lib.size_eq s).symm (fun c hc => by
    unfold overF at h
    have := List.all_eq_true.1 h c hc
    simpa using this)
  simpa [wordsL] using this
theorem t_word {s : ByteArray} (h : isWordF s = true) : tOK s.data.toList = true := by
  obtain ⟨h1, h2, h3⟩ := isWord_iff.1 h
  have ha := t_all
  rw [List.all_eq_true] at ha
  have ha := ha (s.size - 1) (by simp; omega)
  rw [List.all_eq_true] at ha
  have := word_in h1
  rw [show s.size = s.size - 1 + 1 by omega] at this
  exact ha _ this
theorem t_facts {s : ByteArray} (h : isWordF s = true) : wholeF s = rWhole s ∧ textsF (sortedF (turnsTo s s.size)) (rTurnsTo s s.size) = true ∧ ∃ u, (rTurnsTo s s.size)[0]? = some u ∧ seq (firstF s) u = true := by
  have ht := t_word h
  have es : s = gB s.data.toList := (gB_of s).symm
  obtain ⟨l, hl⟩ : ∃ l, l = s.data.toList := ⟨_, rfl⟩
  rw [← hl] at ht es
  subst es
  clear hl h
  unfold tOK at ht
  simp only [Bool.and_eq_true] at ht
  obtain ⟨⟨⟨t1, t2⟩, t3⟩, t4⟩ := ht
  refine ⟨?_, ?_, ?_⟩
  · rw [whole_gB, rWhole_gB]
    cases h1 : wholeL l <;> rw [h1] at t1 <;> simpa using t1.symm
  · rw [turnsTo_gB, sorted_gB, gB_size, rTurns_gB l _ (Nat.le_refl _), texts_gB]; exact t2
  · have h0 : 0 < (rTurnsL l l.length).length := Nat.le_of_ble_eq_true t4
    refine ⟨gB ((rTurnsL l l.length)[0]'h0), ?_, ?_⟩
    · rw [gB_size, rTurns_gB l _ (Nat.le_refl _), List.getElem?_map, List.getElem?_eq_getElem h0]; rfl
    · rw [first_gB, seq_gB]
      rw [List.getD_eq_getElem?_getD, List.getElem?_eq_getElem h0] at t3
      exact t3
end Go.Proofs.YtpbmpdocgplhpaaDoor
