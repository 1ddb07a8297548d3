/-
  Words as lists of bytes: turns, whole words, all words, rings; plain functions that the kernel can run.
-/
import Derived.Test.YtpbmpdocgplhpaaDoorPl
set_option linter.unusedSimpArgs false
set_option linter.unusedVariables false
set_option maxRecDepth 100000
namespace Go.Proofs.YtpbmpdocgplhpaaDoor
open Go Go.AM

def gB (l : List UInt8) : ByteArray := ⟨⟨l⟩⟩
theorem gB_list (l : List UInt8) : (gB l).data.toList = l := rfl
theorem gB_size (l : List UInt8) : (gB l).size = l.length := rfl
theorem gB_of (s : ByteArray) : gB s.data.toList = s := by cases s; rfl
theorem gB_inj {a b : List UInt8} (h : gB a = gB b) : a = b := by
  have := congrArg (fun s => s.data.toList) h
  simpa [gB_list] using this
theorem gB_append (a b : List UInt8) : gB a ++ gB b = gB (a ++ b) := by
  apply ByteArray.ext
  simp [gB]
theorem gB_extract (l : List UInt8) (i j : Nat) : (gB l).extract i j = gB ((l.take j).drop i) := by
  apply ByteArray.ext
  apply Array.ext'
  simp [gB, List.extract_eq_take_drop, List.drop_take]
theorem ltS_gB (a b : List UInt8) : ltS (gB a) (gB b) = Op.bytesLess a b := rfl
def eqL (a b : List UInt8) : Bool := a == b
theorem seq_gB (a b : List UInt8) : seq (gB a) (gB b) = eqL a b := rfl

def turnL (l : List UInt8) (i : Nat) : List UInt8 := l.drop i ++ l.take i
theorem turnAt_gB (l : List UInt8) (i : Nat) (hi : i ≤ l.length) : turnAt (gB l) i = gB (turnL l i) := by
  unfold turnAt turnL
  rw [gB_extract, gB_extract, gB_append, gB_size]
  congr 1
  simp
def turnsL (l : List UInt8) : List (List UInt8) := (List.range l.length).map (turnL l)
theorem turnsTo_gB (l : List UInt8) : turnsTo (gB l) (gB l).size = (turnsL l).map gB := by
  unfold turnsTo turnsL
  rw [List.map_map, gB_size]
  apply List.map_congr_left
  intro i hi
  simp at hi
  exact turnAt_gB l i (by omega)

/-- 'sorted' of a few strings; turns in order, each once; whole words; a word's first turn. -/
def sortedF (L : List ByteArray) : List ByteArray := compactM seq (sortM ltS L)
def sortedL (L : List (List UInt8)) : List (List UInt8) := compactM eqL (sortM Op.bytesLess L)
theorem sorted_gB (L : List (List UInt8)) : sortedF (L.map gB) = (sortedL L).map gB := by
  unfold sortedF sortedL
  rw [sortM_map ltS Op.bytesLess gB ltS_gB, compactM_map seq eqL gB seq_gB]
def wholeF (w : ByteArray) : Bool := decide (((sortedF (turnsTo w w.size)).length : Int) = w.size)
def wholeL (l : List UInt8) : Bool := Nat.beq (sortedL (turnsL l)).length l.length
theorem whole_gB (l : List UInt8) : wholeF (gB l) = wholeL l := by
  unfold wholeF wholeL
  rw [turnsTo_gB, sorted_gB, List.length_map, gB_size, Bool.eq_iff_iff]
  rw [decide_eq_true_iff, Nat.beq_eq]
  omega
def firstF (w : ByteArray) : ByteArray := ((turnsTo w w.size).drop 1).foldl minS ((turnsTo w w.size).getD 0 ByteArray.empty)
def minL (a b : List UInt8) : List UInt8 := if (Op.bytesLess a b || a == b) = true then a else b
def firstL (l : List UInt8) : List UInt8 := ((turnsL l).drop 1).foldl minL ((turnsL l).getD 0 [])
theorem minS_gB (a b : List UInt8) : minS (gB a) (gB b) = gB (minL a b) := (apply_ite gB ((Op.bytesLess a b || a == b) = true) a b).symm
theorem foldl_minS : ∀ (L : List (List UInt8)) (a : List UInt8), (L.map gB).foldl minS (gB a) = gB (L.foldl minL a) := by
  intro L
  induction L with
  | nil => intro a; rfl
  | cons b L ih => intro a; simp only [List.map_cons, List.foldl_cons, minS_gB]; exact ih _
theorem first_gB (l : List UInt8) : firstF (gB l) = gB (firstL l) := by
  unfold firstF firstL
  rw [turnsTo_gB, ← List.map_drop]
  have : ((turnsL l).map gB).getD 0 ByteArray.empty = gB ((turnsL l).getD 0 []) := by
    cases turnsL l <;> rfl
  rw [this, foldl_minS]

/-- All words that go on from one, over the letters; and over k flags. -/
def growL (cs : List UInt8) : Nat → List UInt8 → List (List UInt8)
  | 0, w => [w]
  | d + 1, w => cs.flatMap fun c => growL cs d (w ++ [c])
def lettersL (k : Nat) : List UInt8 := [97, 98, 99, 100].take k
def wordsL (k n : Nat) : List (List UInt8) := growL (lettersL k) n []
def ringsL (k n : Nat) : List (List UInt8) := (wordsL k n).filter fun w => wholeL w && eqL w (firstL w)
/-- As 'rings' answers. -/
def ringsF (k n : Nat) : List ByteArray := (ringsL k n).map gB
end Go.Proofs.YtpbmpdocgplhpaaDoor
