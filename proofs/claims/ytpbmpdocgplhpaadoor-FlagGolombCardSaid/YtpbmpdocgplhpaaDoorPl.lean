/-
  Plain functions of lists: an insertion sort and a compacting, step by step as the library's text does it.
-/
import Derived.Test.YtpbmpdocgplhpaaDoorWith
set_option linter.unusedSimpArgs false
set_option linter.unusedVariables false
set_option maxRecDepth 100000
namespace Go.Proofs.YtpbmpdocgplhpaaDoor
open Go Go.AM
variable {α β : Type}

/-- The item at place j goes down as long as it is less than the one before it. -/
def sinkM (lt : α → α → Bool) : Nat → List α → List α
  | 0, L => L
  | j + 1, L => match L[j + 1]?, L[j]? with
    | some a, some b => if lt a b = true then sinkM lt j ((L.set (j + 1) b).set j a) else L
    | _, _ => L
theorem sinkM_length (lt : α → α → Bool) : ∀ (j : Nat) (L : List α), (sinkM lt j L).length = L.length := by
  intro j
  induction j with
  | zero => intro L; rfl
  | succ j ih => intro L; simp only [sinkM]; split
                 · split
                   · rw [ih]; simp
                   · rfl
                 · rfl
def isortM (lt : α → α → Bool) : Nat → Nat → List α → List α
  | 0, _, L => L
  | t + 1, i, L => isortM lt t (i + 1) (sinkM lt i L)
theorem isortM_length (lt : α → α → Bool) : ∀ (t i : Nat) (L : List α), (isortM lt t i L).length = L.length := by
  intro t
  induction t with
  | zero => intro i L; rfl
  | succ t ih => intro i L; simp only [isortM]; rw [ih, sinkM_length]
def sortM (lt : α → α → Bool) (L : List α) : List α := isortM lt (L.length - 1) 1 L
theorem sortM_length (lt : α → α → Bool) (L : List α) : (sortM lt L).length = L.length := isortM_length lt _ _ _

/-- The second loop of Compact: j reads, k writes. -/
def compIn (eq : α → α → Bool) : Nat → Nat → Nat → List α → Nat × List α
  | 0, k, _, L => (k, L)
  | t + 1, k, j, L => match L[j]?, L[j - 1]? with
    | some a, some b => if eq a b = true then compIn eq t k (j + 1) L else compIn eq t (k + 1) (j + 1) (L.set k a)
    | _, _ => (k, L)
def compOut (eq : α → α → Bool) : Nat → Nat → List α → List α
  | 0, _, L => L
  | t + 1, k, L => match L[k]?, L[k - 1]? with
    | some a, some b => if eq a b = true then (let r := compIn eq (L.length - k - 1) k (k + 1) L; r.2.take r.1) else compOut eq t (k + 1) L
    | _, _ => L
def compactM (eq : α → α → Bool) (L : List α) : List α := compOut eq (L.length - 1) 1 L

theorem compIn_length (eq : α → α → Bool) : ∀ (t k j : Nat) (L : List α), (compIn eq t k j L).2.length = L.length := by
  intro t
  induction t with
  | zero => intro k j L; rfl
  | succ t ih =>
    intro k j L; simp only [compIn]; split
    · split
      · exact ih _ _ _
      · rw [ih]; simp
    · rfl
theorem compIn_le (eq : α → α → Bool) : ∀ (t k j : Nat) (L : List α), k ≤ (compIn eq t k j L).1 ∧ (compIn eq t k j L).1 ≤ k + t := by
  intro t
  induction t with
  | zero => intro k j L; simp [compIn]
  | succ t ih =>
    intro k j L; simp only [compIn]; split
    · split
      · have := ih k (j + 1) L; omega
      · rename_i a b _ _ _; have := ih (k + 1) (j + 1) (L.set k a); omega
    · simp

/-! ### The same of other names of the items -/
theorem sinkM_map (lt : α → α → Bool) (lt' : β → β → Bool) (g : β → α) (hg : ∀ a b, lt (g a) (g b) = lt' a b) : ∀ (j : Nat) (L : List β), sinkM lt j (L.map g) = (sinkM lt' j L).map g := by
  intro j
  induction j with
  | zero => intro L; rfl
  | succ j ih =>
    intro L
    simp only [sinkM, List.getElem?_map]
    cases L[j + 1]? with
    | none => rfl
    | some a => cases L[j]? with
      | none => rfl
      | some b =>
        simp only [Option.map_some, hg]
        split
        · rw [← ih]; simp [List.map_set]
        · rfl
theorem isortM_map (lt : α → α → Bool) (lt' : β → β → Bool) (g : β → α) (hg : ∀ a b, lt (g a) (g b) = lt' a b) : ∀ (t i : Nat) (L : List β), isortM lt t i (L.map g) = (isortM lt' t i L).map g := by
  intro t
  induction t with
  | zero => intro i L; rfl
  | succ t ih => intro i L; simp only [isortM]; rw [sinkM_map lt lt' g hg, ih]
theorem sortM_map (lt : α → α → Bool) (lt' : β → β → Bool) (g : β → α) (hg : ∀ a b, lt (g a) (g b) = lt' a b) (L : List β) : sortM lt (L.map g) = (sortM lt' L).map g := by
  simp only [sortM, List.length_map]; exact isortM_map lt lt' g hg _ _ _
theorem compIn_map (eq : α → α → Bool) (eq' : β → β → Bool) (g : β → α) (hg : ∀ a b, eq (g a) (g b) = eq' a b) : ∀ (t k j : Nat) (L : List β), compIn eq t k j (L.map g) = ((compIn eq' t k j L).1, (compIn eq' t k j L).2.map g) := by
  intro t
  induction t with
  | zero => intro k j L; rfl
  | succ t ih =>
    intro k j L
    simp only [compIn, List.getElem?_map]
    cases L[j]? with
    | none => rfl
    | some a => cases L[j - 1]? with
      | none => rfl
      | some b =>
        simp only [Option.map_some, hg]
        split
        · exact ih _ _ _
        · rw [← ih]; simp [List.map_set]
theorem compOut_map (eq : α → α → Bool) (eq' : β → β → Bool) (g : β → α) (hg : ∀ a b, eq (g a) (g b) = eq' a b) : ∀ (t k : Nat) (L : List β), compOut eq t k (L.map g) = (compOut eq' t k L).map g := by
  intro t
  induction t with
  | zero => intro k L; rfl
  | succ t ih =>
    intro k L
    simp only [compOut, List.getElem?_map]
    cases L[k]? with
    | none => rfl
    | some a => cases L[k - 1]? with
      | none => rfl
      | some b =>
        simp only [Option.map_some, hg]
        split
        · simp only [List.length_map, compIn_map eq eq' g hg]; simp [List.map_take]
        · exact ih _ _
theorem compactM_map (eq : α → α → Bool) (eq' : β → β → Bool) (g : β → α) (hg : ∀ a b, eq (g a) (g b) = eq' a b) (L : List β) : compactM eq (L.map g) = (compactM eq' L).map g := by
  simp only [compactM, List.length_map]; exact compOut_map eq eq' g hg _ _ _
end Go.Proofs.YtpbmpdocgplhpaaDoor
