/-
  Plain functions that the kernel can run, and that they are the library's: pieces of a line, digits, joins.
-/
import Derived.Test.YtknpjlcgjlnfbaaGreatDoorVc6
import Derived.Lib.SplitLaws
import Derived.Lib.Join
import Derived.Lib.ItoaNum
import Derived.Lib.AtoiAll
import Derived.Lib.SlTrimSet
import Derived.KernelRfl
set_option linter.unusedSimpArgs false
set_option linter.unusedVariables false
set_option maxRecDepth 100000
namespace Go.Proofs.YtknpjlcgjlnfbaaGreatDoor
open Go Go.AM

def gB (l : List UInt8) : ByteArray := ⟨⟨l⟩⟩
theorem gB_list (l : List UInt8) : (gB l).data.toList = l := rfl
theorem gB_size (l : List UInt8) : (gB l).size = l.length := rfl
theorem gB_of (s : ByteArray) : gB s.data.toList = s := by cases s; rfl

/-- The pieces between blanks. -/
def splL (c : UInt8) : List UInt8 → List (List UInt8)
  | [] => [[]]
  | b :: l => bif b == c then [] :: splL c l else (match splL c l with
    | [] => [[b]]
    | w :: r => (b :: w) :: r)
theorem splL_ne (c : UInt8) (l : List UInt8) : splL c l ≠ [] := by
  cases l with
  | nil => simp [splL]
  | cons b l =>
    simp only [splL]
    cases b == c with
    | true => simp
    | false => cases splL c l <;> simp
theorem index_one (b c : UInt8) (l : List UInt8) : Lib.index (b :: l) [c] = if b = c then 0 else if Lib.index l [c] = -1 then -1 else Lib.index l [c] + 1 := by
  simp only [Lib.index, List.isPrefixOf, Bool.and_true, beq_iff_eq]
  by_cases h : b = c
  · subst h; simp
  · rw [if_neg h, if_neg (fun e => h e.symm)]
theorem index_count (c : UInt8) : ∀ l : List UInt8, l.count c ≠ 0 → Lib.index l [c] ≠ -1 := by
  intro l
  induction l with
  | nil => intro h; simp at h
  | cons b l ih =>
    intro h
    rw [index_one]
    by_cases hb : b = c
    · rw [if_pos hb]; decide
    · rw [if_neg hb]
      have h1 := ih (by rwa [List.count_cons_of_ne hb] at h)
      rw [if_neg h1]
      have := Lib.index_ge l [c]
      omega
theorem splK_spl (c : UInt8) : ∀ (l : List UInt8), Lib.splitK [c] 0 (l.count c) l = splL c l := by
  intro l
  induction l with
  | nil => rfl
  | cons b l ih =>
    by_cases hb : b = c
    · subst hb
      rw [List.count_cons_self]
      simp only [Lib.splitK, index_one, if_true, splL, beq_self_eq_true, cond_true]
      simp [ih]
    · rw [List.count_cons_of_ne hb]
      have hbc : (b == c) = false := by simpa using hb
      simp only [splL, hbc, cond_false]
      cases hk : l.count c with
      | zero =>
        rw [hk] at ih
        rw [← ih]
        rfl
      | succ k =>
        rw [hk] at ih
        have h1 := index_count c l (by omega)
        have h2 := Lib.index_ge l [c]
        have h3 : (Lib.index l [c] == -1) = false := by simpa using h1
        have e : Lib.index (b :: l) [c] = Lib.index l [c] + 1 := by rw [index_one, if_neg hb, if_neg h1]
        have h4 : (Lib.index (b :: l) [c] == -1) = false := by rw [e, Bool.eq_false_iff]; intro hh; rw [beq_iff_eq] at hh; omega
        rw [← ih]
        simp only [Lib.splitK, h3, h4, if_false, Bool.false_eq_true]
        rw [e]
        obtain ⟨i, hi⟩ : ∃ i : Nat, Lib.index l [c] = i := ⟨(Lib.index l [c]).toNat, by omega⟩
        rw [hi]
        have e2 : ((i : Int) + 1).toNat = i + 1 := by omega
        simp only [e2, Int.toNat_natCast, Nat.add_zero, List.length_singleton, List.take_succ_cons, List.drop_succ_cons]
def spl (s : ByteArray) : List ByteArray := (splL 32 s.data.toList).map gB
theorem spl_lib (s : ByteArray) : Lib.splitB ⟨#[32]⟩ 0 (Lib.countB s ⟨#[32]⟩) s = spl s := by
  have h := Lib.splitB_data ⟨#[32]⟩ 0 (Lib.countB s ⟨#[32]⟩) s
  have e : Lib.countB s ⟨#[32]⟩ = s.data.toList.count 32 := Lib.count_one 32 s.data.toList
  rw [e] at h ⊢
  have h2 := splK_spl 32 s.data.toList
  have h3 : (Lib.splitB ⟨#[32]⟩ 0 (s.data.toList.count 32) s).map (fun x => x.data.toList) = splL 32 s.data.toList := h.trans h2
  unfold spl
  rw [← h3, List.map_map]
  exact (List.map_id'' (fun x => gB_of x) _).symm

/-- Digits. -/
def decGo : Nat → Nat → List UInt8
  | 0, _ => []
  | t + 1, u => bif Nat.blt u 10 then [UInt8.ofNat (48 + u)] else decGo t (u / 10) ++ [UInt8.ofNat (48 + u % 10)]
theorem decGo_eq : ∀ (t u : Nat), u < 10 ^ (t + 1) → decGo (t + 1) u = Lib.decDigits u := by
  intro t
  induction t with
  | zero =>
    intro u h
    have h10 : u < 10 := by simpa using h
    have : Nat.blt u 10 = true := by simpa [Nat.blt_eq] using h10
    rw [Lib.decDigits, dif_pos h10]
    simp only [decGo, this, cond_true]
  | succ t ih =>
    intro u h
    rw [Lib.decDigits]
    rw [decGo]
    by_cases h10 : u < 10
    · rw [dif_pos h10]
      have : Nat.blt u 10 = true := by simpa [Nat.blt_eq] using h10
      rw [this]; rfl
    · rw [dif_neg h10]
      have : Nat.blt u 10 = false := by rw [Bool.eq_false_iff]; intro e; exact h10 (by simpa [Nat.blt_eq] using e)
      rw [this, cond_false, ih (u / 10) (by rw [Nat.pow_succ] at h; omega)]
def itoa (n : Int) : List UInt8 := match n with
  | .ofNat u => decGo 20 u
  | .negSucc u => 45 :: decGo 20 (u + 1)
theorem itoa_lib (n : Int) (h0 : -9223372036854775808 ≤ n) (h1 : n ≤ 9223372036854775807) : Lib.itoa n = itoa n := by
  unfold Lib.itoa itoa
  cases n with
  | ofNat u =>
    rw [if_neg (by simp)]
    have : (Int.ofNat u).toNat = u := rfl
    rw [this, ← decGo_eq 19 u (by have : (Int.ofNat u) = (u : Int) := rfl; omega)]
  | negSucc u =>
    rw [if_pos (Int.negSucc_lt_zero u)]
    have : (Int.negSucc u).natAbs = u + 1 := rfl
    rw [this, ← decGo_eq 19 (u + 1) (by have : (Int.negSucc u) = -((u : Int) + 1) := by omega
                                        omega)]

/-- Words with something between two of them. -/
def joinL (sep : List UInt8) : List (List UInt8) → List UInt8
  | [] => []
  | x :: r => x ++ (r.map (sep ++ ·)).flatten
theorem joinL_lib (xs : List (List UInt8)) (sep : List UInt8) : Lib.join xs sep = joinL sep xs := by
  cases xs with
  | nil => rfl
  | cons x r => rw [Lib.join_cons]; rfl
def joinS (L : List ByteArray) (sep : ByteArray) : ByteArray := gB (joinL sep.data.toList (L.map fun s => s.data.toList))
/-- Whether a byte occurs. -/
def hasB (c : UInt8) (l : List UInt8) : Bool := l.any fun b => b == c
theorem hasB_lib (c : UInt8) : ∀ l : List UInt8, Lib.contains l [c] = hasB c l := by
  intro l
  unfold Lib.contains hasB
  induction l with
  | nil => rfl
  | cons b l ih =>
    rw [index_one, List.any_cons, ← ih]
    by_cases hb : b = c
    · subst hb; simp
    · have : (b == c) = false := by simpa using hb
      rw [if_neg hb, this, Bool.false_or]
      have h2 := Lib.index_ge l [c]
      by_cases h1 : Lib.index l [c] = -1
      · rw [if_pos h1, h1]
      · rw [if_neg h1]
        rw [decide_eq_decide]
        constructor <;> intro _ <;> omega
def trimF (s cs : ByteArray) : ByteArray := gB (Lib.trimS s.data.toList cs.data.toList)

def strs (L : List ByteArray) : List Value := L.map fun s => .string s
theorem strs_length (L : List ByteArray) : (strs L).length = L.length := by simp [strs]
theorem strs_get {L : List ByteArray} {i : Nat} {x : ByteArray} (h : L[i]? = some x) : (strs L)[i]? = some (.string x) := by simp [strs, h]
def strsOf : List Value → Option (List ByteArray)
  | [] => some []
  | .string s :: r => match strsOf r with
    | some l => some (s :: l)
    | none => none
  | _ => none
theorem strsOf_spec : ∀ {cs : List Value} {L : List ByteArray}, strsOf cs = some L → cs = strs L := by
  intro cs
  induction cs with
  | nil => intro L h; simp only [strsOf, Option.some.injEq] at h; subst h; rfl
  | cons v cs ih =>
    intro L h
    unfold strsOf at h
    split at h
    · rename_i heq; simp at heq
    · rename_i s r heq
      simp only [List.cons.injEq] at heq
      obtain ⟨rfl, rfl⟩ := heq
      split at h
      · rename_i l hl
        simp only [Option.some.injEq] at h; subst h
        rw [ih hl]; rfl
      · simp at h
    · simp at h
end Go.Proofs.YtknpjlcgjlnfbaaGreatDoor
