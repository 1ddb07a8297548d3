/-
  FlagRings' plain law: the rings are those of the reference.
-/
import Derived.Test.YtpbmpdocgplhpaaGreatDoorME
import Derived.KernelRfl
set_option linter.unusedSimpArgs false
set_option linter.unusedVariables false
set_option maxRecDepth 100000
namespace Go.Proofs.YtpbmpdocgplhpaaGreatDoor
open Go Go.AM

def befL (L : List (List UInt8)) (t : List UInt8) : Nat := (L.takeWhile fun x => Op.bytesLess x t).length
def putL (L : List (List UInt8)) (k : Nat) (t : List UInt8) : List (List UInt8) := L.take k ++ [t] ++ L.drop k
def insL (L : List (List UInt8)) (t : List UInt8) : List (List UInt8) := match L[befL L t]? with
  | some x => if eqL x t = true then L else putL L (befL L t) t
  | none => putL L (befL L t) t
theorem before_gB (L : List (List UInt8)) (t : List UInt8) : before (L.map gB) (gB t) = befL L t := by
  unfold before befL
  rw [List.takeWhile_map, List.length_map]; rfl
theorem putAt_gB (L : List (List UInt8)) (k : Nat) (t : List UInt8) : putAt (L.map gB) k (gB t) = (putL L k t).map gB := by
  unfold putAt putL; simp [List.map_take, List.map_drop]
theorem insT_gB (L : List (List UInt8)) (t : List UInt8) : insT (L.map gB) (gB t) = (insL L t).map gB := by
  unfold insT insL
  rw [before_gB, putAt_gB, List.getElem?_map]
  cases L[befL L t]? with
  | none => rfl
  | some x =>
    simp only [Option.map_some, seq_gB]
    exact (apply_ite (List.map gB) (eqL x t = true) L (putL L (befL L t) t)).symm
def rTurnsL (l : List UInt8) (n : Nat) : List (List UInt8) := (List.range n).foldl (fun L i => insL L (turnL l i)) []
theorem rTurns_gB (l : List UInt8) : ∀ n, n ≤ l.length → rTurnsTo (gB l) n = (rTurnsL l n).map gB := by
  intro n
  induction n with
  | zero => intro _; rfl
  | succ n ih =>
    intro hn
    rw [rTurns_succ, ih (by omega), turnAt_gB l n (by omega), insT_gB]
    simp [rTurnsL, List.range_succ]
def rWholeL (l : List UInt8) : Bool := Nat.beq (rTurnsL l l.length).length l.length
theorem rWhole_gB (l : List UInt8) : rWhole (gB l) = rWholeL l := by
  unfold rWhole rWholeL
  rw [gB_size, rTurns_gB l _ (Nat.le_refl _), List.length_map, Bool.eq_iff_iff, decide_eq_true_iff, Nat.beq_eq]
  omega
def rRingL (l : List UInt8) : Bool := rWholeL l && eqL ((rTurnsL l l.length).getD 0 []) l
theorem rRing_gB (l : List UInt8) : rRingOK (gB l) = rRingL l := by
  unfold rRingOK rRingL
  rw [rWhole_gB, gB_size, rTurns_gB l _ (Nat.le_refl _)]
  have : ((rTurnsL l l.length).map gB).getD 0 ByteArray.empty = gB ((rTurnsL l l.length).getD 0 []) := by
    cases rTurnsL l l.length <;> rfl
  rw [this, seq_gB]
def allL (k : Nat) : Nat → List (List UInt8)
  | 0 => [[]]
  | n + 1 => (allL k n).flatMap fun w => (List.range k).map fun c => w ++ [UInt8.ofNat (97 + c)]
theorem all_gB (k : Nat) : ∀ n, allM k n = (allL k n).map gB := by
  intro n
  induction n with
  | zero => rfl
  | succ n ih =>
    simp only [allM, allL, ih]
    rw [List.flatMap_map, List.map_flatMap]
    congr 1
    funext w
    simp only [nextW, List.map_map]
    apply List.map_congr_left
    intro c _
    simp only [Function.comp, letterB]
    exact gB_append _ _
def rRingsL (k n : Nat) : List (List UInt8) := (allL k n).filter rRingL
theorem rRings_gB (k n : Nat) : (allM k n).filter rRingOK = (rRingsL k n).map gB := by
  rw [all_gB, List.filter_map]
  unfold rRingsL
  congr 1
  apply List.filter_congr
  intro w _
  exact rRing_gB w
def sameL2 : List (List UInt8) → List (List UInt8) → Bool
  | [], [] => true
  | a :: l, b :: m => eqL a b && sameL2 l m
  | _, _ => false
theorem texts_gB : ∀ A B : List (List UInt8), textsF (A.map gB) (B.map gB) = sameL2 A B := by
  intro A
  induction A with
  | nil => intro B; cases B <;> simp [textsF, sameL2]
  | cons a A ih =>
    intro B
    cases B with
    | nil => simp [textsF, sameL2]
    | cons b B =>
      have := ih B
      simp only [textsF, List.length_map] at this
      simp only [textsF, sameL2, List.map_cons, List.length_cons, List.zip_cons_cons, List.all_cons, List.length_map, seq_gB, ← this]
      cases eqL a b <;> simp
theorem rg_all : ((List.range 4).all fun a => (List.range 5).all fun b => sameL2 (ringsL (a + 1) (b + 1)) (rRingsL (a + 1) (b + 1))) = true := by kernel_rfl
theorem rg_ok {k n : Int} (h : inRange k n = true) : textsF (ringsF k.toNat n.toNat) ((allM k.toNat n.toNat).filter rRingOK) = true := by
  obtain ⟨h1, h2, h3, h4⟩ := inRange_iff.1 h
  rw [rRings_gB]
  unfold ringsF
  rw [texts_gB]
  have h := rg_all
  rw [List.all_eq_true] at h
  have h := h (k.toNat - 1) (by simp; omega)
  rw [List.all_eq_true] at h
  have h := h (n.toNat - 1) (by simp; omega)
  rwa [show k.toNat - 1 + 1 = k.toNat by omega, show n.toNat - 1 + 1 = n.toNat by omega] at h
end Go.Proofs.YtpbmpdocgplhpaaGreatDoor
