/-
  FlagMakes' plain law: four flags, words of five letters.
-/
import Derived.Test.YtpbmpdocgplhpaaGreatDoorMksPl
import Derived.Test.YtpbmpdocgplhpaaGreatDoorSrtM
set_option maxRecDepth 100000
namespace Go.Proofs.YtpbmpdocgplhpaaGreatDoor
open Go Go.AM
/-- Sorted, item by item. -/
def insB (a : ByteArray) : List ByteArray → List ByteArray
  | [] => [a]
  | b :: L => bif ltS a b then a :: b :: L else b :: insB a L
def isB (L : List ByteArray) : List ByteArray := L.foldr insB []
theorem insB_perm (a : ByteArray) : ∀ L : List ByteArray, (insB a L).Perm (a :: L) := by
  intro L
  induction L with
  | nil => exact List.Perm.refl _
  | cons b L ih =>
    simp only [insB]
    cases ltS a b with
    | true => exact List.Perm.refl _
    | false => exact (List.Perm.cons b ih).trans (List.Perm.swap a b L)
theorem insB_lvl (a : ByteArray) : ∀ L : List ByteArray, Lvl L → Lvl (insB a L) := by
  intro L
  induction L with
  | nil => intro _; exact List.pairwise_singleton _ _
  | cons b L ih =>
    intro h
    obtain ⟨h1, h2⟩ := List.pairwise_cons.1 h
    simp only [insB]
    cases hab : ltS a b with
    | true =>
      have hba := lt_as hab
      exact List.pairwise_cons.2 ⟨fun y hy => by
        rcases List.mem_cons.1 hy with rfl | hy
        · exact hba
        · exact lv_tr hba (h1 y hy), h⟩
    | false =>
      refine List.pairwise_cons.2 ⟨fun y hy => ?_, ih h2⟩
      rcases List.mem_cons.1 ((insB_perm a L).mem_iff.1 hy) with rfl | hy
      · exact hab
      · exact h1 y hy
theorem isB_perm : ∀ L : List ByteArray, (isB L).Perm L := by
  intro L
  induction L with
  | nil => exact List.Perm.refl _
  | cons a L ih => exact (insB_perm a _).trans (List.Perm.cons a ih)
theorem isB_lvl : ∀ L : List ByteArray, Lvl (isB L) := by
  intro L
  induction L with
  | nil => exact List.Pairwise.nil
  | cons a L ih => exact insB_lvl a _ ih
theorem sortB_isB (L : List ByteArray) : sortB L = isB L := lvl_unique (sortB_lvl L) (isB_lvl L) ((sortB_perm L).trans (isB_perm L).symm)
def madeS (R : List ByteArray) : List ByteArray := compactM seq (isB (R.map chosenF))
theorem q45_1 : (ringsF 4 5).all wordOK = true := by kernel_rfl
theorem q45_2 : codeF 4 5 (madeS (ringsF 4 5)) = true := by kernel_rfl
theorem q45_3 : freeN (madeS (ringsF 4 5)) = true := by kernel_rfl
theorem q45_4 : Nat.beq (madeS (ringsF 4 5)).length (ringsL 4 5).length = true := by kernel_rfl
theorem q45_5 : (madeS (ringsF 4 5)).all (fun w => Nat.blt 0 (rTurnsTo w w.size).length) = true := by kernel_rfl
theorem q45_6 : textsF (firstsM (madeS (ringsF 4 5))) (ringsF 4 5) = true := by kernel_rfl
end Go.Proofs.YtpbmpdocgplhpaaGreatDoor
