/-
  FlagGolomb's plain law: the numbers of the rings, for each of the numbers that the law speaks of.
-/
import Derived.Test.YtpbmpdocgplhpaaDoorMD
import Derived.KernelRfl
set_option linter.unusedSimpArgs false
set_option linter.unusedVariables false
set_option maxRecDepth 100000
namespace Go.Proofs.YtpbmpdocgplhpaaDoor
open Go Go.AM

def powM (k : Int) : Nat → Int → Int
  | 0, p => p
  | t + 1, p => powM k t (IntKind.wrap .i64 (p * k))
def golM (k m : Int) : Nat → Nat → Int → Option Int
  | 0, _, s => some s
  | t + 1, d, s => if Int.tmod m d = 0 then (if (countRings k d).2 = 0 then golM k m t (d + 1) (IntKind.wrap .i64 (s + IntKind.wrap .i64 ((countRings k d).1 * d))) else none) else golM k m t (d + 1) s
def golOK (k m : Nat) : Bool :=
  (golM k m m 1 0 == some (powM k m 1)) && (!inRange k m || (((ringsL k m).length : Int) == (countRings k m).1 && (countRings k m).2 == 0))
theorem gol_all : ((List.range 9).all fun a => (List.range 18).all fun b => golOK (a + 1) (b + 1)) = true := by kernel_rfl
theorem gol_ok {k m : Nat} (h1 : 1 ≤ k) (h2 : k ≤ 9) (h3 : 1 ≤ m) (h4 : m ≤ 18) : golOK k m = true := by
  have h := gol_all
  rw [List.all_eq_true] at h
  have h := h (k - 1) (by simp; omega)
  rw [List.all_eq_true] at h
  have h := h (m - 1) (by simp; omega)
  rwa [show k - 1 + 1 = k by omega, show m - 1 + 1 = m by omega] at h
end Go.Proofs.YtpbmpdocgplhpaaDoor
