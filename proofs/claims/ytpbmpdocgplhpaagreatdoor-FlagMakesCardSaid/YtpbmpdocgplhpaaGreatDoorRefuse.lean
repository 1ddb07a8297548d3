/-
  What the functions answer when the numbers or the code are refused.
-/
import Derived.Test.YtpbmpdocgplhpaaGreatDoorMH
import Derived.Test.YtpbmpdocgplhpaaGreatDoorMD
set_option linter.unusedSimpArgs false
set_option linter.unusedVariables false
set_option maxRecDepth 100000
namespace Go.Proofs.YtpbmpdocgplhpaaGreatDoor
open Go Go.AM

section
variable {X : Ext} (hX49 : X 37 = none) (x : OverX X) (k n : Int) (h : AHeap) (a : Option Addr) (kk : Nat) (L : List ByteArray) (hL : L.length < 1000000) (hst : Strs h a L)
include hX49 x hL hst
variable (e : Int) (he : (e == 0) = false) (hop : openF k n L = e)
include he hop
end
theorem make_no {X : Ext} (hX : X 12 = none) (hX49 : X 37 = none) (k n : Int) (hin : inRange k n = false) (h : AHeap) : Ca Tryz.prog X (.fn 12) [I k, I n] h (fun v h' => v = .tuple #[.slice none 0 0, I 1] ∧ h' = h) := by
  have c := open_nil hX49 k n h
  rw [hin] at c
  refine Ca_fn (fn := Tryz.f12) (c := Tryz.f12.body.getD .skip) hX (by kernel_rfl) (by kernel_rfl) (by kernel_rfl) ?_
  refine Run 1000 ?_
  refine Fin_call 37 [I k, I n, .slice none 0 0] (by kernel_rfl) (by kernel_rfl) c (fun v2 hh2 hv2 => ?_)
  obtain ⟨rfl, rfl⟩ := hv2
  refine RunA 1000 3 ?_
  exact Fin_r (by kernel_rfl) ⟨Or.inr rfl, .tuple #[.slice none 0 0, I 1], by kernel_rfl, rfl, rfl⟩
end Go.Proofs.YtpbmpdocgplhpaaGreatDoor
