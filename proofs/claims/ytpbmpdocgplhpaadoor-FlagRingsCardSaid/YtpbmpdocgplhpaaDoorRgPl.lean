/-
  FlagRings' plain law: the numbers of the rings are those of the reference; the rings too.
-/
import Derived.Test.YtpbmpdocgplhpaaDoorME
import Derived.KernelRfl
set_option linter.unusedSimpArgs false
set_option linter.unusedVariables false
set_option maxRecDepth 100000
namespace Go.Proofs.YtpbmpdocgplhpaaDoor
open Go Go.AM

def crOK (k n : Nat) : Bool :=
  let c := countRings k n
  let r := rCount k (n + 1) n
  (r.2 && c.2 == 0 && c.1 == r.1) || (!r.2 && c.2 == 1 && c.1 == 0)
theorem cr_all : ((List.range 9).all fun a => (List.range 60).all fun b => crOK (a + 1) (b + 1)) = true := by kernel_rfl
end Go.Proofs.YtpbmpdocgplhpaaDoor
