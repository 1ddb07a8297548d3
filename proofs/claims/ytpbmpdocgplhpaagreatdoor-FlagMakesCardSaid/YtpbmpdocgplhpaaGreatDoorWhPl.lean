/-
  FlagWhole's plain law: a comma-free code has whole words only, of each ring at most one, and at most as many as there are rings.
-/
import Derived.Test.YtpbmpdocgplhpaaGreatDoorMH
import Derived.Test.YtpbmpdocgplhpaaGreatDoorMD
import Derived.KernelRfl
import Derived.Test.YtpbmpdocgplhpaaGreatDoorRgPl2
import Derived.Test.YtpbmpdocgplhpaaGreatDoorMF
set_option linter.unusedSimpArgs false
set_option linter.unusedVariables false
set_option maxRecDepth 100000
namespace Go.Proofs.YtpbmpdocgplhpaaGreatDoor
open Go Go.AM

structure WFacts (l : List UInt8) : Prop where
  turn : wholeL l = false → ∃ a, 1 ≤ a ∧ a < l.length ∧ turnL l a = l
  back : l ∈ turnsL (firstL l)
  sub : ∀ t ∈ turnsL (firstL l), t ∈ turnsL l
  ring : wholeL l = true → ringOK (firstL l) = true
  first : firstL l ∈ turnsL l
end Go.Proofs.YtpbmpdocgplhpaaGreatDoor
