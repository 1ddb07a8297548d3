/-
  What Grow makes of a code: plain.
-/
import Derived.Test.YtpbmpdocgplhpaaGreatDoorGrowY
import Derived.Test.YtpbmpdocgplhpaaGreatDoorWhPl
set_option linter.unusedSimpArgs false
set_option linter.unusedVariables false
set_option maxRecDepth 100000
namespace Go.Proofs.YtpbmpdocgplhpaaGreatDoor
open Go Go.AM

structure GrowOK (k n : Nat) (out : List ByteArray) : Prop where
  wd : ∀ w ∈ out, w.size = n ∧ overF k w = true
  nd : out.Nodup
  fr : freeF out = true
end Go.Proofs.YtpbmpdocgplhpaaGreatDoor
