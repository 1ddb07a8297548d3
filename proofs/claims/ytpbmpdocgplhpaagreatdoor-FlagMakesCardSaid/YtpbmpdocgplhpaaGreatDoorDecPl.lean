/-
  Words of a comma-free code, put one after the other, are read in one way: plain.
-/
import Derived.Test.YtpbmpdocgplhpaaGreatDoorClPl
import Derived.Test.YtpbmpdocgplhpaaGreatDoorMI
set_option linter.unusedSimpArgs false
set_option linter.unusedVariables false
set_option maxRecDepth 100000
namespace Go.Proofs.YtpbmpdocgplhpaaGreatDoor
open Go Go.AM

/-- Words put one after the other. -/
def tl (s : ByteArray) : List UInt8 := s.data.toList
def flat (ws : List ByteArray) : List UInt8 := (ws.map tl).flatten
section
variable {L : List ByteArray} {n k : Nat} (hw : ∀ w ∈ L, w.size = n ∧ overF k w = true) (hn : 1 ≤ n) (hf : freeF L = true)
include hw hn
end
end Go.Proofs.YtpbmpdocgplhpaaGreatDoor
