/-
  The contracts that the walks of the laws lean on: awake, and the library's last rune of a string.
-/
import Derived.Test.YtpbmpdocgplhpaaGreatDoorMF
import Derived.Test.YtpbmpdocgplhpaaGreatDoorLawKit
import Derived.Test.YtpbmpdocgplhpaaGreatDoorME
set_option linter.unusedSimpArgs false
set_option linter.unusedVariables false
set_option maxRecDepth 100000
namespace Go.Proofs.YtpbmpdocgplhpaaGreatDoor
open Go Go.AM

def awakeC : List Value → AHeap → Option (Value × AHeap) := fun args h => match args with | [] => some (.bool true, h) | _ => none
def AX2 : Ext := fun f => bif Nat.beq f 21 then some awakeC else bif Nat.beq f 137 then some decC else none
end Go.Proofs.YtpbmpdocgplhpaaGreatDoor
