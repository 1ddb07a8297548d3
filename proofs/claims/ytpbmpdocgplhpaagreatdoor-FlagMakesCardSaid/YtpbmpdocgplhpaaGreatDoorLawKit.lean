/-
  What the walks of the laws share.
-/
import Derived.Test.YtpbmpdocgplhpaaGreatDoorMD
import Derived.Test.YtpbmpdocgplhpaaGreatDoorMG
set_option linter.unusedSimpArgs false
set_option linter.unusedVariables false
set_option maxRecDepth 100000
namespace Go.Proofs.YtpbmpdocgplhpaaGreatDoor
open Go Go.AM

/-- A number brought into 1 .. q. -/
def norm (q k : Int) : Int := IntKind.wrap .i64 (1 + IntKind.wrap .i64 (Int.tmod (IntKind.wrap .u64 k) q))
end Go.Proofs.YtpbmpdocgplhpaaGreatDoor
