/-
  A clash found, and the reference's Free and IsClash: plain.
-/
import Derived.Test.YtpbmpdocgplhpaaGreatDoorFree
import Derived.Test.YtpbmpdocgplhpaaGreatDoorMH
import Derived.Lib.IndexMore
import Derived.Test.YtpbmpdocgplhpaaGreatDoorMV
set_option linter.unusedSimpArgs false
set_option linter.unusedVariables false
set_option maxRecDepth 100000
namespace Go.Proofs.YtpbmpdocgplhpaaGreatDoor
open Go Go.AM

theorem ba_eq (a b : ByteArray) : a = b ↔ a.data.toList = b.data.toList := ⟨fun h => h ▸ rfl, list_inj⟩
end Go.Proofs.YtpbmpdocgplhpaaGreatDoor
