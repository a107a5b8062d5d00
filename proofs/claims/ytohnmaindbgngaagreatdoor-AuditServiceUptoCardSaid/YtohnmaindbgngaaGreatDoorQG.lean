/-
  MERGED: New HMap
-/
import Derived.Test.YtohnmaindbgngaaGreatDoorQD
import Derived.Test.YtohnmaindbgngaaGreatDoorShelf
import Derived.Sort.OwnSortedInts
import Derived.Test.YtohnmaindbgngaaGreatDoorQ1
import Derived.Test.YtohnmaindbgngaaGreatDoorQC
namespace Go.Proofs.YtohnmaindbgngaaGreatDoor
set_option linter.unusedVariables false
set_option linter.unusedSimpArgs false
open Go.RowKit

/-! ### sorted -/
end Go.Proofs.YtohnmaindbgngaaGreatDoor
namespace Go.Proofs.YtohnmaindbgngaaGreatDoor
set_option linter.unusedVariables false
set_option linter.unusedSimpArgs false
open Go.RowKit

end Go.Proofs.YtohnmaindbgngaaGreatDoor
