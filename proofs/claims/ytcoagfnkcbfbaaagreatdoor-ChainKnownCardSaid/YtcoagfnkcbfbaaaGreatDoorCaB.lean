/-
  Closed facts of the card of ChainKnown: what looks at names.
-/
import Derived.Test.YtcoagfnkcbfbaaaGreatDoorRows
import Derived.SevenTiedAt
import GoSem.ClaimSeven
namespace Go.Proofs.YtcoagfnkcbfbaaaGreatDoor
open Go
set_option maxRecDepth 1000000
theorem cdL : true = Tryz.pinned.checked.prog.looks [] := by kernel_rfl
end Go.Proofs.YtcoagfnkcbfbaaaGreatDoor
