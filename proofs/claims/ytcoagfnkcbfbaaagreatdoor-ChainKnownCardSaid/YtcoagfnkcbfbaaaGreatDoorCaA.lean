/-
  Closed facts of the card of ChainKnown: the row is well formed, the harness is named.
-/
import Derived.Test.YtcoagfnkcbfbaaaGreatDoorRows
import Derived.SevenTiedAt
import GoSem.ClaimSeven
namespace Go.Proofs.YtcoagfnkcbfbaaaGreatDoor
open Go
set_option maxRecDepth 1000000
theorem cdW : Rows.chainKnownRow.wfByText (OpenSpec.ofChange Rows.chainKnownSpec) = true := by kernel_rfl
theorem cdM : Tryz.pinned.checked.prog.mainIs = some (true, "e5cb7cbef7f001c731d48c1c21e7375f3dc88674e151d913cf5010a7ace4f331".toList) := by kernel_rfl
end Go.Proofs.YtcoagfnkcbfbaaaGreatDoor
