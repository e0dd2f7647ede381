/-
  Closed facts of the program: the layout of its types, on.
-/
import Derived.Test.YtcoagfnkcbfbaaaGreatDoorRows
import Derived.JoinedOf
namespace Go.Proofs.YtcoagfnkcbfbaaaGreatDoor
open Go
set_option maxRecDepth 1000000
theorem fine2 : (List.range' 346 173).all (rowFine Tryz.prog) = true := by kernel_rfl
end Go.Proofs.YtcoagfnkcbfbaaaGreatDoor
