/-
  Closed facts of the program, in parts that the kernel can bear: the layout of its types.
-/
import Derived.Test.YtcoagfnkcbfbaaaGreatDoorRows
import Derived.JoinedOf
namespace Go.Proofs.YtcoagfnkcbfbaaaGreatDoor
open Go
set_option maxRecDepth 1000000
theorem fine0 : (List.range' 0 173).all (rowFine Tryz.prog) = true := by kernel_rfl
theorem fine1 : (List.range' 173 173).all (rowFine Tryz.prog) = true := by kernel_rfl
end Go.Proofs.YtcoagfnkcbfbaaaGreatDoor
