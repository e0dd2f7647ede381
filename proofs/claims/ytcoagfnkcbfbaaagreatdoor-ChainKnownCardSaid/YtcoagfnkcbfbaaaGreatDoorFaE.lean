/-
  Closed facts of the program: its map types.
-/
import Derived.Test.YtcoagfnkcbfbaaaGreatDoorRows
import Derived.JoinedOf
namespace Go.Proofs.YtcoagfnkcbfbaaaGreatDoor
open Go
set_option maxRecDepth 1000000
theorem mapsOk : mapsRowed Tryz.prog = true := by kernel_rfl
end Go.Proofs.YtcoagfnkcbfbaaaGreatDoor
