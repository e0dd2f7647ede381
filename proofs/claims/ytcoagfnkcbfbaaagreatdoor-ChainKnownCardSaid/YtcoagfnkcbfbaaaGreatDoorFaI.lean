/-
  Closed facts of the program: stops, entering.
-/
import Derived.Test.YtcoagfnkcbfbaaaGreatDoorRows
import Derived.JoinedOf
namespace Go.Proofs.YtcoagfnkcbfbaaaGreatDoor
open Go
set_option maxRecDepth 1000000
theorem fStops : Tryz.prog.stopsHeard = true := by kernel_rfl
end Go.Proofs.YtcoagfnkcbfbaaaGreatDoor
