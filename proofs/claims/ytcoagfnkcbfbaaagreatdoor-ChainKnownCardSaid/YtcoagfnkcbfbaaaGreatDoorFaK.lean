/-
  Closed facts of the program: the law is named.
-/
import Derived.Test.YtcoagfnkcbfbaaaGreatDoorRows
import Derived.JoinedOf
namespace Go.Proofs.YtcoagfnkcbfbaaaGreatDoor
open Go
set_option maxRecDepth 1000000
theorem fNamed : Tryz.pinned.checked.prog.funcNamed "gabelle/gabellelaw31.ChainKnown" = some 3 := by kernel_rfl
end Go.Proofs.YtcoagfnkcbfbaaaGreatDoor
