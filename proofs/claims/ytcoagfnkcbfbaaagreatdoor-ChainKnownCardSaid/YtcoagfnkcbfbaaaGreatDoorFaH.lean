/-
  Closed facts of the program: the variables that are named.
-/
import Derived.Test.YtcoagfnkcbfbaaaGreatDoorFaF
import Derived.JoinedOf
namespace Go.Proofs.YtcoagfnkcbfbaaaGreatDoor
open Go
set_option maxRecDepth 1000000
theorem fNa : (Rows.chainKnownRow.named == Tryz.prog.varsNamed 3) = true := by
  simp only [Program.varsNamed, closure3_eq]
  kernel_rfl
end Go.Proofs.YtcoagfnkcbfbaaaGreatDoor
