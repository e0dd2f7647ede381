/-
  Closed facts of the program: what the law leads to, on.
-/
import Derived.Test.YtcoagfnkcbfbaaaGreatDoorFaF
import Derived.JoinedOf
namespace Go.Proofs.YtcoagfnkcbfbaaaGreatDoor
open Go
set_option maxRecDepth 1000000
theorem fIn : (Rows.chainKnownRow.inPlace == Tryz.prog.inPlace 3) = true := by
  simp only [Program.inPlace, closure3_eq]
  kernel_rfl
theorem fUn : (Rows.chainKnownRow.unfollowed == Tryz.prog.unfollowed 3) = true := by
  simp only [Program.unfollowed, closure3_eq]
  kernel_rfl
theorem fRe : (Rows.chainKnownRow.recurses == Tryz.prog.recurses 3) = true := by
  simp only [Program.recurses, Program.unfollowed, closure3_eq]
  kernel_rfl
end Go.Proofs.YtcoagfnkcbfbaaaGreatDoor
