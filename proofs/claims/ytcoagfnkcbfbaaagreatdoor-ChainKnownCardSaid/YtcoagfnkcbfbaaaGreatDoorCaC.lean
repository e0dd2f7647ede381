/-
  Closed facts of the card of ChainKnown: no function starts a goroutine.
-/
import Derived.Test.YtcoagfnkcbfbaaaGreatDoorRows
import Derived.SevenTiedAt
import GoSem.ClaimSeven
namespace Go.Proofs.YtcoagfnkcbfbaaaGreatDoor
open Go
set_option maxRecDepth 1000000
def quietAt (P : Program) (g : Nat) : Bool := !((P.funcs[g]?).any Func.goes)
theorem quiet0 : (List.range' 0 50).all (quietAt Tryz.prog) = true := by kernel_rfl
theorem quiet1 : (List.range' 50 50).all (quietAt Tryz.prog) = true := by kernel_rfl
theorem quiet2 : (List.range' 100 50).all (quietAt Tryz.prog) = true := by kernel_rfl
theorem quiet3 : (List.range' 150 50).all (quietAt Tryz.prog) = true := by kernel_rfl
theorem quiet4 : (List.range' 200 50).all (quietAt Tryz.prog) = true := by kernel_rfl
theorem quiet5 : (List.range' 250 50).all (quietAt Tryz.prog) = true := by kernel_rfl
theorem quiet6 : (List.range' 300 50).all (quietAt Tryz.prog) = true := by kernel_rfl
theorem quiet7 : (List.range' 350 50).all (quietAt Tryz.prog) = true := by kernel_rfl
theorem quiet8 : (List.range' 400 50).all (quietAt Tryz.prog) = true := by kernel_rfl
theorem quiet9 : (List.range' 450 50).all (quietAt Tryz.prog) = true := by kernel_rfl
theorem quiet10 : (List.range' 500 50).all (quietAt Tryz.prog) = true := by kernel_rfl
theorem quiet11 : (List.range' 550 31).all (quietAt Tryz.prog) = true := by kernel_rfl
end Go.Proofs.YtcoagfnkcbfbaaaGreatDoor
