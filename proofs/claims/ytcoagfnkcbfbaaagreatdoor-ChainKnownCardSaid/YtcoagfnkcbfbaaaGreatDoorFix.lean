/-
  The closed facts of the row of ChainKnown; the closure of a type's parts is taken only as far as it grows.
-/
import Derived.Test.YtcoagfnkcbfbaaaGreatDoorRows
import Derived.JoinedOf
namespace Go.Proofs.YtcoagfnkcbfbaaaGreatDoor
open Go

def growF (P : Program) : Nat → List TypeId → List TypeId
  | 0, s => s
  | d + 1, s => if P.grow s = s then s else growF P d (P.grow s)
theorem grown_fix {P : Program} {s : List TypeId} (h : P.grow s = s) : ∀ d, P.grown d s = s
  | 0 => rfl
  | d + 1 => by rw [Program.grown, h]; exact grown_fix h d
theorem grown_growF (P : Program) : ∀ (d : Nat) (s : List TypeId), P.grown d s = growF P d s
  | 0, _ => rfl
  | d + 1, s => by
    rw [Program.grown, growF]
    split
    · rename_i h
      rw [h]
      exact grown_fix h d
    · exact grown_growF P d _
theorem book_growF (P : Program) (t : TypeId) : P.book t = growF P P.types.size [t] := grown_growF P _ _

end Go.Proofs.YtcoagfnkcbfbaaaGreatDoor
