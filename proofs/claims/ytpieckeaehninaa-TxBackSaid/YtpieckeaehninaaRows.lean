/-
  No cell of these rows narrows 'for every input' (looked for: loops, veiled, ifaces, maps, wideKeys, modest, calm, conditions, laid).
  DERIVED. THE GIVEN ROWS OF THIS SEAT. 3 by the template 'for every input the law returns true; each argument reads behind the call as it read before'; 0 by the template 'total and deterministic' (their statements: YtpieckeaehninaaTotals.lean).
  GIVEN WITH THE SEED: the statements are not yours to turn. If you find one false, say at which input.
  Laid BY PROGRAM, IN A SANDBOX (cutbox-rows.mjs): the forced cells as the released guide's own fill.sh prints them over the translation 8d49b89aa44a6f01… (all of the seat's roots in one cut). By AI agents, Wed Nov 11 2026. No macro, syntax, notation, axiom, sorry.
-/
import Derived.Test.YtpieckeaehninaaChecked
import GoSem.Claim
import GoSem.ClaimJoined
import GoSem.ClaimMapViews
import Derived.JoinedTies
import Derived.KernelRfl
namespace Go.Proofs.Ytpieckeaehninaa
/- THE CELL 'sum', in the pinned program and in every row, IS THE sha256 OF THE DUMP (.gsa) THAT YtpieckeaehninaaProg.lean LOADS. Nothing in Lean hashes anything: it is a label: what it is worth is what the hold of that sum in a sandbox is worth. -/
noncomputable def Try.pinned : Pinned := { name := "ytpieckeaehninaa", sum := "8d49b89aa44a6f0198e9359f9b5c18d10b43ec4db7699814a22d00d2f67872ec", checked := Try.checked }
namespace Rows
def none {H : Type} : Left H := { results := [], args := [] }

/-- 'gabellelaw27.TxPuts': WHATEVER THE INPUT: true; the input reads as it did. -/
def txPutsSpec : ChangeSpec := { name := "txPuts", fn := fun _ => fun
  | [d] => { results := [.lit (.bool true)], args := [d] }
  | _ => none }
def txPutsRow : OpenClaim := { program := "ytpieckeaehninaa", sum := "8d49b89aa44a6f0198e9359f9b5c18d10b43ec4db7699814a22d00d2f67872ec", func := "gabelle/gabellelaw27.TxPuts", spec := "txPuts", inPlace := ["math/bits.Add64"], unfollowed := true, recurses := true, apart := false }
def TxPutsSaid : Prop := txPutsRow.holds Try.pinned (OpenSpec.ofChange txPutsSpec)

/-- ITS FALSE NEIGHBOUR: 'it returns false'. Refute it at one input. -/
def txPutsWrong : ChangeSpec := { name := "txPuts", fn := fun _ => fun
  | [d] => { results := [.lit (.bool false)], args := [d] }
  | _ => none }
def TxPutsWrongFalsely : Prop := txPutsRow.holds Try.pinned (OpenSpec.ofChange txPutsWrong)

/-- 'gabellelaw27.TxTakes': WHATEVER THE INPUT: true; the input reads as it did. -/
def txTakesSpec : ChangeSpec := { name := "txTakes", fn := fun _ => fun
  | [d] => { results := [.lit (.bool true)], args := [d] }
  | _ => none }
def txTakesRow : OpenClaim := { program := "ytpieckeaehninaa", sum := "8d49b89aa44a6f0198e9359f9b5c18d10b43ec4db7699814a22d00d2f67872ec", func := "gabelle/gabellelaw27.TxTakes", spec := "txTakes", inPlace := ["math/bits.Add64"], unfollowed := true, recurses := true, apart := false }
def TxTakesSaid : Prop := txTakesRow.holds Try.pinned (OpenSpec.ofChange txTakesSpec)

/-- ITS FALSE NEIGHBOUR: 'it returns false'. Refute it at one input. -/
def txTakesWrong : ChangeSpec := { name := "txTakes", fn := fun _ => fun
  | [d] => { results := [.lit (.bool false)], args := [d] }
  | _ => none }
def TxTakesWrongFalsely : Prop := txTakesRow.holds Try.pinned (OpenSpec.ofChange txTakesWrong)

/-- 'gabellelaw27.TxBack': WHATEVER THE INPUT: true; the input reads as it did. -/
def txBackSpec : ChangeSpec := { name := "txBack", fn := fun _ => fun
  | [d1, d2] => { results := [.lit (.bool true)], args := [d1, d2] }
  | _ => none }
def txBackRow : OpenClaim := { program := "ytpieckeaehninaa", sum := "8d49b89aa44a6f0198e9359f9b5c18d10b43ec4db7699814a22d00d2f67872ec", func := "gabelle/gabellelaw27.TxBack", spec := "txBack", inPlace := ["math/bits.Add64"], unfollowed := true, recurses := true, apart := false }
def TxBackSaid : Prop := txBackRow.holds Try.pinned (OpenSpec.ofChange txBackSpec)

/-- ITS FALSE NEIGHBOUR: 'it returns false'. Refute it at one input. -/
def txBackWrong : ChangeSpec := { name := "txBack", fn := fun _ => fun
  | [d1, d2] => { results := [.lit (.bool false)], args := [d1, d2] }
  | _ => none }
def TxBackWrongFalsely : Prop := txBackRow.holds Try.pinned (OpenSpec.ofChange txBackWrong)

/- THE SECOND FORM. 'bulk': how many values and letters a reading holds, each counted each time it is reached (what is shared counts as often as it is met; a slice's spare places count too). A statement '..UptoSaid' is the law's where the arguments, and the package variables that the reading takes, are together of bulk at most 1048576: NARROWER than '..Said'. Prove '..Said' where nothing that the law and all that it calls make is longer than what came in: it says more and counts as full. Else prove '..UptoSaid'. A law counts once. -/
mutual
def uptoBulk {H : Type} : DataW H → Nat
  | .lit (.string bytes) => bytes.length + 1
  | .lit _ => 1
  | .nil => 1
  | .ptr d => uptoBulk d + 1
  | .slice elems spare => uptoBulkAll elems + uptoBulkAll spare + 1
  | .agg parts => uptoBulkAll parts + 1
  | .iface _ d => uptoBulk d + 1
  | .map entries => uptoBulkEntries entries + 1
  | .held _ => 1
def uptoBulkAll {H : Type} : List (DataW H) → Nat
  | [] => 0
  | d :: r => uptoBulk d + uptoBulkAll r
def uptoBulkEntries {H : Type} : List (Lit × DataW H) → Nat
  | [] => 0
  | x :: r => uptoBulkEntry x + uptoBulkEntries r
def uptoBulkEntry {H : Type} : Lit × DataW H → Nat
  | (.string bytes, d) => bytes.length + uptoBulk d + 1
  | (_, d) => uptoBulk d + 1
 end
def uptoSmall : (H : Type) → List (DataW H) → Bool := fun _ ds => decide (uptoBulkAll ds ≤ 1048576)
def OpenSpec.upto (s : _root_.Go.ChangeSpec) : _root_.Go.OpenSpec := { _root_.Go.OpenSpec.ofChange s with cond := some uptoSmall }

/-- 'gabellelaw27.TxPuts', WHERE WHAT IT READS IS OF BULK AT MOST 1048576: true; the input reads as it did. -/
def txPutsUptoRow : OpenClaim := { program := "ytpieckeaehninaa", sum := "8d49b89aa44a6f0198e9359f9b5c18d10b43ec4db7699814a22d00d2f67872ec", func := "gabelle/gabellelaw27.TxPuts", spec := "txPuts", inPlace := ["math/bits.Add64"], unfollowed := true, recurses := true, apart := false, narrowed := true }
def TxPutsUptoSaid : Prop := txPutsUptoRow.holds Try.pinned (OpenSpec.upto txPutsSpec)

/-- 'gabellelaw27.TxTakes', WHERE WHAT IT READS IS OF BULK AT MOST 1048576: true; the input reads as it did. -/
def txTakesUptoRow : OpenClaim := { program := "ytpieckeaehninaa", sum := "8d49b89aa44a6f0198e9359f9b5c18d10b43ec4db7699814a22d00d2f67872ec", func := "gabelle/gabellelaw27.TxTakes", spec := "txTakes", inPlace := ["math/bits.Add64"], unfollowed := true, recurses := true, apart := false, narrowed := true }
def TxTakesUptoSaid : Prop := txTakesUptoRow.holds Try.pinned (OpenSpec.upto txTakesSpec)

/-- 'gabellelaw27.TxBack', WHERE WHAT IT READS IS OF BULK AT MOST 1048576: true; the input reads as it did. -/
def txBackUptoRow : OpenClaim := { program := "ytpieckeaehninaa", sum := "8d49b89aa44a6f0198e9359f9b5c18d10b43ec4db7699814a22d00d2f67872ec", func := "gabelle/gabellelaw27.TxBack", spec := "txBack", inPlace := ["math/bits.Add64"], unfollowed := true, recurses := true, apart := false, narrowed := true }
def TxBackUptoSaid : Prop := txBackUptoRow.holds Try.pinned (OpenSpec.upto txBackSpec)

end Rows
end Go.Proofs.Ytpieckeaehninaa
