/-
  The statement ChainKnownCardSaid: the chapter's examples come out as the document says, and the listed variables are those of the program's text; no condition.
-/
import Derived.Test.YtcoagfnkcbfbaaaGreatDoorCards
import Derived.Test.YtcoagfnkcbfbaaaGreatDoorTie
import Derived.Test.YtcoagfnkcbfbaaaGreatDoorRwB
import Derived.Test.YtcoagfnkcbfbaaaGreatDoorCaA
import Derived.Test.YtcoagfnkcbfbaaaGreatDoorCaB
import Derived.Test.YtcoagfnkcbfbaaaGreatDoorCaD
namespace Go.Proofs.YtcoagfnkcbfbaaaGreatDoor
open Go
set_option maxRecDepth 1000000
theorem chainKnown_proved : Rows.ChainKnownCardSaid :=
  Claim7.holds_tied_plain_at .later [] [.data, .data, .pinned] true (true, "e5cb7cbef7f001c731d48c1c21e7375f3dc88674e151d913cf5010a7ace4f331") true chain_holds (fun _ h => by cases h) cdW (fun _ h => by cases h) chainKnown_row_tie rfl ⟨rfl, rfl⟩ cdM rfl
    (fun f fn hf hfn => by
      obtain rfl : f = 3 := Option.some.inj (fNamed.symm.trans hf) |>.symm
      obtain rfl : fn = Tryz.f3 := (Option.some.inj (Tryz.func3.symm.trans hfn)).symm
      exact ⟨cdL, fun j t ht => by
        rw [Tryz.params3] at ht
        simp at ht⟩)
    cdG
#print axioms chainKnown_proved
end Go.Proofs.YtcoagfnkcbfbaaaGreatDoor
