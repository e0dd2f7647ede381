/-
  The closed facts of the row of ChainKnown, together.
-/
import Derived.Test.YtcoagfnkcbfbaaaGreatDoorFix
import Derived.Test.YtcoagfnkcbfbaaaGreatDoorFaA
import Derived.Test.YtcoagfnkcbfbaaaGreatDoorFaB
import Derived.Test.YtcoagfnkcbfbaaaGreatDoorFaC
import Derived.Test.YtcoagfnkcbfbaaaGreatDoorFaD
import Derived.Test.YtcoagfnkcbfbaaaGreatDoorFaE
import Derived.Test.YtcoagfnkcbfbaaaGreatDoorFaG
import Derived.Test.YtcoagfnkcbfbaaaGreatDoorFaH
import Derived.Test.YtcoagfnkcbfbaaaGreatDoorFaI
import Derived.Test.YtcoagfnkcbfbaaaGreatDoorFaJ
import Derived.JoinedOf
namespace Go.Proofs.YtcoagfnkcbfbaaaGreatDoor
open Go
set_option maxRecDepth 1000000
theorem typesSize : Tryz.prog.types.size = 692 := by kernel_rfl
theorem laidOut_ok : laidOutB Tryz.prog = true := by
  unfold laidOutB
  rw [typesSize, show List.range 692 = List.range' 0 173 ++ (List.range' 173 173 ++ (List.range' 346 173 ++ List.range' 519 173)) by rw [List.range_eq_range']; rfl]
  simp only [List.all_append, fine0, fine1, fine2, fine3, Bool.and_self, Bool.true_and, Bool.and_eq_true]
  rw [← typesSize]
  exact ⟨fineG, fineF⟩
theorem andT {a b : Bool} (h : a = true) (k : b = true) : (a && b) = true := by rw [h, k]; rfl
theorem chJ1 : (Rows.chainKnownRow.wf (OpenSpec.ofChange Rows.chainKnownSpec)) = true := by
  kernel_rfl
theorem chJ4 : (Tryz.f3.params.all (Tryz.prog.readableRec ·)) = true := by
  kernel_rfl
theorem chJ5 : (namedTie Tryz.prog Rows.chainKnownRow.named Rows.chainKnownSpec.vars) = true := by
  kernel_rfl
theorem chJ6 : ((Rows.chainKnownRow.stops == [])) = true := by
  kernel_rfl
theorem chJ7 : ((Tryz.prog.stops == [])) = true := by
  kernel_rfl
theorem chJ8 : ((Rows.chainKnownRow.knobs == [])) = true := by
  kernel_rfl
theorem chJ9 : ((Tryz.prog.stopKnobs == [])) = true := by
  kernel_rfl
theorem chJ14 : ((Rows.chainKnownRow.maps == (Tryz.f3.params.toList ++ Rows.chainKnownSpec.plain.varTypes Tryz.prog).any (Tryz.prog.mapsRec ·))) = true := by
  kernel_rfl
theorem chJ15 : ((Rows.chainKnownRow.ifaces == (Tryz.f3.params.toList ++ Rows.chainKnownSpec.plain.varTypes Tryz.prog).any (Tryz.prog.ifacesRec ·))) = true := by
  kernel_rfl
theorem chJ16 : ((Rows.chainKnownRow.mapsOut == Tryz.prog.mapsAmong Tryz.f3.resultTypes.toList)) = true := by
  kernel_rfl
theorem chJ17 : ((Rows.chainKnownRow.loops == (Tryz.f3.params.toList ++ Rows.chainKnownSpec.plain.varTypes Tryz.prog).any (Tryz.prog.loopsFrom ·))) = true := by
  kernel_rfl
theorem chJ18 : ((Rows.chainKnownRow.wideKeys == (Tryz.f3.params.toList ++ Rows.chainKnownSpec.plain.varTypes Tryz.prog ++ Tryz.f3.resultTypes.toList).any (Tryz.prog.wideKeysFrom ·))) = true := by
  simp only [Program.readableRec, Program.mapsRec, Program.ifacesRec, Program.loopsFrom, Program.wideKeysFrom, OpenClaim.veiledFits, Program.veiledOwn, Program.veiledRec, Program.varReadable, book_growF]
  kernel_rfl
theorem chJ19 : (Rows.chainKnownSpec.vars.all (Tryz.prog.varReadable ·)) = true := by
  kernel_rfl
theorem chJ20 : (Tryz.f3.resultTypes.all (fun t => Tryz.prog.readableRec t && decide (t < Tryz.prog.types.size))) = true := by
  simp only [Program.readableRec, Program.mapsRec, Program.ifacesRec, Program.loopsFrom, Program.wideKeysFrom, OpenClaim.veiledFits, Program.veiledOwn, Program.veiledRec, Program.varReadable, book_growF]
  kernel_rfl
theorem chJ21 : ((Rows.chainKnownRow.ifacesOut == Tryz.f3.resultTypes.toList.any (Tryz.prog.ifacesRec ·))) = true := by
  simp only [Program.readableRec, Program.mapsRec, Program.ifacesRec, Program.loopsFrom, Program.wideKeysFrom, OpenClaim.veiledFits, Program.veiledOwn, Program.veiledRec, Program.varReadable, book_growF]
  kernel_rfl
theorem chJ22 : ((Rows.chainKnownRow.loopsOut == Tryz.f3.resultTypes.toList.any (Tryz.prog.loopsFrom ·))) = true := by
  simp only [Program.readableRec, Program.mapsRec, Program.ifacesRec, Program.loopsFrom, Program.wideKeysFrom, OpenClaim.veiledFits, Program.veiledOwn, Program.veiledRec, Program.varReadable, book_growF]
  kernel_rfl
theorem chJ23 : ((Rows.chainKnownRow.plainKeys == Tryz.prog.plainKeys)) = true := by
  kernel_rfl
theorem chJ24 : (Rows.chainKnownRow.shortTexts.isNone) = true := by
  kernel_rfl
theorem chJ27 : ((Rows.chainKnownRow.lifted == Tryz.prog.liftsFinal)) = true := by
  kernel_rfl
theorem chJ28 : ((Tryz.prog.make == some Rows.chainKnownRow.make)) = true := by
  kernel_rfl
theorem chJ29 : ((Rows.chainKnownRow.kinds == (if Rows.chainKnownRow.domain.isEmpty then [] else Tryz.f3.params.toList.map fun t => match Tryz.prog.underlying t with | some (.int k) => some k | _ => none))) = true := by
  kernel_rfl
theorem chJ30 : ((Rows.chainKnownRow.pinned == Rows.chainKnownRow.pinnedBy)) = true := by
  kernel_rfl
theorem chJ31 : ((Rows.chainKnownRow.veiled == (Tryz.f3.params.toList ++ Rows.chainKnownSpec.plain.varTypes Tryz.prog ++ Tryz.f3.resultTypes.toList).any (Tryz.prog.veiledRec ·))) = true := by
  simp only [Program.readableRec, Program.mapsRec, Program.ifacesRec, Program.loopsFrom, Program.wideKeysFrom, OpenClaim.veiledFits, Program.veiledOwn, Program.veiledRec, Program.varReadable, book_growF]
  kernel_rfl
theorem chJ32 : (Rows.chainKnownRow.veiledFits Tryz.prog Tryz.f3.params.toList (Tryz.f3.params.toList ++ Rows.chainKnownSpec.plain.varTypes Tryz.prog ++ Tryz.f3.resultTypes.toList)) = true := by
  simp only [Program.readableRec, Program.mapsRec, Program.ifacesRec, Program.loopsFrom, Program.wideKeysFrom, OpenClaim.veiledFits, Program.veiledOwn, Program.veiledRec, Program.varReadable, book_growF]
  kernel_rfl
theorem chain_facts : joinedFacts Tryz.prog 3 Tryz.f3 Rows.chainKnownSpec Rows.chainKnownRow = true := by
  unfold joinedFacts
  exact (andT (andT (andT (andT (andT (andT (andT (andT (andT (andT (andT (andT (andT (andT (andT (andT (andT (andT (andT (andT (andT (andT (andT (andT (andT (andT (andT (andT (andT (andT (andT chJ1 laidOut_ok) mapsOk) chJ4) chJ5) chJ6) chJ7) chJ8) chJ9) fIn) fUn) fRe) fNa) chJ14) chJ15) chJ16) chJ17) chJ18) chJ19) chJ20) chJ21) chJ22) chJ23) chJ24) fStops) fEnter) chJ27) chJ28) chJ29) chJ30) chJ31) chJ32)
end Go.Proofs.YtcoagfnkcbfbaaaGreatDoor
