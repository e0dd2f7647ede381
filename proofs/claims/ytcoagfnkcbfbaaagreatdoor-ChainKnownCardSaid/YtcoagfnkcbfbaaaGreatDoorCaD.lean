/-
  Closed facts of the card of ChainKnown: the call starts no goroutine.
-/
import Derived.Test.YtcoagfnkcbfbaaaGreatDoorCaC
import Derived.Test.YtcoagfnkcbfbaaaGreatDoorFaK
namespace Go.Proofs.YtcoagfnkcbfbaaaGreatDoor
open Go
set_option maxRecDepth 1000000
theorem quietAll (g : Nat) : (Tryz.prog.funcs[g]?).any Func.goes = false := by
  have h : ∀ a n : Nat, (List.range' a n).all (quietAt Tryz.prog) = true → a ≤ g → g < a + n → (Tryz.prog.funcs[g]?).any Func.goes = false := fun a n h1 h2 h3 => by
    have := List.all_eq_true.1 h1 g (by rw [List.mem_range']; exact ⟨g - a, by omega, by omega⟩)
    simpa [quietAt] using this
  by_cases c0 : 0 ≤ g ∧ g < 50
  · exact h 0 50 quiet0 c0.1 c0.2
  by_cases c1 : 50 ≤ g ∧ g < 100
  · exact h 50 50 quiet1 c1.1 c1.2
  by_cases c2 : 100 ≤ g ∧ g < 150
  · exact h 100 50 quiet2 c2.1 c2.2
  by_cases c3 : 150 ≤ g ∧ g < 200
  · exact h 150 50 quiet3 c3.1 c3.2
  by_cases c4 : 200 ≤ g ∧ g < 250
  · exact h 200 50 quiet4 c4.1 c4.2
  by_cases c5 : 250 ≤ g ∧ g < 300
  · exact h 250 50 quiet5 c5.1 c5.2
  by_cases c6 : 300 ≤ g ∧ g < 350
  · exact h 300 50 quiet6 c6.1 c6.2
  by_cases c7 : 350 ≤ g ∧ g < 400
  · exact h 350 50 quiet7 c7.1 c7.2
  by_cases c8 : 400 ≤ g ∧ g < 450
  · exact h 400 50 quiet8 c8.1 c8.2
  by_cases c9 : 450 ≤ g ∧ g < 500
  · exact h 450 50 quiet9 c9.1 c9.2
  by_cases c10 : 500 ≤ g ∧ g < 550
  · exact h 500 50 quiet10 c10.1 c10.2
  by_cases c11 : 550 ≤ g ∧ g < 581
  · exact h 550 31 quiet11 c11.1 c11.2
  have hs : Tryz.prog.funcs.size = 581 := by kernel_rfl
  rw [Array.getElem?_eq_none (by omega)]
  rfl
theorem goes3 : Tryz.prog.goes 3 = false := by
  have h1 : (Tryz.prog.closure 3).any (fun g => (Tryz.prog.funcs[g]?).any Func.goes) = false := List.any_eq_false.2 fun g _ => by simp [quietAll g]
  have h2 : Tryz.prog.funcs.any Func.goes = false := by
    rw [← Array.any_toList]
    refine List.any_eq_false.2 fun f hf => ?_
    obtain ⟨i, hi, e⟩ := List.getElem_of_mem hf
    have := quietAll i
    rw [Array.getElem?_eq_getElem (by simpa using hi)] at this
    simp only [Option.any_some] at this
    rw [← e]
    simpa using this
  unfold Program.goes
  rw [h1, h2, Bool.and_false, Bool.or_false]
theorem pinned_prog : Tryz.pinned.checked.prog = Tryz.prog := rfl
theorem goes3' : Tryz.pinned.checked.prog.goes 3 = false := by
  rw [pinned_prog]
  exact goes3
theorem goes_key (P : Program) (c : OpenClaim) (fu : String) (h1 : c.start = .entering) (hf : c.func = fu) (h2 : P.funcNamed fu = some 3) (h3 : P.goes 3 = false) : false = c.goesBy P := by
  simp [OpenClaim.goesBy, Program.goesAt, Program.goesFrom, h1, hf, h2, h3]
theorem cdG : false = Rows.chainKnownRow.goesBy Tryz.pinned.checked.prog := goes_key Tryz.pinned.checked.prog Rows.chainKnownRow _ rfl rfl fNamed goes3'
end Go.Proofs.YtcoagfnkcbfbaaaGreatDoor
