/-
  The statement TxTakesSaid: whatever bytes come in, the function returns true and the bytes read as they did.
-/
import Derived.Test.YtpieckeaehninaaLaw2
import Derived.WalkKit
import Derived.ProofKit
import Derived.OpenShut
import Derived.ShutString
import Derived.ChangeOld
import Derived.Below
namespace Go.Proofs.Ytpieckeaehninaa
open Go.ChangeShapes Go.WideShapes Go.ChangeAt Go.RowKit
set_option linter.unusedVariables false

theorem own : ownKnob Try.prog.godebug = none := by kernel_rfl
theorem laidOut : laidOutB Try.prog = true := by kernel_rfl

section
variable {H : Type} {enc : TypeId × Value → H}
/-- a slice of bytes that came in -/
theorem open_bytes_of {W : World} {fuel : Nat} {cs : List Value} {x : DataW H × List MemPlace} (hf : DataW.trod enc Try.prog W 0 (fun _ => true) true fuel 25 cs = some x) :
    ∃ (a : Option Addr) (len cap : Nat) (bs : List Int), cs = [.slice a len cap] ∧ len ≤ cap ∧ cap ≤ maxLen ∧ Okb bs ∧ Reads W W.heap.size 1 a len (u8s bs) := by
  have lt0 : ∀ y ∈ x.2, y.block < W.heap.size := DataW.trod_lt _ _ _ _ hf
  rcases open_ints Try.underlying25 Try.underlying5 (by kernel_rfl) hf with ⟨rfl, _⟩ | ⟨x0, len0, cap0, zs, rfl, _, hl, hm, hz, hx, hcell, hwz⟩
  · exact ⟨none, 0, 0, [], rfl, by omega, by simp [maxLen], by simp [Okb], by simpa [u8s] using Reads.none_⟩
  · simp at hz
    refine ⟨some x0, len0, cap0, zs.take len0, rfl, hl, hm, fun n hn => ?_, ?_, fun hn => ⟨x0, rfl, ?_, fun j u hu => ?_⟩⟩
    · have := hwz n (List.mem_of_mem_take hn)
      simpa [Lit.wf, IntKind.min, IntKind.max, IntKind.signed, IntKind.bits] using this
    · simp [u8s]; omega
    · have hp : MemPlace.cell x0.block (x0.off + 0) ∈ x.2 := by
        rw [hx]
        exact List.mem_map.2 ⟨0, by simp; omega, rfl⟩
      exact lt0 _ hp
    · rw [u8s, List.map_take, List.getElem?_take] at hu
      split at hu
      · simp at hu
        obtain ⟨z, hz', rfl⟩ := hu
        obtain ⟨hj, hz'⟩ := List.getElem?_eq_some_iff.1 hz'
        have := hcell j hj
        simpa [hj, hz'] using this
      · cases hu

theorem open_bytes {W : World} {v : Value} {r : Reach} {b0 : Nat} {d : DataW H} {p : List MemPlace} (hv : Value.okWide Try.prog W r b0 25 v) (h0 : DataW.Trod enc Try.prog W 0 (fun _ => true) true 25 v d p) :
    ∃ (a : Option Addr) (len cap : Nat) (bs : List Int), v = .slice a len cap ∧ len ≤ cap ∧ cap ≤ maxLen ∧ Okb bs ∧ Reads W W.heap.size 1 a len (u8s bs) := by
  obtain ⟨a0, len0, cap0, rfl⟩ := okWide_slice Try.underlying25 hv
  obtain ⟨fuel, hf⟩ := h0
  obtain ⟨a, len, cap, bs, hcs, h⟩ := open_bytes_of hf
  simp [Value.cells] at hcs
  obtain ⟨rfl, rfl, rfl⟩ := hcs
  exact ⟨_, _, _, bs, rfl, h⟩
end

set_option maxRecDepth 100000 in
theorem takes_lifted (os : Os) (started : os.Started) (H : Type) (enc : TypeId × Value → H) :
    ReturnsInHanded {} Try.checked os 4 .any (Rows.txTakesSpec.pre6 enc Try.prog Try.f4 Rows.txTakesRow.domain false) (Rows.txTakesSpec.post enc Try.prog Try.f4 false true false false) := by
  refine returnsInHanded_of_change (C := Try.checked) own started (by kernel_rfl) Try.func4
    (ChangeSpec.witness6 (enc := enc) (C := Try.checked) false ⟨#[], #[.slice none 0 0], []⟩ 8 (by kernel_rfl) (by kernel_rfl) (by kernel_rfl) (by kernel_rfl)) ?_
  intro W base args ds gs before hval0 hW hcnd _
  have hval : ∀ (j : Nat) t v, Try.f4.params[j]? = some t → args[j]? = some v → Value.okWide Try.prog W .any base t v := hval0
  have hW' := hW
  obtain ⟨p, q, hA0, hV, rfl, hfz, hnd⟩ := hW
  have hA : DataW.TrodAll enc Try.prog W 0 (fun _ => true) true Try.f4.params.toList args.toList ds p := hA0
  rw [Try.params4] at hA hval
  obtain ⟨v0, vs0, d0, ds0, p0, q0, hargs, rfl, rfl, h0, r0⟩ := trodAll_cons hA
  obtain ⟨rfl, rfl, rfl⟩ := trodAll_nil r0
  obtain rfl : args = #[v0] := by cases args; simp_all
  obtain ⟨rfl, rfl⟩ := trodVars_none hV
  have lt0 : ∀ x ∈ p0, x.block < W.heap.size := by obtain ⟨m, hm⟩ := h0; exact DataW.trod_lt m _ _ _ hm
  obtain ⟨a0, len0, cap0, bs, rfl, hl, hm, hok, hr⟩ := open_bytes (hval 0 25 v0 rfl rfl) h0
  clear hA0 hval0
  refine (txTakes_any a0 len0 cap0 bs W hr hok hl (by simpa [maxLen] using hm)).mono fun e W' ⟨he, bel⟩ => ?_
  subst he
  exact ⟨_, rfl, _, _, _, [], _, [], hW', trodAll_mk1 (shut_bool Try.underlying4 _), (trodAll_cons_mk (Below.trod laidOut (by kernel_rfl) (of_decide_eq_true (by kernel_rfl)) h0 bel lt0) trodAll_mk0), rfl, bel.frame _, fun h => by cases h⟩

theorem takes_over : Rows.txTakesRow.holds Try.pinned (OpenSpec.ofChange Rows.txTakesSpec) :=
  OpenClaim.holds_of_wide 4 Try.f4 rfl rfl rfl rfl rfl rfl rfl ⟨rfl, rfl, rfl, rfl, rfl⟩ rfl rfl rfl rfl rfl (by kernel_rfl) Try.func4 (by kernel_rfl)
    (of_decide_eq_true (by kernel_rfl)) (by unfold Func.isWrapper; first | (rw [if_pos (by decide +kernel)]; kernel_rfl) | (rw [if_neg (by decide +kernel)]; exact ⟨rfl, rfl⟩))
    (fun os started H enc _ => takes_lifted os started H enc)

theorem txTakes_proved : Rows.TxTakesSaid := takes_over
#print axioms txTakes_proved
end Go.Proofs.Ytpieckeaehninaa
