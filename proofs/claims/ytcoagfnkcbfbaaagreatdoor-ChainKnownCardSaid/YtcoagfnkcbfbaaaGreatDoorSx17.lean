/-
  The run of the chapter's examples: the runner's word, asked of the kernel; what it tells of the program.
-/
import Derived.Test.YtcoagfnkcbfbaaaGreatDoorTab
import Derived.Test.YtcoagfnkcbfbaaaGreatDoorSx14
import Derived.Test.YtcoagfnkcbfbaaaGreatDoorSx16
namespace Go.Proofs.YtcoagfnkcbfbaaaGreatDoor
open Go.RowKit

def k1 : List Int := [0, 0, 0, 0, 0, 0, 0, 1]
def k2 : List Int := [0, 0, 0, 0, 0, 0, 0, 2]
def k9 : List Int := [0, 0, 0, 0, 0, 0, 0, 9]
def kL : List (Nat × List (List Int)) := [(70, [k1]), (70, [k1, k2, k9])]
noncomputable def ext0 : Nat → Option (List SV → M SV) := fun g => pickR g [(65, pureX Tryz.prog add64Entry), (64, cmpX)]
noncomputable def extC : Nat → Option (List SV → M SV) := fun g => pickR g [(65, pureX Tryz.prog add64Entry), (64, cmpX), (68, sortedX [103, 105] [70, 74] 23 kL), (35, allNilX)]

theorem givenAdd : GivenBy Tryz.prog 65 add64Entry := fun args w => run_callFunc_extern Tryz.func65 (by kernel_rfl) (by kernel_rfl) (by kernel_rfl) (e := add64Entry) (by kernel_rfl) args w
theorem givenCmp : GivenBy Tryz.prog 64 Extern.BytealgCompare.compare := fun args w => run_callFunc_extern Tryz.func64 (by kernel_rfl) (by kernel_rfl) (by kernel_rfl) (e := Extern.BytealgCompare.compare) (by kernel_rfl) args w
theorem ext0_ok (base : Nat) (w0 : World) : ExtOk Tryz.prog base w0 ext0 := extOk_of (by
  intro x hx
  simp only [List.mem_cons, List.not_mem_nil, or_false] at hx
  rcases hx with rfl | rfl
  · exact pureX_ok givenAdd
  · exact cmpX_ok givenCmp)

set_option maxRecDepth 1000000
theorem nilA : SortsNil dt ext0 1000 37 (.fn (.func 70) [] []) := sortsNil_of (by kernel_rfl)
theorem nilB : SortsNil dt ext0 1000 37 (.fn (.func 74) [] []) := sortsNil_of (by kernel_rfl)
theorem nilK : SortsNil dt ext0 1000 37 (.fn (.func 72) [] []) := sortsNil_of (by kernel_rfl)
theorem sorts1 : ∀ ss ∈ perms [k1], SortsTo dt ext0 1000 37 (.fn (.func 70) [] []) 23 ss [k1] := by
  intro ss hss
  rw [show perms [k1] = [[k1]] from rfl] at hss
  simp only [List.mem_cons, List.not_mem_nil, or_false] at hss
  subst hss
  exact sortsTo_of (by kernel_rfl)
theorem sorts3 : ∀ ss ∈ perms [k1, k2, k9], SortsTo dt ext0 1000 37 (.fn (.func 70) [] []) 23 ss [k1, k2, k9] := by
  intro ss hss
  rw [show perms [k1, k2, k9] = [[k1, k2, k9], [k2, k1, k9], [k2, k9, k1], [k1, k9, k2], [k9, k1, k2], [k9, k2, k1]] from rfl] at hss
  simp only [List.mem_cons, List.not_mem_nil, or_false] at hss
  rcases hss with rfl | rfl | rfl | rfl | rfl | rfl
  · exact sortsTo_of (by kernel_rfl)
  · exact sortsTo_of (by kernel_rfl)
  · exact sortsTo_of (by kernel_rfl)
  · exact sortsTo_of (by kernel_rfl)
  · exact sortsTo_of (by kernel_rfl)
  · exact sortsTo_of (by kernel_rfl)

theorem extC_ok (base : Nat) (w0 : World) : ExtOk Tryz.prog base w0 extC := extOk_of (by
  intro x hx
  simp only [List.mem_cons, List.not_mem_nil, or_false] at hx
  rcases hx with rfl | rfl | rfl | rfl
  · exact pureX_ok givenAdd
  · exact cmpX_ok givenCmp
  · refine sortedX_ok (D := dt) (ext := ext0) (f := 1000) (gc := 102) (gs := 37) dt_ok dt_names (fun w => ext0_ok _ w) rfl (fun Vs w => run_enter Tryz.func68 rfl (by decide) Vs w) ?_ chainOk ?_ ?_
    · intro g hg
      simp only [List.mem_cons, List.not_mem_nil, or_false] at hg
      rcases hg with rfl | rfl
      · exact collectOk103
      · exact collectOk105
    · intro c hc
      simp only [List.mem_cons, List.not_mem_nil, or_false] at hc
      rcases hc with rfl | rfl
      · exact nilA
      · exact nilB
    · intro y hy
      simp only [kL, List.mem_cons, List.not_mem_nil, or_false] at hy
      rcases hy with rfl | rfl
      · exact sorts1
      · exact sorts3
  · exact allNilX_ok (fun Vs w => run_enter Tryz.func35 rfl (by decide) Vs w) (allNil fun w => sortsNil_calls dt_ok dt_names nilK rfl (ext0_ok _ w) (fun _ => .fn .nil .nil) (Below.refl _ _)))

theorem chain_run : tellsT ((callM dt extC (exec dt extC 5000) 3 []).run 0 .lf) = true := by kernel_rfl
/-- the chapter's examples: true, whatever the world; nothing that lay in it has turned -/
theorem chain_true (w : World) : Calls Tryz.prog 3 #[] w fun e w' => e = .returned (.bool true) ∧ Below w.heap.size w w' := by
  obtain ⟨n, h, F, hx⟩ := tellsT_of chain_run
  exact run_tells dt_ok dt_names (fun w => extC_ok _ w) rfl hx
#print axioms chain_true
end Go.Proofs.YtcoagfnkcbfbaaaGreatDoor
