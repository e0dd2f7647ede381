/-
  What a transaction costs at most: the document's answer.
-/
import Derived.Test.YtpieckeaehninaaLeast
namespace Go.Proofs.Ytpieckeaehninaa
open Go.RowKit

set_option maxHeartbeats 800000 in
theorem refMost_any (t : Txn) (w : World) (hw : t.Wf) :
    Calls Try.prog 10 #[.agg t.cells] w fun e w' => e = .returned (.tuple #[.int .u64 t.most, .bool t.mostOk]) ∧ Below w.heap.size w w' := by
  have hg := hw.gl
  have hg2 := hw.gu
  have hp := hw.pl
  have hp2 := hw.pu
  have hv := hw.vl
  have hv2 := hw.vu
  have hcost : t.cost = t.g * t.p + t.v := rfl
  clear hw
  by_cases h0 : 0 < t.p
  · have hd0 : decide (0 < t.p) = true := decide_eq_true h0
    have hmod : t.p * (18446744073709551615 / t.p) + 18446744073709551615 % t.p = 18446744073709551615 := Int.mul_ediv_add_emod _ _
    have hr0 := Int.emod_nonneg 18446744073709551615 (show t.p ≠ 0 by omega)
    have hr1 := Int.emod_lt_of_pos 18446744073709551615 h0
    have hq0 : 0 ≤ 18446744073709551615 / t.p := Int.ediv_nonneg (by omega) hp
    have ht : Int.tdiv 18446744073709551615 t.p = 18446744073709551615 / t.p := Int.tdiv_eq_ediv_of_nonneg (by omega)
    by_cases h1 : 18446744073709551615 / t.p < t.g
    · have hbig : ¬ t.cost < 18446744073709551616 := by
        have hm : (18446744073709551615 / t.p + 1) * t.p ≤ t.g * t.p := Int.mul_le_mul_of_nonneg_right (by omega) hp
        rw [Int.add_mul, Int.one_mul, Int.mul_comm] at hm
        omega
      have HMO := Lib.hid (show t.most = 0 from if_neg hbig)
      have HOK := Lib.hid (show t.mostOk = false from decide_eq_false hbig)
      have hd1 : decide (Int.tdiv 18446744073709551615 t.p < t.g) = true := by rw [ht]; exact decide_eq_true h1
      have hd2 : decide (18446744073709551615 / t.p < t.g) = true := decide_eq_true h1
      clear hbig hcost hmod hr0 hr1 hq0 ht
      go_enter Try.func10, Try.ntmps10
      go_wp2
      go_quiet (fail)
      go_wp2
      go_ret2
      exact ⟨by rw [HMO.out, HOK.out]; rfl, below_drewN ((Below.refl _ _).alloc (Nat.le_refl _) _) _⟩
    · have hle : t.g * t.p ≤ 18446744073709551615 := by
        have hm : t.g * t.p ≤ (18446744073709551615 / t.p) * t.p := Int.mul_le_mul_of_nonneg_right (by omega) hp
        rw [Int.mul_comm (18446744073709551615 / t.p)] at hm
        omega
      have hm0 : 0 ≤ t.g * t.p := Int.mul_nonneg hg hp
      have hd1 : decide (Int.tdiv 18446744073709551615 t.p < t.g) = false := by rw [ht]; exact decide_eq_false h1
      have hd2 : decide (18446744073709551615 / t.p < t.g) = false := decide_eq_false h1
      clear hmod hr0 hr1 hq0 ht
      have hwr : IntKind.u64.wrap (t.g * t.p) = t.g * t.p := by
        simp only [IntKind.wrap_u64]
        exact Int.emod_eq_of_lt hm0 (by omega)
      obtain ⟨m, hm⟩ : ∃ m, m = t.g * t.p := ⟨_, rfl⟩
      rw [← hm] at hle hm0 hcost hwr
      have hwr' : IntKind.u64.wrap (t.g * t.p) = m := by rw [← hm]; exact hwr
      clear hwr hm
      by_cases h2 : 18446744073709551615 - m < t.v
      · have hbig : ¬ t.cost < 18446744073709551616 := by omega
        have HMO := Lib.hid (show t.most = 0 from if_neg hbig)
        have HOK := Lib.hid (show t.mostOk = false from decide_eq_false hbig)
        clear hbig hcost
        go_enter Try.func10, Try.ntmps10
        go_wp2
        go_quiet (fail)
        go_wp2
        go_ret2
        exact ⟨by rw [HMO.out, HOK.out]; rfl, below_drewN ((Below.refl _ _).alloc (Nat.le_refl _) _) _⟩
      · have hlt : t.cost < 18446744073709551616 := by omega
        have HMO := Lib.hid (show t.most = m + t.v from (if_pos hlt).trans hcost)
        have HOK := Lib.hid (show t.mostOk = true from decide_eq_true hlt)
        clear hlt hcost
        go_enter Try.func10, Try.ntmps10
        go_wp2
        go_quiet (fail)
        go_wp2
        go_ret2
        exact ⟨by rw [HMO.out, HOK.out]; rfl, below_drewN ((Below.refl _ _).alloc (Nat.le_refl _) _) _⟩
  · have hz : t.p = 0 := by omega
    have hlt : t.cost < 18446744073709551616 := by rw [hcost, hz]; omega
    have hco : t.cost = t.v := by rw [hcost, hz]; omega
    have HMO := Lib.hid (show t.most = t.v from (if_pos hlt).trans hco)
    have HOK := Lib.hid (show t.mostOk = true from decide_eq_true hlt)
    have hd0 : decide (0 < t.p) = false := decide_eq_false h0
    have hwr' : IntKind.u64.wrap (t.g * t.p) = 0 := by rw [hz]; simp [IntKind.wrap_u64]
    clear hlt hcost hco hz
    go_enter Try.func10, Try.ntmps10
    go_wp2
    go_quiet (fail)
    go_wp2
    go_ret2
    exact ⟨by rw [HMO.out, HOK.out]; rfl, below_drewN ((Below.refl _ _).alloc (Nat.le_refl _) _) _⟩

end Go.Proofs.Ytpieckeaehninaa
