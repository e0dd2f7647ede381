/-
  What a transaction takes at least, and what it costs at most: the program's answers.
-/
import Derived.Test.YtpieckeaehninaaBase
import Derived.Test.YtpieckeaehninaaShelf
namespace Go.Proofs.Ytpieckeaehninaa
open Go.RowKit

def Txn.least (t : Txn) : Int := 1000 + (if t.k = 2 then 24 else 4) * (t.len : Int)

set_option maxHeartbeats 400000 in
theorem least_any (t : Txn) (w : World) (hl : t.len ≤ 140737488355328) :
    Calls Try.prog 12 #[.agg t.cells] w fun e w' => e = .returned (.int .u64 t.least) ∧ w.alloc (.cells t.cells 27) = w' := by
  have hm : t.least = 1000 + (if t.k = 2 then 24 else 4) * (t.len : Int) := rfl
  have HM := Lib.hid hm
  clear hm
  go_enter Try.func12, Try.ntmps12
  go_wp2
  all_goals
    go_ret
    refine ⟨?_, rfl⟩
    rw [HM.out]
    simp_all
    try omega

theorem call19 (x y : Int) (hx : 0 ≤ x) (hy : 0 ≤ y) (w : World) : (callFunc 19 #[.int .u64 x, .int .u64 y, .int .u64 0]).run Try.prog w =
    .ok (.value (.tuple #[.int .u64 ((x + y) % 18446744073709551616), .int .u64 ((x + y) / 18446744073709551616)])) w := by
  rw [run_callFunc_extern Try.func19 (by kernel_rfl) (by kernel_rfl) (by kernel_rfl) (e := add64Entry) (by kernel_rfl), run_add64 x y 0 hx hy (by omega) (by omega), Int.add_zero]
  rfl

/-- what it costs at most -/
def Txn.cost (t : Txn) : Int := t.g * t.p + t.v
def Txn.most (t : Txn) : Int := if t.cost < 18446744073709551616 then t.cost else 0
def Txn.mostOk (t : Txn) : Bool := decide (t.cost < 18446744073709551616)

set_option maxHeartbeats 400000 in
theorem most_any (t : Txn) (w : World) (hw : t.Wf) :
    Calls Try.prog 9 #[.agg t.cells] w fun e w' => e = .returned (.tuple #[.int .u64 t.most, .bool t.mostOk]) ∧ w.alloc (.cells t.cells 27) = w' := by
  obtain ⟨x, hx⟩ := Int.eq_ofNat_of_zero_le hw.gl
  obtain ⟨y, hy⟩ := Int.eq_ofNat_of_zero_le hw.pl
  have hx2 : x < 18446744073709551616 := by have := hw.gu; omega
  have hy2 : y < 18446744073709551616 := by have := hw.pu; omega
  obtain ⟨m, hm⟩ : ∃ m : Nat, m = x * y := ⟨_, rfl⟩
  have hcost : t.cost = (m : Int) + t.v := by rw [Txn.cost, hx, hy, hm]; simp
  have HC := Lib.hid hcost
  have hv := hw.vl
  have HB := Try.bits_Mul64 x y hx2 hy2
  rw [← hm] at HB
  clear hcost
  have HM := Lib.hid hm
  clear hm hw
  have HB' := Lib.hid HB
  clear HB
  have H19 := call19 ((m % 18446744073709551616 : Nat) : Int) t.v (by omega) hv
  simp only [Int.natCast_emod, Int.cast_ofNat_Int] at H19
  by_cases hc : (m : Int) + t.v < 18446744073709551616
  · have h1 : ((m : Int) / 18446744073709551616) ≤ 0 := by omega
    have h2 : ((m : Int) % 18446744073709551616 + t.v) / 18446744073709551616 ≤ 0 := by omega
    have h3 : ((m : Int) + t.v) % 18446744073709551616 = (m : Int) + t.v := by omega
    have H3 := Lib.hid h3
    have HCC := Lib.hid hc
    clear h3 hc
    go_enter Try.func9, Try.ntmps9
    go_wp2_with (go_at_call 18; refine (HB'.out _).mono ?_; rintro e w' ⟨rfl, rfl⟩)
    all_goals first
      | (exfalso; omega)
      | (go_ret2
         refine ⟨?_, rfl⟩
         rw [H3.out, Txn.most, Txn.mostOk, HC.out, if_pos HCC.out, decide_eq_true HCC.out]
         rfl)
  · have hcn : ¬ t.cost < 18446744073709551616 := by rw [HC.out]; exact hc
    have HMO := Lib.hid (show t.most = 0 from if_neg hcn)
    have HOK := Lib.hid (show t.mostOk = false from decide_eq_false hcn)
    clear hcn
    by_cases h1 : 0 < ((m : Int) / 18446744073709551616)
    · clear hc
      go_enter Try.func9, Try.ntmps9
      go_wp2_with (go_at_call 18; refine (HB'.out _).mono ?_; rintro e w' ⟨rfl, rfl⟩)
      all_goals first
        | (exfalso; omega)
        | (go_ret2
           refine ⟨?_, rfl⟩
           rw [HMO.out, HOK.out]
           rfl)
    · have h2 : 0 < ((m : Int) % 18446744073709551616 + t.v) / 18446744073709551616 := by omega
      clear hc
      go_enter Try.func9, Try.ntmps9
      go_wp2_with (go_at_call 18; refine (HB'.out _).mono ?_; rintro e w' ⟨rfl, rfl⟩)
      all_goals first
        | (exfalso; omega)
        | (go_ret2
           refine ⟨?_, rfl⟩
           rw [HMO.out, HOK.out]
           rfl)

end Go.Proofs.Ytpieckeaehninaa
