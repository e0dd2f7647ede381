/-
  Whether a transaction may be: the document's answer.
-/
import Derived.Test.YtpieckeaehninaaBase
namespace Go.Proofs.Ytpieckeaehninaa
open Go.RowKit

set_option maxRecDepth 100000 in
set_option maxHeartbeats 1600000 in
theorem refMay_any (t : Txn) (w : World) (hk0 : 0 ≤ t.k) :
    Calls Try.prog 8 #[.agg t.cells] w fun e w' => e = .returned (.int .i64 t.may) ∧ w.alloc (.cells t.cells 27) = w' := by
  have hm : t.may = (if t.k = 1 then (if t.len = 0 then 0 else 2)
    else if t.k = 2 then (if t.toZ then (if t.len ≤ 65536 then 0 else 3) else 2)
    else if t.k = 3 then (if t.len ≤ 4096 then 0 else 3)
    else 2) := rfl
  have htz : t.toZ = (t.t0 == 0 && t.t1 == 0 && t.t2 == 0 && t.t3 == 0 && t.t4 == 0 && t.t5 == 0 && t.t6 == 0 && t.t7 == 0) := rfl
  have HM := Lib.hid hm
  have HZ := Lib.hid htz
  clear hm htz
  go_enter Try.func8, Try.ntmps8
  go_wp2
  all_goals
    go_ret
    refine ⟨?_, rfl⟩
    rw [HM.out, HZ.out]
    simp_all
    try omega

end Go.Proofs.Ytpieckeaehninaa
