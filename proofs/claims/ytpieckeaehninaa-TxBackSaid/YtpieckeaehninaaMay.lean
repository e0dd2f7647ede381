/-
  Whether a transaction may be: the program's and the document's answer are the same number.
-/
import Derived.Test.YtpieckeaehninaaBase
namespace Go.Proofs.Ytpieckeaehninaa
open Go.RowKit
attribute [local go_sem] equal23 build23

set_option maxHeartbeats 400000 in
theorem may_any (t : Txn) (w : World) :
    Calls Try.prog 11 #[.agg t.cells] w fun e w' => e = .returned (.int .i64 t.may) ∧ w.alloc (.cells t.cells 27) = w' := by
  have hm : t.may = (if t.k = 1 then (if t.len = 0 then 0 else 2)
    else if t.k = 2 then (if same8 t.t0 t.t1 t.t2 t.t3 t.t4 t.t5 t.t6 t.t7 0 0 0 0 0 0 0 0 then (if t.len ≤ 65536 then 0 else 3) else 2)
    else if t.k = 3 then (if t.len ≤ 4096 then 0 else 3)
    else 2) := rfl
  have HM := Lib.hid hm
  clear hm
  go_enter Try.func11, Try.ntmps11
  go_wp2
  all_goals
    go_ret
    refine ⟨?_, rfl⟩
    rw [HM.out]
    simp_all
    try omega

end Go.Proofs.Ytpieckeaehninaa
