/-
  The three laws, walked: each answers true, whatever transaction or bytes come in.
-/
import Derived.Test.YtpieckeaehninaaKnown
import Derived.Test.YtpieckeaehninaaBytes
namespace Go.Proofs.Ytpieckeaehninaa
open Go.RowKit

/-- a load of a whole transaction, as one word for the walk -/
def load27 (x : Value) : Sem Value := Instr.loadAt 27 x
theorem load27_of (x : Value) : Instr.loadAt 27 x = load27 x := rfl
/-- the cells of the transaction that lies at a block -/
def txAt (w : World) (g : Nat) : Option (Array Value) :=
  match w.heap[g]? with
  | some (.cells cs 27 (0, 0)) => if cs.size = 22 then some cs else none
  | _ => none
theorem txAt_of {w : World} {g : Nat} {t : Txn} (h : Boxed w g t) : txAt w g = some t.cells := by
  unfold Boxed Blk at h
  simp [txAt, h]
theorem txAt_drew (w : World) (g : Nat) : txAt w.drew g = txAt w g := rfl
theorem run_load27 (w : World) (g : Nat) (h : (txAt w g).isSome = true) : (load27 (.pointer (some ⟨g, 0, none⟩))).run Try.prog w = .ok (.agg ((txAt w g).getD #[])) w := by
  unfold txAt at h ⊢
  split at h
  · next cs hg =>
    by_cases hs : cs.size = 22
    · simp only [hs, if_true, Option.getD_some]
      have hl := run_loadVar_row (P := Try.prog) w g 27 27 cs (0, 0) _ hg Try.underlying27 rfl (by rw [hs]; kernel_rfl)
      simp only [load27, Instr.loadAt, Instr.sureAddr, Sem.run_bind, Sem.run_pure, Result.andThen_ok, hl]
    · simp [hs] at h
  · simp at h
attribute [local go_sem ↓] load27_of
attribute [local go_sem] run_load27 txAt_drew

theorem may_len {t : Txn} (h : t.may = 0) : t.len ≤ 65536 := by
  unfold Txn.may at h
  split at h
  · split at h <;> omega
  · split at h
    · split at h
      · split at h <;> omega
      · omega
    · split at h
      · split at h <;> omega
      · omega

theorem refMost_bel (t : Txn) (w : World) (hw : t.Wf) : Calls Try.prog 10 #[.agg t.cells] w fun e w' => e = .returned (.tuple #[.int .u64 t.most, .bool t.mostOk]) ∧ Below w.heap.size w w' := refMost_any t w hw
theorem most_bel (t : Txn) (w : World) (hw : t.Wf) : Calls Try.prog 9 #[.agg t.cells] w fun e w' => e = .returned (.tuple #[.int .u64 t.most, .bool t.mostOk]) ∧ Below w.heap.size w w' := by
  refine (most_any t w hw).mono ?_
  rintro e w' ⟨rfl, rfl⟩
  exact ⟨rfl, (Below.refl _ _).alloc (Nat.le_refl _) _⟩
theorem least_bel (t : Txn) (w : World) (hl : t.len ≤ 140737488355328) : Calls Try.prog 12 #[.agg t.cells] w fun e w' => e = .returned (.int .u64 t.least) ∧ Below w.heap.size w w' := by
  refine (least_any t w hl).mono ?_
  rintro e w' ⟨rfl, rfl⟩
  exact ⟨rfl, (Below.refl _ _).alloc (Nat.le_refl _) _⟩

/-- how a law stands: the boxed argument, what is behind it -/
structure LawSt (w wk : World) (t : Txn) (d : List Int) : Prop where
  box : Boxed wk w.heap.size t
  reads : Reads wk w.heap.size 1 t.a t.len (u8s d)
  bel : Below w.heap.size w wk
theorem LawSt.step {w wk wl : World} {t : Txn} {d : List Int} (h : LawSt w wk t d) (hb : Below wk.heap.size wk wl) : LawSt w wl t d :=
  ⟨h.box.below hb (Blk.lt h.box), h.reads.below (hb.mono h.bel.size), h.bel.trans (hb.mono h.bel.size)⟩
theorem LawSt.new (w : World) (t : Txn) (d : List Int) (h : Reads w w.heap.size 1 t.a t.len (u8s d)) : LawSt w (w.alloc (.cells t.cells 27)) t d :=
  ⟨Boxed.new w t, h.alloc (Nat.le_refl _) _, (Below.refl _ _).alloc (Nat.le_refl _) _⟩

theorem LawSt.drew {w wk : World} {t : Txn} {d : List Int} (h : LawSt w wk t d) : LawSt w wk.drew t d := ⟨h.box, h.reads, h.bel.drew⟩
theorem bytes_form (t : Txn) (d : List Int) (w : World) (hw : t.Wf) (hd : Reads w w.heap.size 1 t.a t.len (u8s d)) (hl : t.len ≤ 100000) :
    Calls Try.prog 13 #[.agg t.cells] w fun e w' => ∃ A n c, e = .returned (.slice A n c) ∧ Out w w' (.slice A n c) (t.bytes d) := by
  refine (bytes_any t d w hw hd hl).mono ?_
  rintro e w' ⟨v, rfl, out⟩
  obtain ⟨A, c, rfl, _⟩ := out.form
  exact ⟨A, _, c, rfl, out⟩

set_option maxHeartbeats 3200000 in
set_option maxRecDepth 100000 in
theorem txPuts_any (t : Txn) (d : List Int) (w : World) (hw : t.Wf) (hd : Reads w w.heap.size 1 t.a t.len (u8s d)) :
    Calls Try.prog 3 #[.agg t.cells] w fun e w' => e = .returned (.bool true) ∧ Below w.heap.size w w' := by
  have ST0 := Lib.hid (LawSt.new w t d hd)
  have HW := Lib.hid hw
  clear hd hw
  by_cases hbig : 100000 < t.len
  · go_enter Try.func3, Try.ntmps3
    go_wp2_with fail
    refine (known_any _).mono ?_
    rintro e w1 ⟨rfl, hb1⟩
    have ST1 := Lib.hid (ST0.out.step hb1)
    have c21 := ST1.out.box.cell 21
    clear hb1
    go_wp2
    go_ret
    exact ⟨rfl, ST1.out.bel⟩
  · have hlen : t.len ≤ 140737488355328 := by omega
    by_cases hmay : t.may = 0
    · have hl64 := may_len hmay
      have HM := Lib.hid hmay
      clear hmay
      go_enter Try.func3, Try.ntmps3
      go_wp2_with fail
      refine (known_any _).mono ?_
      rintro e w1 ⟨rfl, hb1⟩
      have ST1 := Lib.hid (ST0.out.step hb1)
      have c21 := ST1.out.box.cell 21
      have x1 := txAt_of ST1.out.box
      clear hb1
      go_wp2_with fail
      refine (put_form t d _ HW.out HM.out (ST1.out.reads.more ST1.out.bel.size) hl64).mono ?_
      rintro e w2 ⟨ad, c, rfl, out2, hc1, hc2⟩
      have OUT2 := Lib.hid out2
      have ST2 := Lib.hid (ST1.out.step out2.bel)
      have x2 := txAt_of ST2.out.box
      clear out2 c21 x1
      go_wp2_with fail
      refine (refMay_bel t 0 _ HW.out.k0 HM.out).mono ?_
      rintro e w3 ⟨rfl, hb3⟩
      have OUT3 := Lib.hid (OUT2.out.kept hb3)
      have ST3 := Lib.hid (ST2.out.step hb3)
      have x3 := txAt_of ST3.out.box
      clear hb3 x2
      go_wp2_with fail
      refine (most_bel t _ HW.out).mono ?_
      rintro e w4 ⟨rfl, hb4⟩
      have OUT4 := Lib.hid (OUT3.out.kept hb4)
      have ST4 := Lib.hid (ST3.out.step hb4)
      have x4 := txAt_of ST4.out.box
      clear hb4 x3
      go_wp2_with fail
      refine (refMost_bel t _ HW.out).mono ?_
      rintro e w5 ⟨rfl, hb5⟩
      have OUT5 := Lib.hid (OUT4.out.kept hb5)
      have ST5 := Lib.hid (ST4.out.step hb5)
      have x5 := txAt_of ST5.out.box
      have c21 := ST5.out.box.cell 21
      have c0 := ST5.out.box.cell 0
      clear hb5 x4
      have hr8 : (t.bytes d).length = 53 + t.len := by rw [bytes_length]; have := ST5.out.reads.1; rw [u8s_length] at this; omega
      have HR8 := Lib.hid hr8
      clear hr8
      go_wp2_with fail
      all_goals
        first
          | have hk : t.k = 2 := by simpa using (by assumption : (t.k == 2) = true)
            have hle : t.least = 1000 + 24 * (t.len : Int) := by rw [Txn.least, if_pos hk]
            have HLE := Lib.hid hle
            clear hle hk
          | have hk : t.k ≠ 2 := by simpa using (by assumption : (t.k == 2) = false)
            have hle : t.least = 1000 + 4 * (t.len : Int) := by rw [Txn.least, if_neg hk]
            have HLE := Lib.hid hle
            clear hle hk
        refine (may_bel t 0 _ HM.out).mono ?_
        rintro e w6 ⟨rfl, hb6⟩
        have OUT6 := Lib.hid (OUT5.out.kept hb6)
        have ST6 := Lib.hid (ST5.out.step hb6)
        have x6 := txAt_of ST6.out.box
        clear hb6 x5 c21 c0
        go_wp2_with fail
        refine (least_bel t _ hlen).mono ?_
        rw [HLE.out]
        rintro e w7 ⟨rfl, hb7⟩
        have OUT7 := Lib.hid (OUT6.out.kept hb7)
        have ST7 := Lib.hid (ST6.out.step hb7)
        have x7 := txAt_of ST7.out.box
        clear hb7 x6
        go_wp2_with fail
        have hcv7 := run_str c OUT7.out.reads.drew
        go_region_law (go_simp; go_at_call 13; refine (bytes_form t d _ HW.out (ST7.out.reads.drew.more ST7.out.bel.size) (by omega)).mono ?_; rintro e w8 ⟨A8, n8, c8, rfl, out8⟩; have hcv8 := run_str c (OUT7.out.drew.kept (w' := w8) out8.bel).reads; have hcr8 := run_str c8 out8.reads; have ST8 := Lib.hid ((LawSt.drew ST7.out).step out8.bel))
        all_goals
          go_wp2
          go_ret
          exact ⟨by first | rfl | simp, ST8.out.bel⟩
    · obtain ⟨e0, hE0⟩ : ∃ e0, t.may = e0 := ⟨_, rfl⟩
      rw [hE0] at hmay
      have HM := Lib.hid hE0
      have he0 : (e0 != 0) = true := by simpa using hmay
      have he1 : (e0 == 0) = false := by simpa using hmay
      have HNE := Lib.hid hmay
      clear hmay hE0
      go_enter Try.func3, Try.ntmps3
      go_wp2_with fail
      refine (known_any _).mono ?_
      rintro e w1 ⟨rfl, hb1⟩
      have ST1 := Lib.hid (ST0.out.step hb1)
      have c21 := ST1.out.box.cell 21
      have x1 := txAt_of ST1.out.box
      clear hb1
      go_wp2_with fail
      refine (put_bad t e0 _ HM.out HNE.out).mono ?_
      rintro e w2 ⟨rfl, hb2⟩
      have ST2 := Lib.hid (ST1.out.step hb2)
      have x2 := txAt_of ST2.out.box
      clear hb2 c21 x1
      go_wp2_with fail
      refine (refMay_bel t e0 _ HW.out.k0 HM.out).mono ?_
      rintro e w3 ⟨rfl, hb3⟩
      have ST3 := Lib.hid (ST2.out.step hb3)
      have x3 := txAt_of ST3.out.box
      clear hb3 x2
      go_wp2_with fail
      refine (most_bel t _ HW.out).mono ?_
      rintro e w4 ⟨rfl, hb4⟩
      have ST4 := Lib.hid (ST3.out.step hb4)
      have x4 := txAt_of ST4.out.box
      clear hb4 x3
      go_wp2_with fail
      refine (refMost_bel t _ HW.out).mono ?_
      rintro e w5 ⟨rfl, hb5⟩
      have ST5 := Lib.hid (ST4.out.step hb5)
      have x5 := txAt_of ST5.out.box
      have c21 := ST5.out.box.cell 21
      have c0 := ST5.out.box.cell 0
      clear hb5 x4
      go_wp2_with fail
      all_goals
        first
          | have hk : t.k = 2 := by simpa using (by assumption : (t.k == 2) = true)
            have hle : t.least = 1000 + 24 * (t.len : Int) := by rw [Txn.least, if_pos hk]
            have HLE := Lib.hid hle
            clear hle hk
          | have hk : t.k ≠ 2 := by simpa using (by assumption : (t.k == 2) = false)
            have hle : t.least = 1000 + 4 * (t.len : Int) := by rw [Txn.least, if_neg hk]
            have HLE := Lib.hid hle
            clear hle hk
        refine (may_bel t e0 _ HM.out).mono ?_
        rintro e w6 ⟨rfl, hb6⟩
        have ST6 := Lib.hid (ST5.out.step hb6)
        have x6 := txAt_of ST6.out.box
        clear hb6 x5 c21 c0
        go_wp2_with fail
        refine (least_bel t _ hlen).mono ?_
        rw [HLE.out]
        rintro e w7 ⟨rfl, hb7⟩
        have ST7 := Lib.hid (ST6.out.step hb7)
        clear hb7 x6
        go_wp2
        go_ret
        exact ⟨by first | rfl | simp, ST7.out.bel⟩

end Go.Proofs.Ytpieckeaehninaa
