/-
  A transaction's bytes: the program's 'Put'.
-/
import Derived.Test.YtpieckeaehninaaOut
import Derived.Test.YtpieckeaehninaaMay
namespace Go.Proofs.Ytpieckeaehninaa
open Go.RowKit

theorem be_out {wb w : World} {u : Value} {xs : List Int} (out : Out wb w u xs) (n : Int) (many : Nat) (hn0 : 0 ≤ n) (hmany : many ≤ 8) (hlen : xs.length ≤ 900000) :
    Calls Try.prog 17 #[u, .int .u64 n, .int .i64 many] w fun e w' => ∃ v', e = .returned v' ∧ Out wb w' v' (xs ++ bes n many) ∧ w.grownBy w' u.ownBlock := by
  have h := be_any wb.heap.size u (u8s xs) n many w hn0 hmany (by rw [u8s_length]; exact out.own) out.bel.size (by rw [u8s_length]; omega)
  refine h.mono ?_
  rintro e w' ⟨v', rfl, hown, hg, _⟩
  exact ⟨v', rfl, out.grown (by rw [List.length_append, u8s_append, bes_length]; rw [u8s_length] at hown; exact hown) hg, hg⟩

theorem index43 (a b c d : Int) (w : World) : (Instr.index 43 (.agg #[.int .u64 a, .int .u64 b, .int .u64 c, .int .u64 d]) (.int .i64 0)).run Try.prog w = .ok (.int .u64 a) w ∧
    (Instr.index 43 (.agg #[.int .u64 a, .int .u64 b, .int .u64 c, .int .u64 d]) (.int .i64 1)).run Try.prog w = .ok (.int .u64 b) w ∧
    (Instr.index 43 (.agg #[.int .u64 a, .int .u64 b, .int .u64 c, .int .u64 d]) (.int .i64 2)).run Try.prog w = .ok (.int .u64 c) w ∧
    (Instr.index 43 (.agg #[.int .u64 a, .int .u64 b, .int .u64 c, .int .u64 d]) (.int .i64 3)).run Try.prog w = .ok (.int .u64 d) w :=
  ⟨by kernel_rfl, by kernel_rfl, by kernel_rfl, by kernel_rfl⟩

theorem may_at (t : Txn) (n : Int) (w : World) (h : t.may = n) :
    Calls Try.prog 11 #[.agg t.cells] w fun e w' => e = .returned (.int .i64 n) ∧ w.alloc (.cells t.cells 27) = w' := by
  rw [← h]; exact may_any t w

set_option maxHeartbeats 1600000 in
set_option maxRecDepth 100000 in
theorem put_ok (t : Txn) (d : List Int) (w : World) (hw : t.Wf) (hmay : t.may = 0) (hd : Reads w w.heap.size 1 t.a t.len (u8s d)) (hl : t.len ≤ 65536) :
    Calls Try.prog 7 #[.agg t.cells] w fun e w' => ∃ v, e = .returned (.tuple #[v, .int .i64 0]) ∧ Out w w' v (t.bytes d) := by
  have H0 := Lib.hid hmay
  have HD := Lib.hid hd
  have HW := Lib.hid hw
  clear hmay hd hw
  go_enter Try.func7, Try.ntmps7
  go_wp2_with (first | ((with_reducible refine at_dst 8 rfl ?_); refine wpList_loadTx rfl (.tmp 1) rfl w.heap.size rfl t (Boxed.new w t) ?_) | (go_at_call 11; refine (may_at t 0 _ H0.out).mono ?_; rintro e w' ⟨rfl, rfl⟩))
  obtain ⟨wb, hwb⟩ : ∃ wb, wb = (w.alloc (.cells t.cells 27)).alloc (.cells t.cells 27) := ⟨_, rfl⟩
  have hbox : Boxed wb w.heap.size t := by rw [hwb]; exact Blk.alloc (Boxed.new w t) _
  have hbel : Below w.heap.size w wb := by rw [hwb]; exact ((Below.refl _ _).alloc (Nat.le_refl _) _).alloc (by simp) _
  have hlt := Blk.lt hbox
  rw [← hwb]
  have HB := Lib.hid hbox
  have HL := Lib.hid hbel
  have hk : wb.cell? ⟨w.heap.size, 0, none⟩ = some (.int .u8 t.k) := hbox.cell 0
  clear hwb hbox hbel
  have h9 : [t.k].length + 8 ≤ 1000000 := by simp
  have hr1 : ∀ w1, Below wb.heap.size wb w1 → Reads w1 wb.heap.size 1 (some ⟨w.heap.size, 1, none⟩) 8 (u8s t.fs) := fun w1 hb => (Boxed.fs HB.out hlt).below hb
  have HR1 := Lib.hid hr1
  clear hr1
  have h17 : ([t.k] ++ t.fs).length + 8 ≤ 1000000 := by simp [Txn.fs]
  have hr2 : ∀ w1, Below wb.heap.size wb w1 → Reads w1 wb.heap.size 1 (some ⟨w.heap.size, 9, none⟩) 8 (u8s t.ts) := fun w1 hb => (Boxed.ts HB.out hlt).below hb
  have HR2 := Lib.hid hr2
  clear hr2
  go_region_law (first | (refine step_app (wb := wb) (xs := [t.k]) (ys := t.fs) (B := wb.heap.size) (m := 8) (c := 8) (A := some ⟨w.heap.size, 1, none⟩) (u := .slice (some ⟨wb.heap.size, 0, none⟩) 1 1) rfl (.tmp 15) (.tmp 17) rfl ?hs (Out.lit wb t.k).drew ?hx (HR1.out _ (Out.lit wb t.k).drew.bel) h9 ?_; (case hs => rfl); (case hx => rfl); intro v1 w1 out1 hg1) | (refine step_app (wb := wb) (xs := [t.k] ++ t.fs) (ys := t.ts) (B := wb.heap.size) (m := 8) (c := 8) (A := some ⟨w.heap.size, 9, none⟩) (u := v1) rfl (.tmp 18) (.tmp 20) rfl ?hs out1 ?hx (HR2.out _ out1.bel) h17 ?_; (case hs => rfl); (case hx => rfl); intro v2 w2 out2 hg2))
  clear HR1 HR2 hg1 hg2
  have hbox2 : Boxed w2 w.heap.size t := HB.out.below out2.bel hlt
  have HB2 := Lib.hid hbox2
  have c17 := hbox2.cell 17
  have c18 := hbox2.cell 18
  have c19 := hbox2.cell 19
  have c20 := hbox2.cell 20
  have OUT2 := Lib.hid out2
  clear hk hbox2 out2
  have i0 := fun w => (index43 t.n t.v t.g t.p w).1
  have i1 := fun w => (index43 t.n t.v t.g t.p w).2.1
  have i2 := fun w => (index43 t.n t.v t.g t.p w).2.2.1
  have i3 := fun w => (index43 t.n t.v t.g t.p w).2.2.2
  go_wp2
  refine wp_loop_rounds 5 ?_
  rw [rounds_succ]
  go_wp2_with (go_at_call 17; refine (be_out OUT2.out t.n 8 HW.out.nl (by omega) (by simp [Txn.fs, Txn.ts])).mono ?_; rintro e w3 ⟨v3, rfl, out3, _⟩)
  rw [rounds_succ]
  go_wp2_with (go_at_call 17; refine (be_out out3 t.v 8 HW.out.vl (by omega) (by simp [Txn.fs, Txn.ts, bes_length])).mono ?_; rintro e w4 ⟨v4, rfl, out4, _⟩)
  rw [rounds_succ]
  go_wp2_with (go_at_call 17; refine (be_out out4 t.g 8 HW.out.gl (by omega) (by simp [Txn.fs, Txn.ts, bes_length])).mono ?_; rintro e w5 ⟨v5, rfl, out5, _⟩)
  rw [rounds_succ]
  go_wp2_with (go_at_call 17; refine (be_out out5 t.p 8 HW.out.pl (by omega) (by simp [Txn.fs, Txn.ts, bes_length])).mono ?_; rintro e w6 ⟨v6, rfl, out6, _⟩)
  rw [rounds_succ]
  clear out3 out4 out5
  have hbox6 : Boxed w6 w.heap.size t := HB.out.below out6.bel hlt
  have hd6 : Reads w6 w.heap.size 1 t.a t.len (u8s d) := HD.out.below (HL.out.trans (out6.bel.mono HL.out.size))
  have c21 := hbox6.cell 21
  have OUT6 := Lib.hid out6
  have HD6 := Lib.hid hd6
  have HB6 := Lib.hid hbox6
  clear c17 c18 c19 c20 out6 hd6 hbox6
  go_wp2
  have hl0 : (0 : Int) ≤ (t.len : Int) := by omega
  have hl1 : (t.len : Int) ≤ 65536 := by omega
  have hwr : IntKind.u64.wrap (t.len : Int) = (t.len : Int) := by rw [IntKind.wrap_u64]; omega
  have hfin : t.bytes d = (((((t.head ++ bes t.n 8) ++ bes t.v 8) ++ bes t.g 8) ++ bes t.p 8) ++ bes t.len 4) ++ d := rfl
  have HF := Lib.hid hfin
  clear hfin
  have HDF := Lib.hid (show ∀ (w' : World) (u : Value) (xs : List Int), Out wb w' u xs → Reads w' w.heap.size 1 t.a t.len (u8s d) from fun w' u xs h => HD.out.below (HL.out.trans (h.bel.mono HL.out.size)))
  have hlen7 : ([t.k] ++ t.fs ++ t.ts ++ bes t.n 8 ++ bes t.v 8 ++ bes t.g 8 ++ bes t.p 8 ++ bes (t.len : Int) 4).length + t.len ≤ 1000000 := by simp [Txn.fs, Txn.ts, bes_length]; omega
  have HL7 := Lib.hid hlen7
  clear hlen7
  go_region_law (first | (go_simp; go_at_call 17; refine (be_out OUT6.out.drew t.len 4 hl0 (by omega) (by simp [Txn.fs, Txn.ts, bes_length])).mono ?_; rintro e w7 ⟨v7, rfl, out7, _⟩; have c21b := (HB.out.below out7.bel hlt).cell 21) | (refine step_app (ys := d) (u := v7) (B := w.heap.size) (m := t.len) (c := t.cap) (A := t.a) rfl (.tmp 43) (.tmp 45) rfl ?hs out7 ?hx (HDF.out _ _ _ out7) HL7.out ?_; (case hs => rfl); (case hx => rfl); intro v8 w8 out8 _))
  all_goals
    go_wp2
    go_ret2
    exact ⟨_, rfl, Out.lower out8 HL.out⟩

set_option maxHeartbeats 800000 in
theorem put_bad (t : Txn) (e0 : Int) (w : World) (hmay : t.may = e0) (hne : e0 ≠ 0) :
    Calls Try.prog 7 #[.agg t.cells] w fun e w' => e = .returned (.tuple #[.slice none 0 0, .int .i64 e0]) ∧ Below w.heap.size w w' := by
  have H0 := Lib.hid hmay
  clear hmay
  have hb : (e0 != 0) = true := by simpa using hne
  go_enter Try.func7, Try.ntmps7
  go_wp2_with (first | ((with_reducible refine at_dst 8 rfl ?_); refine wpList_loadTx rfl (.tmp 1) rfl w.heap.size rfl t (Boxed.new w t) ?_) | (go_at_call 11; refine (may_at t e0 _ H0.out).mono ?_; rintro e w' ⟨rfl, rfl⟩))
  go_ret2
  exact ⟨rfl, ((Below.refl _ _).alloc (Nat.le_refl _) _).alloc (by simp) _⟩

end Go.Proofs.Ytpieckeaehninaa
