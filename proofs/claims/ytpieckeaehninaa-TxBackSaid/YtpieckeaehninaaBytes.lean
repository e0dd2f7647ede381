/-
  A transaction's bytes: the document's 'Bytes'.
-/
import Derived.Test.YtpieckeaehninaaOut
namespace Go.Proofs.Ytpieckeaehninaa
open Go.RowKit

theorem number_out {wb w : World} {u : Value} {xs : List Int} (out : Out wb w u xs) (n : Int) (many : Nat) (hn0 : 0 ≤ n) (hn1 : n ≤ 18446744073709551615) (hmany : many ≤ 8) :
    Calls Try.prog 20 #[.int .u64 n, .int .i64 many] w fun e w' => ∃ A c, e = .returned (.slice A many c) ∧ Out wb w' u xs ∧ Reads w' w'.heap.size 1 A many (u8s (bes n many)) := by
  refine (number_any n many w hn0 hn1 hmany).mono ?_
  rintro e w' ⟨v', rfl, hown, hb⟩
  obtain ⟨A, c, rfl, _, hr⟩ := Reads.of_row hown
  exact ⟨A, c, rfl, out.kept hb, hr⟩

set_option maxHeartbeats 1600000 in
set_option maxRecDepth 100000 in
theorem bytes_any (t : Txn) (d : List Int) (w : World) (hw : t.Wf) (hd : Reads w w.heap.size 1 t.a t.len (u8s d)) (hl : t.len ≤ 100000) :
    Calls Try.prog 13 #[.agg t.cells] w fun e w' => ∃ v, e = .returned v ∧ Out w w' v (t.bytes d) := by
  have HD := Lib.hid hd
  have HW := Lib.hid hw
  clear hd hw
  go_enter Try.func13, Try.ntmps13
  go_wp2
  obtain ⟨wb, hwb⟩ : ∃ wb, wb = w.alloc (.cells t.cells 27) := ⟨_, rfl⟩
  have hbox : Boxed wb w.heap.size t := by rw [hwb]; exact Boxed.new w t
  have hbel : Below w.heap.size w wb := by rw [hwb]; exact (Below.refl _ _).alloc (Nat.le_refl _) _
  have hsz : w.heap.size + 1 = wb.heap.size := by rw [hwb]; simp
  have hlt := Blk.lt hbox
  rw [← hwb, hsz]
  have HB := Lib.hid hbox
  have HL := Lib.hid hbel
  have OUT0 := Lib.hid (Out.lit wb t.k)
  clear hwb hbox hbel hsz
  have HFS := Lib.hid (show ∀ (w' : World) (u : Value) (xs : List Int) (k : Nat), Out wb w' u xs → k < 8 → w'.cell? ⟨w.heap.size, 1 + k, none⟩ = some (.int .u8 (t.fs.getD k 0)) from fun w' u xs k h hk => by
    obtain ⟨ad, e, _, hc⟩ := cell_of_reads (Boxed.fs (HB.out.below h.bel hlt) (Nat.lt_of_lt_of_le hlt h.bel.size)) hk
    injection e with e
    subst e
    rw [Addr.add_lit] at hc
    exact hc)
  go_loopw [3, 4] (fun u i wr => ∃ (k : Nat), k ≤ 8 ∧ i = .int .i64 (k : Int) ∧ Hid (Out wb wr u ([t.k] ++ t.fs.take k))) (fun _ i _ => (8 - intOf i).toNat)
  case atStart => exact ⟨0, by omega, rfl, OUT0⟩
  case round =>
    obtain ⟨k, hk, rfl, HO⟩ := hrel
    by_cases hlt8 : k < 8
    · have hc := HFS.out _ _ _ k HO.out hlt8
      have hts := take_snoc t.fs k hlt8
      generalize t.fs.getD k 0 = c at hc hts
      have HTS := Lib.hid hts
      have hlen : ([t.k] ++ t.fs.take k).length + 1 ≤ 1000000 := by simp; omega
      have HLN := Lib.hid hlen
      clear hts hlen
      go_wp2_with (at_builtin; refine wpList_app (wb := wb) (ys := [c]) (u := u3) (B := wr.heap.size + 1) (m := 1) (c := 1) (A := some ⟨wr.heap.size, 0, none⟩) rfl (.tmp 13) (.tmp 18) rfl ?hs (HO.out.alloc _) ?hx ?hr HLN.out ?_; (case hs => rfl); (case hx => rfl); (case hr => exact ⟨rfl, fun _ => ⟨_, rfl, by simp, cell_one_new _ _ _⟩⟩); intro v1 w1 out1 _)
      go_roundw
      case rel => exact ⟨k + 1, by omega, by go_num, by rw [HTS.out, ← List.append_assoc]; exact out1⟩
      case measure => simp [intOf] <;> omega
    · obtain rfl : k = 8 := by omega
      go_wp2
      rw [show ((8 : Nat) : Int) = 8 from rfl]
      have HO1 := Lib.hid (show Out wb wr u3 ([t.k] ++ t.fs) from HO.out)
      clear HO HFS
      obtain ⟨wo, rfl⟩ : ∃ wo : World, wo = wr := ⟨_, rfl⟩
      have HTSS := Lib.hid (show ∀ (w' : World) (u : Value) (xs : List Int) (k : Nat), Out wb w' u xs → k < 8 → w'.cell? ⟨w.heap.size, 9 + k, none⟩ = some (.int .u8 (t.ts.getD k 0)) from fun w' u xs k h hk => by
        obtain ⟨ad, e, _, hc⟩ := cell_of_reads (Boxed.ts (HB.out.below h.bel hlt) (Nat.lt_of_lt_of_le hlt h.bel.size)) hk
        injection e with e
        subst e
        rw [Addr.add_lit] at hc
        exact hc)
      go_loopw [3, 5] (fun u i wr => ∃ (k : Nat), k ≤ 8 ∧ i = .int .i64 (k : Int) ∧ Hid (Out wb wr u ([t.k] ++ t.fs ++ t.ts.take k))) (fun _ i _ => (8 - intOf i).toNat)
      case atStart => exact ⟨0, by omega, rfl, HO1⟩
      case round =>
        obtain ⟨k, hk, rfl, HO⟩ := hrel
        by_cases hlt8 : k < 8
        · have hc := HTSS.out _ _ _ k HO.out hlt8
          have hts := take_snoc t.ts k hlt8
          generalize t.ts.getD k 0 = c at hc hts
          have HTS := Lib.hid hts
          have hlen : ([t.k] ++ t.fs ++ t.ts.take k).length + 1 ≤ 1000000 := by simp [Txn.fs]; omega
          have HLN := Lib.hid hlen
          clear hts hlen
          go_wp2_with (at_builtin; refine wpList_app (wb := wb) (ys := [c]) (u := u3) (B := wr.heap.size + 1) (m := 1) (c := 1) (A := some ⟨wr.heap.size, 0, none⟩) rfl (.tmp 24) (.tmp 29) rfl ?hs (HO.out.alloc _) ?hx ?hr HLN.out ?_; (case hs => rfl); (case hx => rfl); (case hr => exact ⟨rfl, fun _ => ⟨_, rfl, by simp, cell_one_new _ _ _⟩⟩); intro v1 w1 out1 _)
          go_roundw
          case rel => exact ⟨k + 1, by omega, by go_num, by rw [HTS.out, ← List.append_assoc]; exact out1⟩
          case measure => simp [intOf] <;> omega
        · obtain rfl : k = 8 := by omega
          have HO2 := Lib.hid (show Out wb wr u3 t.head from HO.out)
          clear HO HTSS
          have hbx := HB.out.below HO2.out.bel hlt
          have c17 := hbx.cell 17
          have hhl : t.head.length = 17 := rfl
          clear hbx hhl
          go_wp2_with fail
          refine (number_out HO2.out t.n 8 HW.out.nl HW.out.nu (by omega)).mono ?_
          rintro e wa0 ⟨A0, c0, rfl, oa0, ra0⟩
          have OA0 := Lib.hid oa0
          have RA0 := Lib.hid ra0
          have HLN0 := Lib.hid (show (t.head).length + 8 ≤ 1000000 by simp [Txn.head, Txn.fs, Txn.ts])
          clear oa0 ra0 c17
          go_wp2_with (at_builtin; refine wpList_app (wb := wb) (ys := bes t.n 8) (B := wa0.heap.size) (m := 8) (c := c0) (A := A0) rfl (.tmp 31) (.tmp 34) rfl ?hs OA0.out ?hx RA0.out HLN0.out ?_; (case hs => rfl); (case hx => rfl); intro v2 wb0 ob0 _; have OB0 := Lib.hid ob0; have c17 := (HB.out.below OB0.out.bel hlt).cell 18; clear ob0)
          refine (number_out OB0.out t.v 8 HW.out.vl HW.out.vu (by omega)).mono ?_
          rintro e wa1 ⟨A1, c1, rfl, oa1, ra1⟩
          have OA1 := Lib.hid oa1
          have RA1 := Lib.hid ra1
          have HLN1 := Lib.hid (show (t.head ++ bes t.n 8).length + 8 ≤ 1000000 by simp [Txn.head, Txn.fs, Txn.ts, bes_length])
          clear oa1 ra1 c17
          go_wp2_with (at_builtin; refine wpList_app (wb := wb) (ys := bes t.v 8) (B := wa1.heap.size) (m := 8) (c := c1) (A := A1) rfl (.tmp 36) (.tmp 39) rfl ?hs OA1.out ?hx RA1.out HLN1.out ?_; (case hs => rfl); (case hx => rfl); intro v3 wb1 ob1 _; have OB1 := Lib.hid ob1; have c17 := (HB.out.below OB1.out.bel hlt).cell 19; clear ob1)
          refine (number_out OB1.out t.g 8 HW.out.gl HW.out.gu (by omega)).mono ?_
          rintro e wa2 ⟨A2, c2, rfl, oa2, ra2⟩
          have OA2 := Lib.hid oa2
          have RA2 := Lib.hid ra2
          have HLN2 := Lib.hid (show (t.head ++ bes t.n 8 ++ bes t.v 8).length + 8 ≤ 1000000 by simp [Txn.head, Txn.fs, Txn.ts, bes_length])
          clear oa2 ra2 c17
          go_wp2_with (at_builtin; refine wpList_app (wb := wb) (ys := bes t.g 8) (B := wa2.heap.size) (m := 8) (c := c2) (A := A2) rfl (.tmp 41) (.tmp 44) rfl ?hs OA2.out ?hx RA2.out HLN2.out ?_; (case hs => rfl); (case hx => rfl); intro v4 wb2 ob2 _; have OB2 := Lib.hid ob2; have c17 := (HB.out.below OB2.out.bel hlt).cell 20; clear ob2)
          refine (number_out OB2.out t.p 8 HW.out.pl HW.out.pu (by omega)).mono ?_
          rintro e wa3 ⟨A3, c3, rfl, oa3, ra3⟩
          have OA3 := Lib.hid oa3
          have RA3 := Lib.hid ra3
          have HLN3 := Lib.hid (show (t.head ++ bes t.n 8 ++ bes t.v 8 ++ bes t.g 8).length + 8 ≤ 1000000 by simp [Txn.head, Txn.fs, Txn.ts, bes_length])
          clear oa3 ra3 c17
          go_wp2_with (at_builtin; refine wpList_app (wb := wb) (ys := bes t.p 8) (B := wa3.heap.size) (m := 8) (c := c3) (A := A3) rfl (.tmp 46) (.tmp 49) rfl ?hs OA3.out ?hx RA3.out HLN3.out ?_; (case hs => rfl); (case hx => rfl); intro v5 wb3 ob3 _; have OB3 := Lib.hid ob3; have c17 := (HB.out.below OB3.out.bel hlt).cell 21; clear ob3)
          refine (number_out OB3.out t.len 4 (by omega) (by omega) (by omega)).mono ?_
          rintro e wa4 ⟨A4, c4, rfl, oa4, ra4⟩
          have OA4 := Lib.hid oa4
          have RA4 := Lib.hid ra4
          have HLN4 := Lib.hid (show (t.head ++ bes t.n 8 ++ bes t.v 8 ++ bes t.g 8 ++ bes t.p 8).length + 4 ≤ 1000000 by simp [Txn.head, Txn.fs, Txn.ts, bes_length])
          have HLN5 := Lib.hid (show (t.head ++ bes t.n 8 ++ bes t.v 8 ++ bes t.g 8 ++ bes t.p 8 ++ bes t.len 4).length + t.len ≤ 1000000 by simp [Txn.head, Txn.fs, Txn.ts, bes_length]; omega)
          clear oa4 ra4 c17
          go_wp2_with (first | ((with_reducible refine at_dst 57 rfl ?_); at_builtin; refine wpList_app (wb := wb) (ys := bes t.len 4) (B := wa4.heap.size) (m := 4) (c := c4) (A := A4) rfl (.tmp 51) (.tmp 56) rfl ?hs OA4.out ?hx RA4.out HLN4.out ?_; (case hs => rfl); (case hx => rfl); intro v6 wb4 ob4 _; have OB4 := Lib.hid ob4; have c17 := (HB.out.below OB4.out.bel hlt).cell 21; have HD4 := Lib.hid (HD.out.below (HL.out.trans (OB4.out.bel.mono HL.out.size))); clear ob4) | ((with_reducible refine at_dst 61 rfl ?_); at_builtin; refine wpList_app (wb := wb) (ys := d) (B := w.heap.size) (m := t.len) (c := t.cap) (A := t.a) rfl (.tmp 58) (.tmp 60) rfl ?hs OB4.out ?hx HD4.out HLN5.out ?_; (case hs => rfl); (case hx => rfl); intro v7 wb5 ob5 _))
          go_ret
          exact ⟨_, rfl, Out.lower ob5 HL.out⟩

end Go.Proofs.Ytpieckeaehninaa
