/-
  The law TxBack, walked: it answers true, whatever transaction and bytes come in.
-/
import Derived.Test.YtpieckeaehninaaLaw
import Derived.Test.YtpieckeaehninaaPlain
namespace Go.Proofs.Ytpieckeaehninaa
open Go.RowKit
attribute [local go_sem ↓] load27_of
attribute [local go_sem] run_load27 txAt_drew build27

/-- a transaction in a block of its own, its data in a row of its own -/
structure UTx (wr : World) (G B : Nat) (u : Txn) (d : List Int) : Prop where
  box : Boxed wr G u
  data : wr.ownsRow B 5 1 (.slice u.a u.len u.cap) u.len (u8s d)
theorem UTx.below {wr w' : World} {G B : Nat} {u : Txn} {d : List Int} (h : UTx wr G B u d) (hb : Below wr.heap.size wr w') : UTx w' G B u d :=
  ⟨h.box.below hb (Blk.lt h.box), h.data.kept_below hb⟩
theorem UTx.grown {wb wr w' : World} {G B : Nat} {u : Txn} {d : List Int} {v : Value} {xs : List Int} (h : UTx wr G B u d) (out : Out wb wr v xs) (hg : wr.grownBy w' v.ownBlock) (hlow : ∀ g, v.ownBlock = some g → g < B) : UTx w' G B u d := by
  refine ⟨Boxed.kept_row h.box out hg, h.data.kept hg ?_⟩
  cases hu : (Value.slice u.a u.len u.cap).ownBlock with
  | none => exact .inl rfl
  | some k =>
    refine .inr (fun e => ?_)
    have h1 := (h.data.lt k hu).1
    have h2 := hlow k e.symm
    omega
theorem UTx.alloc {wr : World} {G B : Nat} {u : Txn} {d : List Int} (h : UTx wr G B u d) (o : Obj) : UTx (wr.alloc o) G B u d := h.below ((Below.refl _ _).alloc (Nat.le_refl _) _)

theorem put_n (t : Txn) (d : List Int) (w : World) (hw : t.Wf) (hmay : t.may = 0) (hd : Reads w w.heap.size 1 t.a t.len (u8s d)) :
    Calls Try.prog 7 #[.agg t.cells] w fun e w' => ∃ ad n c, e = .returned (.tuple #[.slice (some ad) n c, .int .i64 0]) ∧ Out w w' (.slice (some ad) n c) (t.bytes d) ∧ n = 53 + t.len ∧ n ≤ c ∧ c ≤ 9223372036854775807 := by
  refine (put_form t d w hw hmay hd (may_len hmay)).mono ?_
  rintro e w' ⟨ad, c, rfl, out, h1, h2⟩
  exact ⟨ad, _, c, rfl, out, rfl, h1, h2⟩

theorem take_of {wb w : World} {ad : Addr} {n c : Nat} {xs : List Int} (out : Out wb w (.slice (some ad) n c) xs) (hok : Okb xs) (hbig : n ≤ 1000000) (hc : n ≤ c) (hl : c ≤ 9223372036854775807) (t : Txn) (d : List Int) (hxs : xs = t.bytes d) (hw : t.Wf) (hlen : t.len = d.length) (hm : t.may = 0) (hsm : t.len ≤ 1000000) :
    Calls Try.prog 14 #[.slice (some ad) n c] w fun e w' => ∃ u : Txn, e = .returned (.tuple #[.agg u.cells, .int .i64 0]) ∧ u = { t with a := u.a, len := u.len, cap := u.cap } ∧ w'.ownsRow w.heap.size 5 1 (.slice u.a u.len u.cap) u.len (u8s d) ∧ Below w.heap.size w w' := by
  subst hxs
  have hE : takeE (t.bytes d) = 0 := by rw [takeE_bytes t d hw hlen hsm, hm]
  refine (take_any n c (some ad) _ w out.reads hok hbig hc hl).mono ?_
  rintro e w' ⟨u, rfl, hu, hb⟩
  obtain ⟨A, c', rfl, hown⟩ := hu.1 hE
  rw [txOf_bytes t d hw] at *
  rw [bytes_d] at hown
  exact ⟨_, by rw [hE], rfl, hown, hb⟩

theorem take_no {w : World} {B : Nat} {ad : Addr} {n c : Nat} {xs : List Int} (h : Reads w B 1 (some ad) n (u8s xs)) (hB : B ≤ w.heap.size) (hok : Okb xs) (hbig : n ≤ 1000000) (hc : n ≤ c) (hl : c ≤ 9223372036854775807) (hE : takeE xs = 2) :
    Calls Try.prog 14 #[.slice (some ad) n c] w fun e w' => e = .returned (.tuple #[.agg Txn.zero.cells, .int .i64 2]) ∧ Below w.heap.size w w' := by
  refine (take_any n c (some ad) xs w (h.more hB) hok hbig hc hl).mono ?_
  rintro e w' ⟨u, rfl, hu, hb⟩
  rw [hE]
  exact ⟨by rw [hu.2 (by rw [hE]; omega)], hb⟩

theorem may_of_takeE {bs : List Int} (h : takeE bs = 0) (A : Option Addr) (c : Nat) : (txOf bs A (bs.length - 53) c).may = 0 := by
  unfold takeE at h
  split at h
  · omega
  · split at h
    · exact h
    · omega

theorem run_upto (ad : Addr) (n c : Nat) (hn : 1 ≤ n) (hc : n ≤ c) (_hl : c ≤ 9223372036854775807) (W : World) :
    (Instr.slice 25 (.slice (some ad) n c) none (some (.int .i64 ((n : Int) - 1))) none).run Try.prog W = .ok (.slice (some ad) (n - 1) c) W := by
  have h25 := Try.underlying25
  have h5 := Try.sizeOf5
  obtain ⟨m, rfl⟩ : ∃ m, n = m + 1 := ⟨n - 1, by omega⟩
  rw [show (((m + 1 : Nat) : Int) - 1) = (m : Int) by omega, Nat.add_sub_cancel]
  go_simp
  intro h
  omega

theorem reads_of_row {w : World} {base n c B : Nat} {A : Option Addr} {xs : List Int} (h : w.ownsRow base 5 1 (.slice A n c) n (u8s xs)) (hB : w.heap.size ≤ B) : Reads w B 1 A n (u8s xs) :=
  (Reads.of_own h).more hB

set_option maxHeartbeats 6400000 in
set_option maxRecDepth 100000 in
theorem back_ok_ok (t : Txn) (d : List Int) (A : Option Addr) (len cap : Nat) (bs : List Int) (w : World) (hw : t.Wf) (hd : Reads w w.heap.size 1 t.a t.len (u8s d)) (hok : Okb d)
    (hb : Reads w w.heap.size 1 A len (u8s bs)) (hokb : Okb bs) (hcap : len ≤ cap) (hl63 : cap ≤ 9223372036854775807) (hs1 : t.len ≤ 100000) (hs2 : len ≤ 100000)
    (hmay : t.may = 0) (hte : takeE bs = 0) :
    Calls Try.prog 5 #[.agg t.cells, .slice A len cap] w fun e w' => e = .returned (.bool true) ∧ Below w.heap.size w w' := by
  have ST0 := Lib.hid (LawSt.new w t d hd)
  have HW := Lib.hid hw
  have HOK := Lib.hid hok
  have HBS := Lib.hid hb
  have HOB := Lib.hid hokb
  have HT := Lib.hid hte
  have hdl : t.len = d.length := by have := hd.1; rw [u8s_length] at this; omega
  have HDL := Lib.hid hdl
  have hd1 : decide (100000 < (t.len : Int)) = false := decide_eq_false (by omega)
  have hd2 : decide (100000 < (len : Int)) = false := decide_eq_false (by omega)
  clear hd hw hok hb hokb hte hdl
  have HM := Lib.hid hmay
  clear hmay
  go_enter Try.func5, Try.ntmps5
  go_wp2_with fail
  refine (known_any _).mono ?_
  rintro e w1 ⟨rfl, hb1⟩
  have ST1 := Lib.hid (ST0.out.step hb1)
  have c21 := ST1.out.box.cell 21
  have x1 := txAt_of ST1.out.box
  clear hb1
  go_wp2_with fail
  refine (put_n t d _ HW.out HM.out (ST1.out.reads.more ST1.out.bel.size)).mono ?_
  rintro e w2 ⟨ad, n, c, rfl, out2, hn, hc1, hc2⟩
  have OUT2 := Lib.hid out2
  have ST2 := Lib.hid (ST1.out.step out2.bel)
  have hn1 : 53 ≤ n := by omega
  have hn2 : n ≤ 100053 := by omega
  have HN := Lib.hid hn
  clear out2 c21 x1 hn
  go_wp2_with fail
  refine (take_of OUT2.out (bytes_okb t d HW.out HOK.out) (by omega) hc1 hc2 t d rfl HW.out HDL.out HM.out (by omega)).mono ?_
  rintro e w3 ⟨u, rfl, hu, hown, hb3⟩
  have HU7 := Lib.hid hu
  have HO7 := Lib.hid hown
  have OUT3 := Lib.hid (OUT2.out.kept hb3)
  have ST3 := Lib.hid (ST2.out.step hb3)
  have HLOW := Lib.hid (show ∀ g, (Value.slice (some ad) n c).ownBlock = some g → g < w2.heap.size from fun g e => (OUT2.out.own.lt g e).2)
  have hup := run_upto ad n c (by omega) hc1 hc2
  clear hu hown hb3
  go_wp2_with ((with_reducible refine at_none rfl ?_); refine wpList_storeTx rfl (.tmp 7) (.tmp 37) rfl w3.heap.size rfl u rfl (Boxed.new w3 Txn.zero) rfl ?_; intro w4 hbx hg; have HXw4 := Lib.hid hbx; have HBw4 := Lib.hid (show Below w3.heap.size w3 w4 from ((Below.refl _ _).alloc (Nat.le_refl _) _).grown hg (by simp) (fun k e => by injection e with e; omega)); clear hbx hg)
  have OUT4 := Lib.hid (OUT3.out.kept HBw4.out)
  have ST4 := Lib.hid (ST3.out.step HBw4.out)
  have UT4 := Lib.hid (show UTx w4 w3.heap.size w2.heap.size u d from ⟨HXw4.out, HO7.out.kept_below HBw4.out⟩)
  refine (take_no (OUT4.out.reads.take (n - 1) (by omega)) (Nat.le_refl _) ((bytes_okb t d HW.out HOK.out).take _) (by omega) (by omega) hc2 (by have e := takeE_less t d HDL.out (by omega); rwa [show 52 + t.len = n - 1 by have := HN.out; omega] at e)).mono ?_
  rintro e w5 ⟨rfl, hb5⟩
  have OUT5 := Lib.hid (OUT4.out.kept hb5)
  have ST5 := Lib.hid (ST4.out.step hb5)
  have UT5 := Lib.hid (UT4.out.below hb5)
  clear hb5
  have hlen1 : (t.bytes d).length + 1 = n + 1 := by rw [bytes_len]; have h1 := HN.out; have h2 := HDL.out; omega
  have HL1 := Lib.hid hlen1
  clear hlen1
  go_wp2_with (first | ((with_reducible refine at_dst 51 rfl ?_); at_builtin; refine wpList_app1 (g := w6.heap.size) rfl (.tmp 49) (.tmp 50) rfl 0 ?hs (OUT6.out.alloc _) ?hx ?hc (n + 1) HL1.out (by omega) ?_; (case hs => rfl); (case hx => rfl); (case hc => simp); intro ad7 c7 w7 out7 hc71 hc72 hg7; have UT7 := Lib.hid ((UT6.out.alloc (.cells #[.int .u8 0] 5)).grown (OUT6.out.alloc _) hg7 HLOW.out); have ST7 := Lib.hid (ST1.out.step out7.bel); have OUT7 := Lib.hid out7; clear out7 hg7) | ((with_reducible refine at_none rfl ?_); refine wpList_storeTx rfl (.tmp 9) (.tmp 46) rfl w5.heap.size rfl Txn.zero rfl (Boxed.new w5 Txn.zero) rfl ?_; intro w6 hbx hg; have HXw6 := Lib.hid hbx; have HBw6 := Lib.hid (show Below w5.heap.size w5 w6 from ((Below.refl _ _).alloc (Nat.le_refl _) _).grown hg (by simp) (fun k e => by injection e with e; omega)); have OUT6 := Lib.hid (OUT5.out.kept HBw6.out); have UT6 := Lib.hid (UT5.out.below HBw6.out); clear hbx hg))
  refine (take_no OUT7.out.reads (Nat.le_refl _) (Okb.append (bytes_okb t d HW.out HOK.out) (fun x hx => by have := List.mem_singleton.1 hx; omega)) (by omega) hc71 hc72 (takeE_more t d HDL.out (by omega))).mono ?_
  rintro e w8 ⟨rfl, hb8⟩
  have ST8 := Lib.hid (ST7.out.step hb8)
  have UT8 := Lib.hid (UT7.out.below hb8)
  clear hb8 hup
  go_wp2_with (first | ((with_reducible refine at_none rfl ?_); refine wpList_storeTx rfl (.tmp 11) (.tmp 53) rfl w8.heap.size rfl Txn.zero rfl (Boxed.new w8 Txn.zero) rfl ?_; intro w9 hbx hg; have HXw9 := Lib.hid hbx; have HBw9 := Lib.hid (show Below w8.heap.size w8 w9 from ((Below.refl _ _).alloc (Nat.le_refl _) _).grown hg (by simp) (fun k e => by injection e with e; omega)); have ST9 := Lib.hid (ST8.out.step HBw9.out); have UT9 := Lib.hid (UT8.out.below HBw9.out); have x2 := txAt_of ST9.out.box; have x7 := txAt_of UT9.out.box; clear hbx hg) | (go_at_call 16; refine (same_true t u d _ HU7.out (ST9.out.reads.more ST9.out.bel.size) (reads_of_row UT9.out.data (Nat.le_refl _))).mono ?_; rintro e wz ⟨rfl, hbz⟩; have HZ := Lib.hid (ST9.out.bel.trans (hbz.mono ST9.out.bel.size)); clear hbz x2 x7))
  refine (take_any len cap A bs _ ((HBS.out.below HZ.out).more HZ.out.size) HOB.out (by omega) hcap hl63).mono ?_
  rintro e wk ⟨u, rfl, hu, hbk⟩
  have HU := Lib.hid hu
  have HK := Lib.hid hbk
  clear hu hbk
  obtain ⟨A', c', rfl, hown⟩ := HU.out.1 HT.out
  have HOWN := Lib.hid hown
  clear hown
  have hte := HT.out
  rw [hte]
  go_wp2_with ((with_reducible refine at_none rfl ?_); refine wpList_storeTx rfl (.tmp 13) (.tmp 74) rfl wk.heap.size rfl (txOf bs A' (bs.length - 53) c') rfl (Boxed.new wk Txn.zero) rfl ?_; intro wl hbx hg; have x13 := txAt_of hbx; have HXwl := Lib.hid hbx; have HBwl := Lib.hid (show Below wk.heap.size wk wl from ((Below.refl _ _).alloc (Nat.le_refl _) _).grown hg (by simp) (fun k e => by injection e with e; omega)); clear hbx hg)
  have b1 := HZ.out.trans (HK.out.mono HZ.out.size)
  have b2 := b1.trans (HBwl.out.mono b1.size)
  have HB2 := Lib.hid b2
  clear b1 b2
  refine (put_n (txOf bs A' (bs.length - 53) c') (bs.drop 53) _ (txOf_wf bs _ _ _ HOB.out) (may_of_takeE hte A' c') (Reads.of_own (HOWN.out.kept_below HBwl.out))).mono ?_
  rw [bytes_txOf HOB.out hte]
  rintro e wm ⟨ad2, n2, c2, rfl, out2, -, -, -⟩
  have hcv1 := run_str c2 out2.reads
  have b3 := HB2.out.trans (out2.bel.mono HB2.out.size)
  have hcv2 := run_str cap (HBS.out.below b3)
  have HB3 := Lib.hid b3
  clear b3 out2 hte
  go_wp2
  go_ret
  exact ⟨by first | rfl | simp, HB3.out⟩

set_option maxHeartbeats 6400000 in
set_option maxRecDepth 100000 in
theorem back_ok_bad (t : Txn) (d : List Int) (A : Option Addr) (len cap : Nat) (bs : List Int) (w : World) (hw : t.Wf) (hd : Reads w w.heap.size 1 t.a t.len (u8s d)) (hok : Okb d)
    (hb : Reads w w.heap.size 1 A len (u8s bs)) (hokb : Okb bs) (hcap : len ≤ cap) (hl63 : cap ≤ 9223372036854775807) (hs1 : t.len ≤ 100000) (hs2 : len ≤ 100000)
    (hmay : t.may = 0) (hte : takeE bs ≠ 0) :
    Calls Try.prog 5 #[.agg t.cells, .slice A len cap] w fun e w' => e = .returned (.bool true) ∧ Below w.heap.size w w' := by
  have ST0 := Lib.hid (LawSt.new w t d hd)
  have HW := Lib.hid hw
  have HOK := Lib.hid hok
  have HBS := Lib.hid hb
  have HOB := Lib.hid hokb
  have HT := Lib.hid hte
  have hdl : t.len = d.length := by have := hd.1; rw [u8s_length] at this; omega
  have HDL := Lib.hid hdl
  have hd1 : decide (100000 < (t.len : Int)) = false := decide_eq_false (by omega)
  have hd2 : decide (100000 < (len : Int)) = false := decide_eq_false (by omega)
  clear hd hw hok hb hokb hte hdl
  have HM := Lib.hid hmay
  clear hmay
  go_enter Try.func5, Try.ntmps5
  go_wp2_with fail
  refine (known_any _).mono ?_
  rintro e w1 ⟨rfl, hb1⟩
  have ST1 := Lib.hid (ST0.out.step hb1)
  have c21 := ST1.out.box.cell 21
  have x1 := txAt_of ST1.out.box
  clear hb1
  go_wp2_with fail
  refine (put_n t d _ HW.out HM.out (ST1.out.reads.more ST1.out.bel.size)).mono ?_
  rintro e w2 ⟨ad, n, c, rfl, out2, hn, hc1, hc2⟩
  have OUT2 := Lib.hid out2
  have ST2 := Lib.hid (ST1.out.step out2.bel)
  have hn1 : 53 ≤ n := by omega
  have hn2 : n ≤ 100053 := by omega
  have HN := Lib.hid hn
  clear out2 c21 x1 hn
  go_wp2_with fail
  refine (take_of OUT2.out (bytes_okb t d HW.out HOK.out) (by omega) hc1 hc2 t d rfl HW.out HDL.out HM.out (by omega)).mono ?_
  rintro e w3 ⟨u, rfl, hu, hown, hb3⟩
  have HU7 := Lib.hid hu
  have HO7 := Lib.hid hown
  have OUT3 := Lib.hid (OUT2.out.kept hb3)
  have ST3 := Lib.hid (ST2.out.step hb3)
  have HLOW := Lib.hid (show ∀ g, (Value.slice (some ad) n c).ownBlock = some g → g < w2.heap.size from fun g e => (OUT2.out.own.lt g e).2)
  have hup := run_upto ad n c (by omega) hc1 hc2
  clear hu hown hb3
  go_wp2_with ((with_reducible refine at_none rfl ?_); refine wpList_storeTx rfl (.tmp 7) (.tmp 37) rfl w3.heap.size rfl u rfl (Boxed.new w3 Txn.zero) rfl ?_; intro w4 hbx hg; have HXw4 := Lib.hid hbx; have HBw4 := Lib.hid (show Below w3.heap.size w3 w4 from ((Below.refl _ _).alloc (Nat.le_refl _) _).grown hg (by simp) (fun k e => by injection e with e; omega)); clear hbx hg)
  have OUT4 := Lib.hid (OUT3.out.kept HBw4.out)
  have ST4 := Lib.hid (ST3.out.step HBw4.out)
  have UT4 := Lib.hid (show UTx w4 w3.heap.size w2.heap.size u d from ⟨HXw4.out, HO7.out.kept_below HBw4.out⟩)
  refine (take_no (OUT4.out.reads.take (n - 1) (by omega)) (Nat.le_refl _) ((bytes_okb t d HW.out HOK.out).take _) (by omega) (by omega) hc2 (by have e := takeE_less t d HDL.out (by omega); rwa [show 52 + t.len = n - 1 by have := HN.out; omega] at e)).mono ?_
  rintro e w5 ⟨rfl, hb5⟩
  have OUT5 := Lib.hid (OUT4.out.kept hb5)
  have ST5 := Lib.hid (ST4.out.step hb5)
  have UT5 := Lib.hid (UT4.out.below hb5)
  clear hb5
  have hlen1 : (t.bytes d).length + 1 = n + 1 := by rw [bytes_len]; have h1 := HN.out; have h2 := HDL.out; omega
  have HL1 := Lib.hid hlen1
  clear hlen1
  go_wp2_with (first | ((with_reducible refine at_dst 51 rfl ?_); at_builtin; refine wpList_app1 (g := w6.heap.size) rfl (.tmp 49) (.tmp 50) rfl 0 ?hs (OUT6.out.alloc _) ?hx ?hc (n + 1) HL1.out (by omega) ?_; (case hs => rfl); (case hx => rfl); (case hc => simp); intro ad7 c7 w7 out7 hc71 hc72 hg7; have UT7 := Lib.hid ((UT6.out.alloc (.cells #[.int .u8 0] 5)).grown (OUT6.out.alloc _) hg7 HLOW.out); have ST7 := Lib.hid (ST1.out.step out7.bel); have OUT7 := Lib.hid out7; clear out7 hg7) | ((with_reducible refine at_none rfl ?_); refine wpList_storeTx rfl (.tmp 9) (.tmp 46) rfl w5.heap.size rfl Txn.zero rfl (Boxed.new w5 Txn.zero) rfl ?_; intro w6 hbx hg; have HXw6 := Lib.hid hbx; have HBw6 := Lib.hid (show Below w5.heap.size w5 w6 from ((Below.refl _ _).alloc (Nat.le_refl _) _).grown hg (by simp) (fun k e => by injection e with e; omega)); have OUT6 := Lib.hid (OUT5.out.kept HBw6.out); have UT6 := Lib.hid (UT5.out.below HBw6.out); clear hbx hg))
  refine (take_no OUT7.out.reads (Nat.le_refl _) (Okb.append (bytes_okb t d HW.out HOK.out) (fun x hx => by have := List.mem_singleton.1 hx; omega)) (by omega) hc71 hc72 (takeE_more t d HDL.out (by omega))).mono ?_
  rintro e w8 ⟨rfl, hb8⟩
  have ST8 := Lib.hid (ST7.out.step hb8)
  have UT8 := Lib.hid (UT7.out.below hb8)
  clear hb8 hup
  go_wp2_with (first | ((with_reducible refine at_none rfl ?_); refine wpList_storeTx rfl (.tmp 11) (.tmp 53) rfl w8.heap.size rfl Txn.zero rfl (Boxed.new w8 Txn.zero) rfl ?_; intro w9 hbx hg; have HXw9 := Lib.hid hbx; have HBw9 := Lib.hid (show Below w8.heap.size w8 w9 from ((Below.refl _ _).alloc (Nat.le_refl _) _).grown hg (by simp) (fun k e => by injection e with e; omega)); have ST9 := Lib.hid (ST8.out.step HBw9.out); have UT9 := Lib.hid (UT8.out.below HBw9.out); have x2 := txAt_of ST9.out.box; have x7 := txAt_of UT9.out.box; clear hbx hg) | (go_at_call 16; refine (same_true t u d _ HU7.out (ST9.out.reads.more ST9.out.bel.size) (reads_of_row UT9.out.data (Nat.le_refl _))).mono ?_; rintro e wz ⟨rfl, hbz⟩; have HZ := Lib.hid (ST9.out.bel.trans (hbz.mono ST9.out.bel.size)); clear hbz x2 x7))
  refine (take_any len cap A bs _ ((HBS.out.below HZ.out).more HZ.out.size) HOB.out (by omega) hcap hl63).mono ?_
  rintro e wk ⟨u, rfl, hu, hbk⟩
  have HU := Lib.hid hu
  have HK := Lib.hid hbk
  clear hu hbk
  have hz := HU.out.2 HT.out
  subst hz
  have htb : (takeE bs != 0) = true := by simpa using HT.out
  go_wp2_with (first | ((with_reducible refine at_none rfl ?_); refine wpList_storeTx rfl (.tmp 13) (.tmp 74) rfl wk.heap.size rfl Txn.zero rfl (Boxed.new wk Txn.zero) rfl ?_; intro wl hbx hg; have x13 := txAt_of hbx; have HXwl := Lib.hid hbx; have HBwl := Lib.hid (show Below wk.heap.size wk wl from ((Below.refl _ _).alloc (Nat.le_refl _) _).grown hg (by simp) (fun k e => by injection e with e; omega)); clear hbx hg) | (go_at_call 16; refine (same_true Txn.zero Txn.zero [] _ rfl Reads.none_ Reads.none_).mono ?_; rintro e wm ⟨rfl, hbm⟩; have HM := Lib.hid hbm; clear hbm))
  go_ret
  have b1 := HZ.out.trans (HK.out.mono HZ.out.size)
  have b2 := b1.trans (HBwl.out.mono b1.size)
  exact ⟨by first | rfl | simp, b2.trans (HM.out.mono b2.size)⟩

set_option maxHeartbeats 6400000 in
set_option maxRecDepth 100000 in
theorem back_bad_ok (t : Txn) (d : List Int) (A : Option Addr) (len cap : Nat) (bs : List Int) (w : World) (hw : t.Wf) (hd : Reads w w.heap.size 1 t.a t.len (u8s d)) (hok : Okb d)
    (hb : Reads w w.heap.size 1 A len (u8s bs)) (hokb : Okb bs) (hcap : len ≤ cap) (hl63 : cap ≤ 9223372036854775807) (hs1 : t.len ≤ 100000) (hs2 : len ≤ 100000)
    (hmay : t.may ≠ 0) (hte : takeE bs = 0) :
    Calls Try.prog 5 #[.agg t.cells, .slice A len cap] w fun e w' => e = .returned (.bool true) ∧ Below w.heap.size w w' := by
  have ST0 := Lib.hid (LawSt.new w t d hd)
  have HW := Lib.hid hw
  have HOK := Lib.hid hok
  have HBS := Lib.hid hb
  have HOB := Lib.hid hokb
  have HT := Lib.hid hte
  have hdl : t.len = d.length := by have := hd.1; rw [u8s_length] at this; omega
  have HDL := Lib.hid hdl
  have hd1 : decide (100000 < (t.len : Int)) = false := decide_eq_false (by omega)
  have hd2 : decide (100000 < (len : Int)) = false := decide_eq_false (by omega)
  clear hd hw hok hb hokb hte hdl
  obtain ⟨e0, hE0⟩ : ∃ e0, t.may = e0 := ⟨_, rfl⟩
  rw [hE0] at hmay
  have HM := Lib.hid hE0
  have he1 : (e0 == 0) = false := by simpa using hmay
  have HNE := Lib.hid hmay
  clear hmay hE0
  go_enter Try.func5, Try.ntmps5
  go_wp2_with fail
  refine (known_any _).mono ?_
  rintro e w1 ⟨rfl, hb1⟩
  have ST1 := Lib.hid (ST0.out.step hb1)
  have c21 := ST1.out.box.cell 21
  have x1 := txAt_of ST1.out.box
  clear hb1
  go_wp2_with fail
  refine (put_bad t e0 _ HM.out HNE.out).mono ?_
  rintro e w2 ⟨rfl, hb2⟩
  have HZ := Lib.hid (ST1.out.bel.trans (hb2.mono ST1.out.bel.size))
  clear hb2 c21 x1
  go_wp2_with fail
  refine (take_any len cap A bs _ ((HBS.out.below HZ.out).more HZ.out.size) HOB.out (by omega) hcap hl63).mono ?_
  rintro e wk ⟨u, rfl, hu, hbk⟩
  have HU := Lib.hid hu
  have HK := Lib.hid hbk
  clear hu hbk
  obtain ⟨A', c', rfl, hown⟩ := HU.out.1 HT.out
  have HOWN := Lib.hid hown
  clear hown
  have hte := HT.out
  rw [hte]
  go_wp2_with ((with_reducible refine at_none rfl ?_); refine wpList_storeTx rfl (.tmp 13) (.tmp 74) rfl wk.heap.size rfl (txOf bs A' (bs.length - 53) c') rfl (Boxed.new wk Txn.zero) rfl ?_; intro wl hbx hg; have x13 := txAt_of hbx; have HXwl := Lib.hid hbx; have HBwl := Lib.hid (show Below wk.heap.size wk wl from ((Below.refl _ _).alloc (Nat.le_refl _) _).grown hg (by simp) (fun k e => by injection e with e; omega)); clear hbx hg)
  have b1 := HZ.out.trans (HK.out.mono HZ.out.size)
  have b2 := b1.trans (HBwl.out.mono b1.size)
  have HB2 := Lib.hid b2
  clear b1 b2
  refine (put_n (txOf bs A' (bs.length - 53) c') (bs.drop 53) _ (txOf_wf bs _ _ _ HOB.out) (may_of_takeE hte A' c') (Reads.of_own (HOWN.out.kept_below HBwl.out))).mono ?_
  rw [bytes_txOf HOB.out hte]
  rintro e wm ⟨ad2, n2, c2, rfl, out2, -, -, -⟩
  have hcv1 := run_str c2 out2.reads
  have b3 := HB2.out.trans (out2.bel.mono HB2.out.size)
  have hcv2 := run_str cap (HBS.out.below b3)
  have HB3 := Lib.hid b3
  clear b3 out2 hte
  go_wp2
  go_ret
  exact ⟨by first | rfl | simp, HB3.out⟩

set_option maxHeartbeats 6400000 in
set_option maxRecDepth 100000 in
theorem back_bad_bad (t : Txn) (d : List Int) (A : Option Addr) (len cap : Nat) (bs : List Int) (w : World) (hw : t.Wf) (hd : Reads w w.heap.size 1 t.a t.len (u8s d)) (hok : Okb d)
    (hb : Reads w w.heap.size 1 A len (u8s bs)) (hokb : Okb bs) (hcap : len ≤ cap) (hl63 : cap ≤ 9223372036854775807) (hs1 : t.len ≤ 100000) (hs2 : len ≤ 100000)
    (hmay : t.may ≠ 0) (hte : takeE bs ≠ 0) :
    Calls Try.prog 5 #[.agg t.cells, .slice A len cap] w fun e w' => e = .returned (.bool true) ∧ Below w.heap.size w w' := by
  have ST0 := Lib.hid (LawSt.new w t d hd)
  have HW := Lib.hid hw
  have HOK := Lib.hid hok
  have HBS := Lib.hid hb
  have HOB := Lib.hid hokb
  have HT := Lib.hid hte
  have hdl : t.len = d.length := by have := hd.1; rw [u8s_length] at this; omega
  have HDL := Lib.hid hdl
  have hd1 : decide (100000 < (t.len : Int)) = false := decide_eq_false (by omega)
  have hd2 : decide (100000 < (len : Int)) = false := decide_eq_false (by omega)
  clear hd hw hok hb hokb hte hdl
  obtain ⟨e0, hE0⟩ : ∃ e0, t.may = e0 := ⟨_, rfl⟩
  rw [hE0] at hmay
  have HM := Lib.hid hE0
  have he1 : (e0 == 0) = false := by simpa using hmay
  have HNE := Lib.hid hmay
  clear hmay hE0
  go_enter Try.func5, Try.ntmps5
  go_wp2_with fail
  refine (known_any _).mono ?_
  rintro e w1 ⟨rfl, hb1⟩
  have ST1 := Lib.hid (ST0.out.step hb1)
  have c21 := ST1.out.box.cell 21
  have x1 := txAt_of ST1.out.box
  clear hb1
  go_wp2_with fail
  refine (put_bad t e0 _ HM.out HNE.out).mono ?_
  rintro e w2 ⟨rfl, hb2⟩
  have HZ := Lib.hid (ST1.out.bel.trans (hb2.mono ST1.out.bel.size))
  clear hb2 c21 x1
  go_wp2_with fail
  refine (take_any len cap A bs _ ((HBS.out.below HZ.out).more HZ.out.size) HOB.out (by omega) hcap hl63).mono ?_
  rintro e wk ⟨u, rfl, hu, hbk⟩
  have HU := Lib.hid hu
  have HK := Lib.hid hbk
  clear hu hbk
  have hz := HU.out.2 HT.out
  subst hz
  have htb : (takeE bs != 0) = true := by simpa using HT.out
  go_wp2_with (first | ((with_reducible refine at_none rfl ?_); refine wpList_storeTx rfl (.tmp 13) (.tmp 74) rfl wk.heap.size rfl Txn.zero rfl (Boxed.new wk Txn.zero) rfl ?_; intro wl hbx hg; have x13 := txAt_of hbx; have HXwl := Lib.hid hbx; have HBwl := Lib.hid (show Below wk.heap.size wk wl from ((Below.refl _ _).alloc (Nat.le_refl _) _).grown hg (by simp) (fun k e => by injection e with e; omega)); clear hbx hg) | (go_at_call 16; refine (same_true Txn.zero Txn.zero [] _ rfl Reads.none_ Reads.none_).mono ?_; rintro e wm ⟨rfl, hbm⟩; have HM := Lib.hid hbm; clear hbm))
  go_ret
  have b1 := HZ.out.trans (HK.out.mono HZ.out.size)
  have b2 := b1.trans (HBwl.out.mono b1.size)
  exact ⟨by first | rfl | simp, b2.trans (HM.out.mono b2.size)⟩

set_option maxHeartbeats 1600000 in
set_option maxRecDepth 100000 in
theorem back_big (t : Txn) (d : List Int) (A : Option Addr) (len cap : Nat) (w : World) (hd : Reads w w.heap.size 1 t.a t.len (u8s d)) (hbig : 100000 < t.len ∨ (t.len ≤ 100000 ∧ 100000 < len)) :
    Calls Try.prog 5 #[.agg t.cells, .slice A len cap] w fun e w' => e = .returned (.bool true) ∧ Below w.heap.size w w' := by
  have ST0 := Lib.hid (LawSt.new w t d hd)
  clear hd
  rcases hbig with h1 | ⟨h1, h2⟩
  · have hd1 : decide (100000 < (t.len : Int)) = true := decide_eq_true (by omega)
    go_enter Try.func5, Try.ntmps5
    go_wp2_with fail
    refine (known_any _).mono ?_
    rintro e w1 ⟨rfl, hb1⟩
    have ST1 := Lib.hid (ST0.out.step hb1)
    have c21 := ST1.out.box.cell 21
    clear hb1
    go_wp2
    go_ret
    exact ⟨by first | rfl | simp, ST1.out.bel⟩
  · have hd1 : decide (100000 < (t.len : Int)) = false := decide_eq_false (by omega)
    have hd2 : decide (100000 < (len : Int)) = true := decide_eq_true (by omega)
    go_enter Try.func5, Try.ntmps5
    go_wp2_with fail
    refine (known_any _).mono ?_
    rintro e w1 ⟨rfl, hb1⟩
    have ST1 := Lib.hid (ST0.out.step hb1)
    have c21 := ST1.out.box.cell 21
    clear hb1
    go_wp2
    go_ret
    exact ⟨by first | rfl | simp, ST1.out.bel⟩

theorem txBack_any (t : Txn) (d : List Int) (A : Option Addr) (len cap : Nat) (bs : List Int) (w : World) (hw : t.Wf) (hd : Reads w w.heap.size 1 t.a t.len (u8s d)) (hok : Okb d)
    (hb : Reads w w.heap.size 1 A len (u8s bs)) (hokb : Okb bs) (hcap : len ≤ cap) (hl63 : cap ≤ 9223372036854775807) :
    Calls Try.prog 5 #[.agg t.cells, .slice A len cap] w fun e w' => e = .returned (.bool true) ∧ Below w.heap.size w w' := by
  by_cases hs1 : t.len ≤ 100000
  · by_cases hs2 : len ≤ 100000
    · by_cases hm : t.may = 0
      · by_cases hte : takeE bs = 0
        · exact back_ok_ok t d A len cap bs w hw hd hok hb hokb hcap hl63 hs1 hs2 hm hte
        · exact back_ok_bad t d A len cap bs w hw hd hok hb hokb hcap hl63 hs1 hs2 hm hte
      · by_cases hte : takeE bs = 0
        · exact back_bad_ok t d A len cap bs w hw hd hok hb hokb hcap hl63 hs1 hs2 hm hte
        · exact back_bad_bad t d A len cap bs w hw hd hok hb hokb hcap hl63 hs1 hs2 hm hte
    · exact back_big t d A len cap w hd (.inr ⟨hs1, by omega⟩)
  · exact back_big t d A len cap w hd (.inl (by omega))

end Go.Proofs.Ytpieckeaehninaa
