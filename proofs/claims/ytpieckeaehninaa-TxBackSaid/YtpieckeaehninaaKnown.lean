/-
  The laws' own small examples hold: 'known' answers true.
-/
import Derived.Test.YtpieckeaehninaaRefTake
import Derived.Test.YtpieckeaehninaaSame
import Derived.Test.YtpieckeaehninaaPut
import Derived.Test.YtpieckeaehninaaRefMost
namespace Go.Proofs.Ytpieckeaehninaa
open Go.RowKit
attribute [local go_sem] build27

set_option maxHeartbeats 1600000 in
set_option maxRecDepth 100000 in
theorem refTake_short (B len cap : Nat) (A : Option Addr) (bs : List Int) (w : World) (h : Reads w B 1 A len (u8s bs)) (hlen : len < 53) :
    Calls Try.prog 15 #[.slice A len cap] w fun e w' => ∃ t, e = .returned (.tuple #[.agg t.cells, .int .i64 (takeE bs)]) ∧ Taken w w' bs t ∧ Below w.heap.size w w' := by
  have hl : bs.length = len := by have := h.1; rw [u8s_length] at this; omega
  have he : takeE bs = 2 := by rw [takeE, if_pos (by omega)]
  have HE := Lib.hid he
  clear hl he h
  have hbx := Boxed.new (w.alloc (.cells Txn.zero.cells 27)) Txn.zero
  rw [show (w.alloc (.cells Txn.zero.cells 27)).heap.size = w.heap.size + 1 by simp] at hbx
  have HBX := Lib.hid hbx
  have HB0 := Lib.hid (show Blk ((w.alloc (.cells Txn.zero.cells 27)).alloc (.cells Txn.zero.cells 27)) w.heap.size 27 Txn.zero.cells from (Boxed.new w Txn.zero).alloc _)
  clear hbx
  have hd53 : decide ((len : Int) < 53) = true := decide_eq_true (by omega)
  go_enter Try.func15, Try.ntmps15
  go_wp2_with (first | ((with_reducible refine at_none rfl ?_); refine wpList_storeTx rfl (.tmp 4) (.tmp 7) rfl (w.heap.size + 1) rfl Txn.zero rfl HBX.out rfl ?_; intro w2 hb2 hg2; have HB2 := Lib.hid hb2; clear hb2) | ((with_reducible refine at_dst 21 rfl ?_); refine wpList_loadTx rfl (.tmp 4) rfl (w.heap.size + 1) rfl Txn.zero HB2.out ?_) | ((with_reducible refine at_none rfl ?_); refine wpList_storeTx rfl (.tmp 2) (.tmp 21) rfl w.heap.size rfl Txn.zero rfl (Blk.grown HB0.out hg2 (by simp)) rfl ?_; intro w9 hb9 hg9; have HB9 := Lib.hid hb9; clear hb9))
  refine bodyPost_ret (results_tx rfl _ rfl HB9.out) rfl ⟨Txn.zero, ?_, ⟨fun h => ?_, fun _ => rfl⟩, ?_⟩
  · rw [HE.out]; rfl
  · rw [HE.out] at h; omega
  · have hbel2 : Below w.heap.size w w2 := (((Below.refl _ _).alloc (Nat.le_refl _) _).alloc (by simp) _).grown hg2 (by simp; omega) (fun k e => by injection e with e; omega)
    exact hbel2.grown hg9 hbel2.size (fun k e => by injection e with e; omega)

theorem take_any (len cap : Nat) (A : Option Addr) (bs : List Int) (w : World) (h : Reads w w.heap.size 1 A len (u8s bs)) (hb : Okb bs) (hbig : len ≤ 1000000) (hcap : len ≤ cap) (hl63 : cap ≤ 9223372036854775807) :
    Calls Try.prog 14 #[.slice A len cap] w fun e w' => ∃ t, e = .returned (.tuple #[.agg t.cells, .int .i64 (takeE bs)]) ∧ Taken w w' bs t ∧ Below w.heap.size w w' := by
  by_cases hl : len < 53
  · exact take_short w.heap.size len cap A bs w h hl
  · exact take_long len cap A bs w h hb (by omega) hbig hcap hl63

theorem refTake_all (len cap : Nat) (A : Option Addr) (bs : List Int) (w : World) (h : Reads w w.heap.size 1 A len (u8s bs)) (hb : Okb bs) (hbig : len ≤ 1000000) (hcap : len ≤ cap) (hl63 : cap ≤ 9223372036854775807) :
    Calls Try.prog 15 #[.slice A len cap] w fun e w' => ∃ t, e = .returned (.tuple #[.agg t.cells, .int .i64 (takeE bs)]) ∧ Taken w w' bs t ∧ Below w.heap.size w w' := by
  by_cases hl : len < 53
  · exact refTake_short w.heap.size len cap A bs w h hl
  · exact refTake_any len cap A bs w h hb (by omega) hbig hcap hl63

/-- the transfer of zeros -/
def tx1 : Txn := { Txn.zero with k := 1 }
def bytes1 : List Int := 1 :: List.replicate 52 0
theorem tx1_bytes : tx1.bytes [] = bytes1 := by decide
theorem tx1_may : tx1.may = 0 := by decide
theorem bytes1_E : takeE bytes1 = 0 := by decide
theorem bytes1_short : takeE (bytes1.take 52) = 2 := by decide
theorem bytes1_more : takeE (bytes1 ++ [0]) = 2 := by decide

theorem bytes_length (t : Txn) (d : List Int) : (t.bytes d).length = 53 + d.length := by simp [Txn.bytes, Txn.head, Txn.fs, Txn.ts, bes_length]; omega

theorem put_form (t : Txn) (d : List Int) (w : World) (hw : t.Wf) (hmay : t.may = 0) (hd : Reads w w.heap.size 1 t.a t.len (u8s d)) (hl : t.len ≤ 65536) :
    Calls Try.prog 7 #[.agg t.cells] w fun e w' => ∃ ad c, e = .returned (.tuple #[.slice (some ad) (53 + t.len) c, .int .i64 0]) ∧ Out w w' (.slice (some ad) (53 + t.len) c) (t.bytes d) ∧ 53 + t.len ≤ c ∧ c ≤ 9223372036854775807 := by
  refine (put_ok t d w hw hmay hd hl).mono ?_
  rintro e w' ⟨v, rfl, out⟩
  have hlen : (t.bytes d).length = 53 + t.len := by rw [bytes_length]; have := hd.1; rw [u8s_length] at this; omega
  rcases out.own.2 with ⟨_, h0⟩ | ⟨g, cap, cur, rfl, _, _, hc, hm, _⟩
  · omega
  · rw [hlen] at hc ⊢
    exact ⟨⟨g, 0, none⟩, cap, rfl, hlen ▸ out, hc, by unfold maxLen at hm; omega⟩

theorem Reads.take {w : World} {B n : Nat} {A : Option Addr} {bs : List Int} (h : Reads w B 1 A n (u8s bs)) (k : Nat) (hk : k ≤ n) : Reads w B 1 A k (u8s (bs.take k)) := by
  have hl : bs.length = n := by have := h.1; rw [u8s_length] at this; omega
  refine ⟨by rw [u8s_length, List.length_take]; omega, fun h0 => ?_⟩
  obtain ⟨ad, e, hB, hc⟩ := h.2 (by omega)
  refine ⟨ad, e, hB, fun j u hu => hc j u ?_⟩
  have e : u8s (bs.take k) = (u8s bs).take k := by simp [u8s]
  rw [e, List.getElem?_take] at hu
  by_cases hj : j < k
  · rwa [if_pos hj] at hu
  · rw [if_neg hj] at hu; cases hu

theorem okb_bytes1 : Okb bytes1 := by
  intro x hx
  rcases List.mem_cons.1 hx with rfl | hx
  · omega
  · have := List.eq_of_mem_replicate hx; omega

theorem tx1_wf : tx1.Wf := by constructor <;> decide

def txA : Txn := { Txn.zero with g := 4294967296, p := 4294967296 }
def txB : Txn := { Txn.zero with g := 4294967296, p := 4294967295, v := 4294967295 }
theorem txA_wf : txA.Wf := by constructor <;> decide
theorem txB_wf : txB.Wf := by constructor <;> decide
def txC (k : Int) (A : Option Addr) : Txn := { Txn.zero with k := k, a := A, len := 10, cap := 10 }
theorem build27A (w : World) : (Instr.build 27 #[(5, .int .u64 4294967296), (6, .int .u64 4294967296)]).run Try.prog w = .ok (.agg txA.cells) w := run_build w 27 _ _ (by kernel_rfl)
theorem build27B (w : World) : (Instr.build 27 #[(5, .int .u64 4294967296), (6, .int .u64 4294967295), (4, .int .u64 4294967295)]).run Try.prog w = .ok (.agg txB.cells) w := run_build w 27 _ _ (by kernel_rfl)
theorem build27C (k : Int) (A : Option Addr) (w : World) : (Instr.build 27 #[(0, .int .u8 k), (7, .slice A 10 10)]).run Try.prog w = .ok (.agg (txC k A).cells) w := run_build w 27 _ _ (by kernel_rfl)
theorem build27one (w : World) : (Instr.build 27 #[(0, .int .u8 1)]).run Try.prog w = .ok (.agg tx1.cells) w := run_build w 27 _ _ (by kernel_rfl)

theorem taken1 {w w' : World} {t : Txn} (h : Taken w w' bytes1 t) : tx1 = { t with a := tx1.a, len := tx1.len, cap := tx1.cap } ∧ t.len = 0 := by
  obtain ⟨A, c, rfl, _⟩ := h.1 bytes1_E
  exact ⟨rfl, rfl⟩

theorem put1 (w : World) : Calls Try.prog 7 #[.agg tx1.cells] w fun e w' => ∃ ad c, e = .returned (.tuple #[.slice (some ad) 53 c, .int .i64 0]) ∧ Out w w' (.slice (some ad) 53 c) bytes1 ∧ 53 ≤ c ∧ c ≤ 9223372036854775807 := by
  refine (put_form tx1 [] w tx1_wf tx1_may Reads.none_ (by decide)).mono ?_
  rw [tx1_bytes]
  exact fun _ _ h => h

theorem take_bytes1 {wb w : World} {ad : Addr} {c : Nat} (out : Out wb w (.slice (some ad) 53 c) bytes1) (hc : 53 ≤ c) (hl : c ≤ 9223372036854775807) :
    Calls Try.prog 14 #[.slice (some ad) 53 c] w fun e w' => ∃ t : Txn, e = .returned (.tuple #[.agg t.cells, .int .i64 0]) ∧ tx1 = { t with a := tx1.a, len := tx1.len, cap := tx1.cap } ∧ t.len = 0 ∧ Below w.heap.size w w' := by
  refine (take_any 53 c (some ad) bytes1 w out.reads okb_bytes1 (by omega) hc hl).mono ?_
  rintro e w' ⟨t, rfl, ht, hb⟩
  exact ⟨t, by rw [bytes1_E], (taken1 ht).1, (taken1 ht).2, hb⟩

theorem take_bytes52 {wb w : World} {ad : Addr} {c : Nat} (out : Out wb w (.slice (some ad) 53 c) bytes1) (hc : 53 ≤ c) (hl : c ≤ 9223372036854775807) :
    Calls Try.prog 14 #[.slice (some ad) 52 c] w fun e w' => e = .returned (.tuple #[.agg Txn.zero.cells, .int .i64 2]) ∧ Below w.heap.size w w' := by
  refine (take_any 52 c (some ad) (bytes1.take 52) w (out.reads.take 52 (by omega)) (okb_bytes1.take 52) (by omega) (by omega) hl).mono ?_
  rintro e w' ⟨t, rfl, ht, hb⟩
  rw [bytes1_short]
  exact ⟨by rw [ht.2 (by rw [bytes1_short]; omega)], hb⟩

theorem take_bytes54 {wb w : World} {ad : Addr} {c : Nat} (out : Out wb w (.slice (some ad) 54 c) (bytes1 ++ [0])) (hc : 54 ≤ c) (hl : c ≤ 9223372036854775807) :
    Calls Try.prog 14 #[.slice (some ad) 54 c] w fun e w' => e = .returned (.tuple #[.agg Txn.zero.cells, .int .i64 2]) ∧ Below w.heap.size w w' := by
  have hok : Okb (bytes1 ++ [0]) := by
    intro x hx
    rcases List.mem_append.1 hx with hx | hx
    · exact okb_bytes1 x hx
    · have := List.mem_singleton.1 hx; omega
  refine (take_any 54 c (some ad) (bytes1 ++ [0]) w out.reads hok (by omega) hc hl).mono ?_
  rintro e w' ⟨t, rfl, ht, hb⟩
  rw [bytes1_more]
  exact ⟨by rw [ht.2 (by rw [bytes1_more]; omega)], hb⟩

theorem same_tx1 (t : Txn) (w : World) (ht : tx1 = { t with a := tx1.a, len := tx1.len, cap := tx1.cap }) (hl : t.len = 0) : Calls Try.prog 16 #[.agg tx1.cells, .agg t.cells] w fun e w' => e = .returned (.bool true) ∧ Below w.heap.size w w' := by
  refine same_true tx1 t [] w ?_ Reads.none_ (by rw [hl]; exact Reads.none_)
  rw [ht]

/-- one byte more behind a slice: it lies in memory, its length and capacity are known -/
theorem wpList_app1 {wb w : World} {ops : Array Oper} {rest : List Oper} {o : Oper} {a : Act} {Q : Exit → Act → World → Prop} (hgd : o.guard = none) (s x : Operand)
    (ho : o.op = .call { callee := .builtin .append, args := #[s, x], argTypes := #[25, 25] })
    {u : Value} {xs : List Int} (k : Int) (hs : a.eval s = u) (out : Out wb w u xs) {g : Nat} (hx : a.eval x = .slice (some ⟨g, 0, none⟩) 1 1) (hc : w.cell? ⟨g, 0, none⟩ = some (.int .u8 k))
    (n : Nat) (hn : xs.length + 1 = n) (hlen : n ≤ 1000000)
    (h : ∀ ad c w', Out wb w' (.slice (some ad) n c) (xs ++ [k]) → n ≤ c → c ≤ 9223372036854775807 → w.grownBy w' u.ownBlock → wpList Try.prog ops Q rest (a.put o.dst (.slice (some ad) n c)) w') : wpList Try.prog ops Q (o :: rest) a w := by
  refine wpList_app hgd s x ho (ys := [k]) (B := g + 1) hs out hx ⟨rfl, fun _ => ⟨_, rfl, by simp, fun j u hu => ?_⟩⟩ (by omega) fun v' w' h2 hgr => ?_
  · match j, hu with
    | 0, hu => simp [u8s] at hu; subst hu; simpa [Addr.add] using hc
  · have hl2 : (xs ++ [k]).length = n := by simp; omega
    rcases h2.own.2 with ⟨_, h0⟩ | ⟨g', cap, cur, rfl, _, _, hcc, hm, _⟩
    · omega
    · rw [hl2] at hcc ⊢
      exact h _ cap w' (hl2 ▸ h2) hcc (by unfold maxLen at hm; omega) hgr

theorem mostA (w : World) : Calls Try.prog 9 #[.agg txA.cells] w fun e w' => e = .returned (.tuple #[.int .u64 0, .bool false]) ∧ Below w.heap.size w w' := by
  refine (most_any txA w txA_wf).mono ?_
  rintro e w' ⟨rfl, rfl⟩
  exact ⟨rfl, (Below.refl _ _).alloc (Nat.le_refl _) _⟩
theorem mostB (w : World) : Calls Try.prog 9 #[.agg txB.cells] w fun e w' => e = .returned (.tuple #[.int .u64 18446744073709551615, .bool true]) ∧ Below w.heap.size w w' := by
  refine (most_any txB w txB_wf).mono ?_
  rintro e w' ⟨rfl, rfl⟩
  exact ⟨rfl, (Below.refl _ _).alloc (Nat.le_refl _) _⟩
theorem leastC (k n : Int) (A : Option Addr) (w : World) (h : (txC k A).least = n) : Calls Try.prog 12 #[.agg (txC k A).cells] w fun e w' => e = .returned (.int .u64 n) ∧ Below w.heap.size w w' := by
  refine (least_any (txC k A) w (by show 10 ≤ _; omega)).mono ?_
  rintro e w' ⟨rfl, rfl⟩
  exact ⟨by rw [h], (Below.refl _ _).alloc (Nat.le_refl _) _⟩

theorem Boxed.kept_row {wb w w' : World} {u : Value} {xs : List Int} {g : Nat} {t : Txn} (h : Boxed w g t) (out : Out wb w u xs) (hg : w.grownBy w' u.ownBlock) : Boxed w' g t :=
  Blk.grown h hg (Ne.symm (own_blk_ne out.own h (by decide)))

set_option maxHeartbeats 3200000 in
set_option maxRecDepth 100000 in
theorem known_any (w : World) : Calls Try.prog 6 #[] w fun e w' => e = .returned (.bool true) ∧ Below w.heap.size w w' := by
  have hb1 := build27one
  have hbA := build27A
  have hbB := build27B
  have hbC := build27C
  have hmk : ∀ W : World, (Instr.makeSlice 25 (.int .i64 10) (.int .i64 10)).run Try.prog W = .ok (.slice (some ⟨W.heap.size, 0, none⟩) 10 10) (W.alloc (.cells (zeros 10) 5)) := fun W => by
    obtain ⟨i0, hi, hz0, hz1, hz2⟩ := info_parts info5
    have h := run_make_rowN (P := Try.prog) 25 5 i0 (.int .u8 0) Try.underlying25 hi hz0 .i64 .i64 10 10 (Nat.le_refl _) (by rw [hz2]; omega) (by omega) W
    rw [hz1, Nat.mul_one] at h
    exact h
  go_enter Try.func6, Try.ntmps6
  go_wp2_with (first | ((with_reducible refine at_none rfl ?_); refine wpList_storeTx rfl (.tmp 1) (.tmp 14) rfl w.heap.size rfl tx1 rfl (Boxed.new w Txn.zero) rfl ?_; intro w1 hbx hg1; have HB := Lib.hid hbx; have HLW := Lib.hid (show Below w.heap.size w w1 from ((Below.refl _ _).alloc (Nat.le_refl _) _).grown hg1 (by simp) (fun k e => by injection e with e; omega)); have HL := Lib.hid (show Below w.heap.size w w1 from ((Below.refl _ _).alloc (Nat.le_refl _) _).grown hg1 (by simp) (fun k e => by injection e with e; omega)); clear hbx hg1) | ((with_reducible refine at_dst 16 rfl ?_); refine wpList_loadTx rfl (.tmp 1) rfl w.heap.size rfl tx1 HB.out ?_))
  refine (put1 _).mono ?_
  rintro e w2 ⟨ad, c, rfl, out2, hc1, hc2⟩
  obtain ⟨ad', hA, _, hcell0⟩ := cell_of_reads out2.reads (show 0 < 53 by omega)
  injection hA with hA
  subst hA
  rw [show bytes1.getD 0 0 = 1 from rfl] at hcell0
  have hb0 : w2.cell? ad = some (.int .u8 1) := by simpa [Addr.add] using hcell0
  have OUT2 := Lib.hid out2
  have HB1 := Lib.hid (HB.out.below out2.bel (Blk.lt HB.out))
  have HL2 := Lib.hid (HL.out.trans (out2.bel.mono HL.out.size))
  clear hcell0 out2
  go_wp2_with fail
  refine (take_bytes1 OUT2.out hc1 hc2).mono ?_
  rintro e w3 ⟨t4, rfl, ht4, hl4, hb3⟩
  have HT4 := Lib.hid ht4
  have HL4 := Lib.hid hl4
  have OUT3 := Lib.hid (OUT2.out.kept hb3)
  have HB1' := Lib.hid (HB1.out.below hb3 (Blk.lt HB1.out))
  have HL3 := Lib.hid (HL2.out.trans (hb3.mono HL2.out.size))
  clear ht4 hl4 hb0 hb3 HB HB1 HL HL2 OUT2
  go_wp2_with ((with_reducible refine at_none rfl ?_); refine wpList_storeTx rfl (.tmp 4) (.tmp 36) rfl w3.heap.size rfl t4 rfl (Boxed.new w3 Txn.zero) rfl ?_; intro w4 hbx4 hg4; have HB4 := Lib.hid hbx4; have hb4 : Below w3.heap.size w3 w4 := ((Below.refl _ _).alloc (Nat.le_refl _) _).grown hg4 (by simp) (fun k e => by injection e with e; omega); have OUT4 := Lib.hid (OUT3.out.kept hb4); have HB1 := Lib.hid (HB1'.out.below hb4 (Blk.lt HB1'.out)); have HL4w := Lib.hid (HL3.out.trans (hb4.mono HL3.out.size)); clear hbx4 hg4 hb4)
  refine (take_bytes52 OUT4.out hc1 hc2).mono ?_
  rintro e w5 ⟨rfl, hb5⟩
  have OUT5 := Lib.hid (OUT4.out.kept hb5)
  have HB1a := Lib.hid (HB1.out.below hb5 (Blk.lt HB1.out))
  have HB4a := Lib.hid (HB4.out.below hb5 (Blk.lt HB4.out))
  have HL5 := Lib.hid (HL4w.out.trans (hb5.mono HL4w.out.size))
  clear hb5 HB1 HB4 OUT4 OUT3 HB1' HL3 HL4w
  go_wp2_with (first | ((with_reducible refine at_dst 47 rfl ?_); at_builtin; refine wpList_app1 (g := w6.heap.size) rfl (.tmp 45) (.tmp 46) rfl 0 ?hs (OUT6.out.alloc _) ?hx ?hc 54 rfl (by omega) ?_; (case hs => rfl); (case hx => rfl); (case hc => simp); intro ad7 c7 w7 out7 hc71 hc72 hg7; have OUT7 := Lib.hid out7; have HB1 := Lib.hid (Boxed.kept_row (HB1b.out.alloc _) (OUT6.out.alloc _) hg7); have HB4 := Lib.hid (Boxed.kept_row (HB4b.out.alloc _) (OUT6.out.alloc _) hg7); have HL7 := Lib.hid (HLW.out.trans (out7.bel.mono HLW.out.size)); clear out7 hg7) | ((with_reducible refine at_none rfl ?_); refine wpList_storeTx rfl (.tmp 6) (.tmp 42) rfl w5.heap.size rfl Txn.zero rfl (Boxed.new w5 Txn.zero) rfl ?_; intro w6 hbx6 hg6; have hb6 : Below w5.heap.size w5 w6 := ((Below.refl _ _).alloc (Nat.le_refl _) _).grown hg6 (by simp) (fun k e => by injection e with e; omega); have OUT6 := Lib.hid (OUT5.out.kept hb6); have HB1b := Lib.hid (HB1a.out.below hb6 (Blk.lt HB1a.out)); have HB4b := Lib.hid (HB4a.out.below hb6 (Blk.lt HB4a.out)); clear hbx6 hg6 hb6))
  refine (take_bytes54 OUT7.out hc71 hc72).mono ?_
  rintro e w8 ⟨rfl, hb8⟩
  have HB1c := Lib.hid (HB1.out.below hb8 (Blk.lt HB1.out))
  have HB4c := Lib.hid (HB4.out.below hb8 (Blk.lt HB4.out))
  have HL8 := Lib.hid (HL7.out.trans (hb8.mono HL7.out.size))
  clear hb8 HB1 HB4 HL7 OUT5 OUT6 HB1a HB4a HL5
  go_wp2_with ((with_reducible refine at_none rfl ?_); refine wpList_storeTx rfl (.tmp 8) (.tmp 49) rfl w8.heap.size rfl Txn.zero rfl (Boxed.new w8 Txn.zero) rfl ?_; intro w9 hbx9 hg9; have hb9 : Below w8.heap.size w8 w9 := ((Below.refl _ _).alloc (Nat.le_refl _) _).grown hg9 (by simp) (fun k e => by injection e with e; omega); have HB1 := Lib.hid (HB1c.out.below hb9 (Blk.lt HB1c.out)); have HB4 := Lib.hid (HB4c.out.below hb9 (Blk.lt HB4c.out)); have HL9 := Lib.hid (HL8.out.trans (hb9.mono HL8.out.size)); clear hbx9 hg9 hb9)
  refine (mostA _).mono ?_
  rintro e wa ⟨rfl, hba⟩
  go_wp2_with fail
  refine (mostB _).mono ?_
  rintro e wb ⟨rfl, hbb⟩
  have HB1d := Lib.hid ((HB1.out.below hba (Blk.lt HB1.out)).below hbb (Blk.lt (HB1.out.below hba (Blk.lt HB1.out))))
  have HB4d := Lib.hid ((HB4.out.below hba (Blk.lt HB4.out)).below hbb (Blk.lt (HB4.out.below hba (Blk.lt HB4.out))))
  have HLb := Lib.hid ((HL9.out.trans (hba.mono HL9.out.size)).trans (hbb.mono (HL9.out.trans (hba.mono HL9.out.size)).size))
  clear hba hbb HB1 HB4 HL9 HB1c HB4c HL8 HB1b HB4b OUT7 hb1 hbA hbB
  go_wp2_with (first | ((with_reducible refine at_dst 61 rfl ?_); refine wpList_loadTx rfl (.tmp 1) rfl w.heap.size rfl tx1 HB1d.out ?_) | ((with_reducible refine at_dst 62 rfl ?_); refine wpList_loadTx rfl (.tmp 4) rfl w3.heap.size rfl t4 HB4d.out ?_) | (go_at_call 16; refine (same_tx1 t4 _ HT4.out HL4.out).mono ?_; rintro e wc ⟨rfl, hbc⟩; have HLc := Lib.hid (HLb.out.trans (hbc.mono HLb.out.size)); clear hbc))
  refine (leastC 2 1240 _ _ rfl).mono ?_
  rintro e wd ⟨rfl, hbd⟩
  go_wp2_with fail
  refine (leastC 3 1040 _ _ rfl).mono ?_
  rintro e we ⟨rfl, hbe⟩
  go_wp2
  go_ret
  have h1 := HLc.out.alloc HLc.out.size (.cells (zeros 10) 5)
  have h2 := h1.trans (hbd.mono h1.size)
  have h3 := h2.alloc h2.size (.cells (zeros 10) 5)
  exact ⟨rfl, h3.trans (hbe.mono h3.size)⟩

end Go.Proofs.Ytpieckeaehninaa
