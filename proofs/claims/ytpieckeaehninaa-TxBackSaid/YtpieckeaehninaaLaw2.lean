/-
  The law TxTakes, walked: it answers true, whatever bytes come in.
-/
import Derived.Test.YtpieckeaehninaaLaw
namespace Go.Proofs.Ytpieckeaehninaa
open Go.RowKit
attribute [local go_sem ↓] load27_of
attribute [local go_sem] run_load27 txAt_drew

theorem Out.formc {wb w : World} {u : Value} {xs : List Int} (h : Out wb w u xs) : ∃ A c, u = .slice A xs.length c ∧ xs.length ≤ c ∧ c ≤ 9223372036854775807 := by
  rcases h.own.2 with ⟨rfl, h0⟩ | ⟨g, cap, cur, rfl, _, _, hc, hm, _⟩
  · exact ⟨none, 0, by rw [h0], by omega, by omega⟩
  · exact ⟨_, cap, rfl, hc, by unfold maxLen at hm; omega⟩

/-- how TxTakes stands behind the program's Take: lent's row, the transaction that was taken, the argument -/
structure TakesSt (w wr : World) (G B : Nat) (t : Txn) (A0 : Option Addr) (c n : Nat) (bs : List Int) : Prop where
  box : Boxed wr G t
  hG : w.heap.size ≤ G
  lent : ∃ xs : List Int, wr.ownsRow w.heap.size 5 1 (.slice A0 n c) n (u8s xs)
  low : ∀ g, (Value.slice A0 n c).ownBlock = some g → g < B
  data : takeE bs = 0 → ∃ A c', t = txOf bs A (bs.length - 53) c' ∧ wr.ownsRow B 5 1 (.slice A (bs.length - 53) c') (bs.length - 53) (u8s (bs.drop 53))
  bad : takeE bs ≠ 0 → t = Txn.zero
  bel : Below w.heap.size w wr

theorem TakesSt.put {w wr : World} {G B g : Nat} {t : Txn} {c n : Nat} {bs : List Int} (h : TakesSt w wr G B t (some ⟨g, 0, none⟩) c n bs) (i : Nat) (x : Int) :
    TakesSt w (wr.setCell ⟨g, i, none⟩ (.int .u8 x)) G B t (some ⟨g, 0, none⟩) c n bs := by
  obtain ⟨xs, hown⟩ := h.lent
  have hne : G ≠ g := fun e => own_blk_ne hown h.box (by decide) (by rw [e]; rfl)
  have hst := hown.stored i (.int .u8 x)
  refine ⟨h.box.far (p := ⟨g, i, none⟩) hne _, h.hG, ⟨xs.set i x, by have := hst.1; rw [u8s, List.map_set]; exact this⟩, h.low, fun h0 => ?_, h.bad, h.bel.setCell (p := ⟨g, i, none⟩) (hown.lt g rfl).1 _⟩
  obtain ⟨A, c', ht, hd⟩ := h.data h0
  refine ⟨A, c', ht, hd.kept hst.2 ?_⟩
  cases hu : (Value.slice A (bs.length - 53) c').ownBlock with
  | none => exact .inl rfl
  | some k =>
    have h1 := (hd.lt k hu).1
    have h2 := h.low g rfl
    exact .inr (fun e => by injection e with e; omega)

theorem reads_of_row {w : World} {base n c B : Nat} {A : Option Addr} {xs : List Int} (h : w.ownsRow base 5 1 (.slice A n c) n (u8s xs)) (hB : w.heap.size ≤ B) : Reads w B 1 A n (u8s xs) :=
  (Reads.of_own h).more hB

/-- two transactions that were taken of the same bytes are one -/
theorem same_taken {w wr : World} {G B : Nat} {t u : Txn} {A0 : Option Addr} {c n : Nat} {bs : List Int} (h : TakesSt w wr G B t A0 c n bs) (W : World) (hW : Below wr.heap.size wr W)
    (hu : takeE bs = 0 → ∃ A c', u = txOf bs A (bs.length - 53) c' ∧ W.ownsRow wr.heap.size 5 1 (.slice A (bs.length - 53) c') (bs.length - 53) (u8s (bs.drop 53))) (hz : takeE bs ≠ 0 → u = Txn.zero) :
    Calls Try.prog 16 #[.agg t.cells, .agg u.cells] W fun e w' => e = .returned (.bool true) ∧ Below W.heap.size W w' := by
  by_cases h0 : takeE bs = 0
  · obtain ⟨A, c1, rfl, h1⟩ := h.data h0
    obtain ⟨A', c2, rfl, h2⟩ := hu h0
    exact same_true _ _ (bs.drop 53) W rfl (reads_of_row (h1.kept_below hW) (Nat.le_refl _)) (reads_of_row h2 (Nat.le_refl _))
  · rw [h.bad h0, hz h0]
    exact same_true _ _ [] W rfl Reads.none_ Reads.none_

set_option maxHeartbeats 3200000 in
set_option maxRecDepth 100000 in
theorem txTakes_any (A : Option Addr) (len cap : Nat) (bs : List Int) (w : World) (hb : Reads w w.heap.size 1 A len (u8s bs)) (hok : Okb bs) (hcap : len ≤ cap) (hl63 : cap ≤ 9223372036854775807) :
    Calls Try.prog 4 #[.slice A len cap] w fun e w' => e = .returned (.bool true) ∧ Below w.heap.size w w' := by
  have HBS := Lib.hid hb
  have HOK := Lib.hid hok
  clear hb hok
  by_cases hbig : 100000 < len
  · go_enter Try.func4, Try.ntmps4
    go_wp2_with fail
    refine (known_any _).mono ?_
    rintro e w1 ⟨rfl, hb1⟩
    go_wp2
    go_ret
    exact ⟨rfl, hb1⟩
  · have hd : decide (100000 < (len : Int)) = false := decide_eq_false (by omega)
    go_enter Try.func4, Try.ntmps4
    go_wp2_with fail
    refine (known_any _).mono ?_
    rintro e w1 ⟨rfl, hb1⟩
    have HB1 := Lib.hid hb1
    have HR1 := Lib.hid (HBS.out.below hb1)
    have HEM := Lib.hid (Out.empty w1)
    clear hb1
    go_wp2_with (at_builtin; refine wpList_app0 (ys := bs) (B := w.heap.size) (m := len) (c := cap) (A := A) rfl (.tmp 14) (.tmp 15) rfl ?hs HEM.out ?hx (HR1.out.alloc HB1.out.size _) (by omega) ?_; (case hs => rfl); (case hx => rfl); intro A0 c0 w2 out2; have OUT2 := Lib.hid out2; clear out2)
    have hA0 : len ≤ c0 ∧ c0 ≤ 9223372036854775807 := by
      have hl : bs.length = len := by have := HBS.out.1; rw [u8s_length] at this; omega
      obtain ⟨A', c', e, h1, h2⟩ := OUT2.out.formc
      injection e with _ _ e3
      subst e3
      exact ⟨by omega, h2⟩
    have hc0 := hA0.1
    have hc1 := hA0.2
    have HL2 := Lib.hid (HB1.out.trans (OUT2.out.bel.mono HB1.out.size))
    clear hA0
    refine (take_any len c0 A0 bs _ OUT2.out.reads HOK.out (by omega) hc0 hc1).mono ?_
    rintro e w3 ⟨t4, rfl, ht4, hb3⟩
    have HT4 := Lib.hid ht4
    have HB3 := Lib.hid hb3
    have hlow : ∀ g, (Value.slice A0 len c0).ownBlock = some g → g < w2.heap.size := fun g e => (OUT2.out.own.lt g e).2
    have HLOW := Lib.hid hlow
    clear ht4 hb3 hlow
    go_wp2_with ((with_reducible refine at_none rfl ?_); refine wpList_storeTx rfl (.tmp 4) (.tmp 20) rfl w3.heap.size rfl t4 rfl (Boxed.new w3 Txn.zero) rfl ?_; intro w4 hbx4 hg4; have HBX4 := Lib.hid hbx4; have HB4 := Lib.hid (show Below w3.heap.size w3 w4 from ((Below.refl _ _).alloc (Nat.le_refl _) _).grown hg4 (by simp) (fun k e => by injection e with e; omega)); clear hbx4 hg4)
    have hl : bs.length = len := by have := HBS.out.1; rw [u8s_length] at this; omega
    have hst : TakesSt w w4 w3.heap.size w2.heap.size t4 A0 c0 len bs := by
      refine ⟨HBX4.out, Nat.le_trans HL2.out.size HB3.out.size, ⟨bs, ?_⟩, HLOW.out, fun h0 => ?_, HT4.out.2, (HL2.out.trans (HB3.out.mono HL2.out.size)).trans (HB4.out.mono (Nat.le_trans HL2.out.size HB3.out.size))⟩
      · have h := ownsRow_lower ((OUT2.out.kept HB3.out).kept HB4.out).own HB1.out.size
        rw [hl] at h
        exact h
      · obtain ⟨A4, c4, ht, hown⟩ := HT4.out.1 h0
        exact ⟨A4, c4, ht, hown.kept_below HB4.out⟩
    have HST := Lib.hid hst
    clear hst hl
    go_loopw [6, 24] (fun _ i wr => ∃ k : Nat, k ≤ len ∧ i = .int .i64 (k : Int) ∧ Hid (TakesSt w wr w3.heap.size w2.heap.size t4 A0 c0 len bs)) (fun _ i _ => (len - intOf i).toNat)
    case atStart => exact ⟨0, Nat.zero_le _, rfl, HST⟩
    case round =>
      obtain ⟨k, hk, rfl, HS⟩ := hrel
      by_cases hlt : k < len
      · obtain ⟨g, hA⟩ : ∃ g, A0 = some ⟨g, 0, none⟩ := by
          obtain ⟨xs, hown⟩ := HS.out.lent
          rcases hown.2 with ⟨_, h0⟩ | ⟨g, cap', cur, e, _⟩
          · omega
          · injection e with e1
            exact ⟨g, e1⟩
        subst hA
        obtain ⟨x, hx⟩ : ∃ x : Int, wr.cell? ⟨g, k, none⟩ = some (.int .u8 x) := by
          obtain ⟨xs, hown⟩ := HS.out.lent
          have hl : xs.length = len := by have := hown.1; rw [u8s_length] at this; omega
          refine ⟨xs[k]'(by omega), ?_⟩
          rw [hown.cellAt k (by omega)]
          simp [u8s]
        have hf : wr.frozen? ⟨g, k, none⟩ = false := by
          obtain ⟨xs, hown⟩ := HS.out.lent
          exact hown.frozenAt k
        have HSN := Lib.hid (HS.out.put k (bits .xor .u8 x 255))
        go_wp2
        go_roundw
        case rel => exact ⟨k + 1, by omega, by go_num, HSN⟩
        case measure => simp [intOf] <;> omega
      · obtain rfl : k = len := by omega
        go_wp2_with fail
        refine (refTake_all k cap A bs _ ((HBS.out.below HS.out.bel).more HS.out.bel.size) HOK.out (by omega) hcap hl63).mono ?_
        rintro e w5 ⟨t7, rfl, ht7, hb5⟩
        have HT7 := Lib.hid ht7
        have HB5 := Lib.hid hb5
        have HBX5 := Lib.hid (HS.out.box.below hb5 (Blk.lt HS.out.box))
        clear ht7 hb5
        go_wp2_with ((with_reducible refine at_none rfl ?_); refine wpList_storeTx rfl (.tmp 7) (.tmp 37) rfl w5.heap.size rfl t7 rfl (Boxed.new w5 Txn.zero) rfl ?_; intro w6 hbx6 hg6; have hb6 : Below w5.heap.size w5 w6 := ((Below.refl _ _).alloc (Nat.le_refl _) _).grown hg6 (by simp) (fun k e => by injection e with e; omega); have HB6 := Lib.hid hb6; have x7 := txAt_of hbx6; have x4 := txAt_of (HBX5.out.below hb6 (Blk.lt HBX5.out)); clear hbx6 hg6 hb6)
        refine (same_taken HS.out w6 (HB5.out.trans (HB6.out.mono HB5.out.size)) (fun h0 => ?_) HT7.out.2).mono ?_
        · obtain ⟨A', c', ht, hown⟩ := HT7.out.1 h0
          exact ⟨A', c', ht, hown.kept_below HB6.out⟩
        rintro e w7 ⟨rfl, hb7⟩
        go_wp2
        go_ret
        have b6 := HB5.out.trans (HB6.out.mono HB5.out.size)
        have b7 := b6.trans (hb7.mono b6.size)
        exact ⟨by first | rfl | simp, HS.out.bel.trans (b7.mono HS.out.bel.size)⟩

end Go.Proofs.Ytpieckeaehninaa
