/-
  The transaction of bytes: the document's 'Take'.
-/
import Derived.Test.YtpieckeaehninaaTake
import Derived.Test.YtpieckeaehninaaRefMay
namespace Go.Proofs.Ytpieckeaehninaa
open Go.RowKit
attribute [local go_sem] build27

theorem run_mid (ad : Addr) (len cap lo hi : Nat) (W : World) (z1 z2 : Int) (h1 : z1 = (lo : Int)) (h2 : z2 = (hi : Int)) (hlo : lo < hi) (hhi : hi ≤ len) (_hcap : len ≤ cap) (_hl : cap ≤ 9223372036854775807) :
    (Instr.slice 25 (.slice (some ad) len cap) (some (.int .i64 z1)) (some (.int .i64 z2)) none).run Try.prog W = .ok (.slice (some (ad.add lo)) (hi - lo) (cap - lo)) W := by
  have h25 := Try.underlying25
  have h5 := Try.sizeOf5
  subst h1; subst h2
  have hc : ¬ cap = lo := by omega
  go_simp
  rw [if_pos (by omega), if_pos (by omega)]

theorem of_mid {w : World} {B len : Nat} {ad : Addr} {bs : List Int} (h : Reads w B 1 (some ad) len (u8s bs)) (hb : Okb bs) (lo m c : Nat) (hm : lo + m ≤ len) (hm0 : 0 < m) (hm8 : m ≤ 8) :
    Calls Try.prog 23 #[.slice (some (ad.add lo)) m c] w fun e w' => e = .returned (.int .u64 (numOf ((bs.drop lo).take m))) ∧ w = w' := by
  refine of_any B m c _ ((bs.drop lo).take m) w ?_ ((hb.drop lo).take m) hm8
  have hl : len = bs.length := by have := h.1; rw [u8s_length] at this; omega
  refine ⟨by rw [u8s_length, List.length_take, List.length_drop]; omega, fun _ => ?_⟩
  obtain ⟨ad', e, hB, hc⟩ := h.2 (by omega)
  injection e with e; subst e
  refine ⟨_, rfl, by rw [block_of_add]; exact hB, fun j u hu => ?_⟩
  rw [add_of_add]
  refine hc _ u ?_
  have e : u8s ((bs.drop lo).take m) = ((u8s bs).drop lo).take m := by simp [u8s]
  rw [e, List.getElem?_take] at hu
  by_cases hj : j < m
  · rw [if_pos hj, List.getElem?_drop] at hu
    exact hu
  · rw [if_neg hj] at hu; cases hu

theorem refMay_bel (t : Txn) (n : Int) (w : World) (hk0 : 0 ≤ t.k) (h : t.may = n) : Calls Try.prog 8 #[.agg t.cells] w fun e w' => e = .returned (.int .i64 n) ∧ Below w.heap.size w w' := by
  refine (refMay_any t w hk0).mono ?_
  rintro e w' ⟨rfl, rfl⟩
  exact ⟨by rw [h], (Below.refl _ _).alloc (Nat.le_refl _) _⟩

theorem splice_snoc {α : Type} (L : List α) (off : Nat) (xs : List α) (x : α) (h : off + xs.length < L.length) : (splice L off xs).set (off + xs.length) x = splice L off (xs ++ [x]) := by
  unfold splice
  have h1 : (L.take off).length = off := by rw [List.length_take]; omega
  rw [List.set_append_right _ _ (by omega), h1, Nat.add_sub_cancel_left, List.set_append_right _ _ (by omega), Nat.sub_self, List.length_append, List.length_singleton, ← Nat.add_assoc]
  congr 1
  rw [List.append_assoc]
  congr 1
  rw [List.drop_eq_getElem_cons (by omega)]
  rfl

theorem splice_set_low {α : Type} (L : List α) (off j : Nat) (xs : List α) (x : α) (hj : j < off) (h : off ≤ L.length) : (splice L off xs).set j x = splice (L.set j x) off xs := by
  unfold splice
  have h1 : (L.take off).length = off := by rw [List.length_take]; omega
  rw [List.set_append_left _ _ (by omega), List.take_set, List.drop_set_of_lt (by omega)]

/-- the cells of a transaction whose k first bytes of From and To are laid -/
def mids (X : Txn) (fs ts : List Int) : List Value := splice (splice X.cells.toList 1 (u8s fs)) 9 (u8s ts)

theorem mids_step (X : Txn) (fs ts : List Int) (a b : Int) (k : Nat) (hf : fs.length = k) (ht : ts.length = k) (hk : k < 8) :
    ((mids X fs ts).set (1 + k) (.int .u8 a)).set (9 + k) (.int .u8 b) = mids X (fs ++ [a]) (ts ++ [b]) := by
  subst hf
  unfold mids
  have hl : (splice X.cells.toList 1 (u8s fs)).length = 22 := by rw [length_splice _ _ _ (by rw [u8s_length]; simp; omega)]; rfl
  have hl2 : (splice X.cells.toList 1 (u8s (fs ++ [a]))).length = 22 := by rw [length_splice _ _ _ (by rw [u8s_length]; simp; omega)]; rfl
  rw [splice_set_low _ _ _ _ _ (by omega) (by omega)]
  have e1 : (splice X.cells.toList 1 (u8s fs)).set (1 + fs.length) (.int .u8 a) = splice X.cells.toList 1 (u8s (fs ++ [a])) := by
    have := splice_snoc X.cells.toList 1 (u8s fs) (.int .u8 a) (by rw [u8s_length]; simp; omega)
    rw [u8s_length] at this
    rw [this, u8s_append]
    rfl
  rw [e1]
  have := splice_snoc (splice X.cells.toList 1 (u8s (fs ++ [a]))) 9 (u8s ts) (.int .u8 b) (by rw [u8s_length]; omega)
  rw [u8s_length, ht] at this
  rw [this, u8s_append ts]
  rfl

/-- how the document's Take stands: R: the result's block, T: the transaction's -/
structure RefSt (w wr : World) (R T : Nat) (cs : Array Value) (ad : Addr) (len : Nat) (bs : List Int) : Prop where
  r : Boxed wr R Txn.zero
  t : Blk wr T 27 cs
  reads : Reads wr w.heap.size 1 (some ad) len (u8s bs)
  bel : Below w.heap.size w wr
  hR : w.heap.size ≤ R
  hT : w.heap.size ≤ T
  ne : R ≠ T

theorem RefSt.put {w wr : World} {R T : Nat} {cs ds : Array Value} {ad : Addr} {len : Nat} {bs : List Int} (h : RefSt w wr R T cs ad len bs) (i : Nat) (v : Value) (hY : cs.setIfInBounds i v = ds) :
    RefSt w (wr.setCell ⟨T, i, none⟩ v) R T ds ad len bs :=
  ⟨h.r.far (p := ⟨T, i, none⟩) h.ne v, by have := Blk.set_ h.t i v; rw [hY] at this; exact this, h.reads.setCell (p := ⟨T, i, none⟩) h.hT v, h.bel.setCell (p := ⟨T, i, none⟩) h.hT v, h.hR, h.hT, h.ne⟩

theorem RefSt.below {w wr w4 : World} {R T : Nat} {cs : Array Value} {ad : Addr} {len : Nat} {bs : List Int} (h : RefSt w wr R T cs ad len bs) (hb : Below wr.heap.size wr w4) : RefSt w w4 R T cs ad len bs :=
  ⟨h.r.below hb (Blk.lt h.r), h.t.below hb (Blk.lt h.t), h.reads.keep fun _ hp => hb.cell (Nat.lt_of_lt_of_le hp h.bel.size), h.bel.trans (hb.mono h.bel.size), h.hR, h.hT, h.ne⟩

theorem RefSt.byte {w wr : World} {R T : Nat} {cs : Array Value} {ad : Addr} {len : Nat} {bs : List Int} (h : RefSt w wr R T cs ad len bs) (j : Nat) (hj : j < len) : wr.cell? (ad.add j) = some (.int .u8 (bs.getD j 0)) := by
  obtain ⟨ad', e, _, hc⟩ := cell_of_reads h.reads hj
  injection e with e; subst e
  exact hc

theorem RefSt.at_ {w wr : World} {R T : Nat} {cs : Array Value} {ad : Addr} {len : Nat} {bs : List Int} (h : RefSt w wr R T cs ad len bs) (i : Nat) (hi : i < cs.size) : ∃ x, wr.cell? ⟨T, i, none⟩ = some x :=
  ⟨cs[i], (h.t.cell i).trans (Array.getElem?_eq_getElem hi)⟩

theorem Out.empty (wb : World) : Out wb (wb.alloc (.cells #[] 5)) (.slice (some ⟨wb.heap.size, 0, none⟩) 0 0) [] :=
  ⟨World.ownsRow_lit (base := wb.heap.size) (e := 5) (size := 1) wb #[] 0 (Nat.le_refl _) (by decide) rfl, (Below.refl _ _).alloc (Nat.le_refl _) _⟩

theorem _root_.Go.World.ownsRow.kept_below {w w' : World} {base : Nat} {e : TypeId} {size n : Nat} {v : Value} {xs : List Value} (h : w.ownsRow base e size v n xs) (hb : Below w.heap.size w w') : w'.ownsRow base e size v n xs := by
  refine h.kept (only_of_below hb none) ?_
  cases hu : v.ownBlock with
  | none => exact .inl rfl
  | some k => exact .inr (by simp)

theorem RefSt.empty {w wr : World} {R T : Nat} {cs : Array Value} {ad : Addr} {len : Nat} {bs : List Int} (_h : RefSt w wr R T cs ad len bs) (n : Nat) (hn : wr.heap.size = n) : Out wr (wr.alloc (.cells #[] 5)) (.slice (some ⟨n, 0, none⟩) 0 0) [] := by
  subst hn; exact Out.empty wr

theorem mids_length (X : Txn) (fs ts : List Int) (hf : fs.length ≤ 8) (ht : ts.length ≤ 8) : (mids X fs ts).length = 22 := by
  unfold mids
  rw [length_splice, length_splice]
  · rfl
  · rw [u8s_length]; simp; omega
  · rw [length_splice _ _ _ (by rw [u8s_length]; simp; omega), u8s_length]; simp; omega

theorem take_len (l : List Int) (k : Nat) (h : k ≤ l.length) : (l.take k).length = k := by rw [List.length_take]; omega

theorem wpList_appS {wb w : World} {ops : Array Oper} {rest : List Oper} {o : Oper} {a : Act} {Q : Exit → Act → World → Prop} (hgd : o.guard = none) (s x : Operand)
    (ho : o.op = .call { callee := .builtin .append, args := #[s, x], argTypes := #[25, 25] })
    {u : Value} {xs ys : List Int} (hs : a.eval s = u) (out : Out wb w u xs) {B m c : Nat} {A : Option Addr} (hx : a.eval x = .slice A m c) (hr : Reads w B 1 A m (u8s ys))
    (hlen : xs.length + m ≤ 1000000)
    (h : ∀ A' c' w', Out wb w' (.slice A' (xs.length + m) c') (xs ++ ys) → wpList Try.prog ops Q rest (a.put o.dst (.slice A' (xs.length + m) c')) w') : wpList Try.prog ops Q (o :: rest) a w := by
  refine wpList_app hgd s x ho hs out hx hr hlen fun v' w' h2 _ => ?_
  have hm : m = ys.length := by have := hr.1; rw [u8s_length] at this; omega
  obtain ⟨A', c', rfl, _⟩ := h2.form
  rw [List.length_append, ← hm] at h2 ⊢
  exact h A' c' w' h2

theorem wpList_app0 {wb w : World} {ops : Array Oper} {rest : List Oper} {o : Oper} {a : Act} {Q : Exit → Act → World → Prop} (hgd : o.guard = none) (s x : Operand)
    (ho : o.op = .call { callee := .builtin .append, args := #[s, x], argTypes := #[25, 25] })
    {u : Value} {ys : List Int} (hs : a.eval s = u) (out : Out wb w u []) {B m c : Nat} {A : Option Addr} (hx : a.eval x = .slice A m c) (hr : Reads w B 1 A m (u8s ys))
    (hlen : m ≤ 1000000)
    (h : ∀ A' c' w', Out wb w' (.slice A' m c') ys → wpList Try.prog ops Q rest (a.put o.dst (.slice A' m c')) w') : wpList Try.prog ops Q (o :: rest) a w :=
  wpList_appS hgd s x ho hs out hx hr (by simpa using hlen) fun A' c' w' h2 => by
    have e : ([] : List Int).length + m = m := by simp
    rw [e] at h2 ⊢
    exact h A' c' w' h2

set_option maxHeartbeats 3200000 in
set_option maxRecDepth 100000 in
theorem refTake_any (len cap : Nat) (A : Option Addr) (bs : List Int) (w : World) (h : Reads w w.heap.size 1 A len (u8s bs)) (hb : Okb bs) (hlen : 53 ≤ len) (hbig : len ≤ 1000000) (hcap : len ≤ cap) (hl63 : cap ≤ 9223372036854775807) :
    Calls Try.prog 15 #[.slice A len cap] w fun e w' => ∃ t, e = .returned (.tuple #[.agg t.cells, .int .i64 (takeE bs)]) ∧ Taken w w' bs t ∧ Below w.heap.size w w' := by
  have hl : bs.length = len := by have := h.1; rw [u8s_length] at this; omega
  obtain ⟨ad, rfl, hadb, _⟩ := cell_of_reads h (show 0 < len by omega)
  have HL := Lib.hid hl
  have HR := Lib.hid h
  have HOK := Lib.hid hb
  clear hl h hb
  have hbx := Boxed.new (w.alloc (.cells Txn.zero.cells 27)) Txn.zero
  rw [show (w.alloc (.cells Txn.zero.cells 27)).heap.size = w.heap.size + 1 by simp] at hbx
  have HBX := Lib.hid hbx
  clear hbx
  have hd53 : decide ((len : Int) < 53) = false := decide_eq_false (by omega)
  have hm49 := fun W => run_mid ad len cap 49 53 W 49 53 rfl rfl (by omega) (by omega) hcap hl63
  go_enter Try.func15, Try.ntmps15
  go_wp2_with ((with_reducible refine at_none rfl ?_); refine wpList_storeTx rfl (.tmp 4) (.tmp 7) rfl (w.heap.size + 1) rfl Txn.zero rfl HBX.out rfl ?_; intro w2 hb2 hg2; have HB2 := Lib.hid hb2; clear hb2)
  have hB0 : Blk ((w.alloc (.cells Txn.zero.cells 27)).alloc (.cells Txn.zero.cells 27)) w.heap.size 27 Txn.zero.cells := (Boxed.new w Txn.zero).alloc _
  have hbel2 : Below w.heap.size w w2 := (((Below.refl _ _).alloc (Nat.le_refl _) _).alloc (by simp) _).grown hg2 (by simp; omega) (fun k e => by injection e with e; omega)
  have ST2 := Lib.hid (show RefSt w w2 w.heap.size (w.heap.size + 1) Txn.zero.cells ad len bs from ⟨Blk.grown hB0 hg2 (by simp), HB2.out, HR.out.below hbel2, hbel2, Nat.le_refl _, Nat.le_succ _, by omega⟩)
  obtain ⟨T, hT⟩ : ∃ x, x = w.heap.size + 1 := ⟨_, rfl⟩
  rw [← hT] at ST2
  rw [← hT]
  clear hB0 hbel2 hg2 HB2 HBX HR hT
  have hw0 : IntKind.u64.wrap ((len : Int) - 53) = (len : Int) - 53 := by rw [IntKind.wrap_u64]; omega
  refine (of_mid ST2.out.reads HOK.out 49 4 _ (by omega) (by omega) (by omega)).mono ?_
  rintro e wx ⟨rfl, rfl⟩
  by_cases hN : numOf ((bs.drop 49).take 4) = (len : Int) - 53
  · have hne : (numOf ((bs.drop 49).take 4) != (len : Int) - 53) = false := by simp [hN]
    have hE : takeE bs = (txOf bs none (len - 53) 0).may := by
      have hl := HL.out
      rw [takeE, if_neg (by omega), if_pos (by rw [hN]; omega), hl]
    have HE := Lib.hid hE
    clear hN hE
    have hc0' := ST2.out.byte 0 (by omega)
    have hc0 : w2.cell? ad = some (.int .u8 (bs.getD 0 0)) := by simpa [Addr.add] using hc0'
    have ct0 := ST2.out.t.cell 0
    have ft0 := ST2.out.t.frozen 0
    clear hc0'
    generalize hc0e : bs.getD 0 0 = c0 at hc0
    have HC0 := Lib.hid hc0e
    clear hc0e
    go_wp2
    have ST3 := Lib.hid (show RefSt w (w2.setCell ⟨T, 0, none⟩ (.int .u8 c0)) w.heap.size T (mids { Txn.zero with k := c0 } [] []).toArray ad len bs from ST2.out.put 0 (.int .u8 c0) rfl)
    clear hc0 ct0 ft0 ST2
    go_loopw [5] (fun i wr => ∃ (k : Nat), k ≤ 8 ∧ i = .int .i64 (k : Int) ∧ Hid (RefSt w wr w.heap.size T (mids { Txn.zero with k := c0 } ((bs.drop 1).take k) ((bs.drop 9).take k)).toArray ad len bs)) (fun i _ => (8 - intOf i).toNat)
    case atStart => exact ⟨0, by omega, rfl, ST3⟩
    case round =>
      obtain ⟨k, hk, rfl, ST⟩ := hrel
      by_cases hlt8 : k < 8
      · have h1 := ST.out.byte (1 + k) (by omega)
        have hl1 : ((bs.drop 1).take k).length = k := take_len _ _ (by rw [List.length_drop, HL.out]; omega)
        have hl9 : ((bs.drop 9).take k).length = k := take_len _ _ (by rw [List.length_drop, HL.out]; omega)
        have hsz : (mids { Txn.zero with k := c0 } ((bs.drop 1).take k) ((bs.drop 9).take k)).toArray.size = 22 := by
          rw [List.size_toArray]; exact mids_length _ _ _ (by omega) (by omega)
        obtain ⟨x1, hx1⟩ := ST.out.at_ (1 + k) (by rw [hsz]; omega)
        have hf1 := ST.out.t.frozen (1 + k)
        have hs1 := take_snoc (bs.drop 1) k (by rw [List.length_drop, HL.out]; omega)
        have hs9 := take_snoc (bs.drop 9) k (by rw [List.length_drop, HL.out]; omega)
        rw [getD_drop] at hs1 hs9
        have h9 := ST.out.byte (9 + k) (by omega)
        generalize bs.getD (1 + k) 0 = a at h1 hs1
        generalize bs.getD (9 + k) 0 = b at h9 hs9
        have st1 := ST.out.put (1 + k) (.int .u8 a) rfl
        have h9' := h9
        have h9 : (wr.setCell ⟨T, 1 + k, none⟩ (.int .u8 a)).cell? (ad.add (9 + k)) = some (.int .u8 b) := by
          rw [World.cell?_setCell_other _ _ _ _ (fun e => by have := congrArg Addr.block e; rw [block_of_add] at this; have h3 : ad.block = T := this.symm; have := ST.out.hT; omega)]
          exact h9'
        obtain ⟨x2, hx2⟩ := st1.at_ (9 + k) (by rw [Array.size_setIfInBounds, hsz]; omega)
        have hf2 := st1.t.frozen (9 + k)
        have st2 := st1.put (9 + k) (.int .u8 b) rfl
        have hm := mids_step { Txn.zero with k := c0 } _ _ a b k hl1 hl9 hlt8
        rw [← hs1, ← hs9] at hm
        rw [List.setIfInBounds_toArray, List.setIfInBounds_toArray, hm] at st2
        have STN := Lib.hid st2
        clear st2 hm st1 h9' hs1 hs9 hsz hl1 hl9 ST
        go_wp2
        go_roundw
        case rel => exact ⟨k + 1, by omega, by go_num, STN⟩
        case measure => simp [intOf] <;> omega
      · obtain rfl : k = 8 := by omega
        have hm : mids { Txn.zero with k := c0 } ((bs.drop 1).take 8) ((bs.drop 9).take 8) = ((({ Txn.zero with k := c0 } : Txn).setFs (bs.drop 1)).setTs (bs.drop 9)).cells.toList := by
          unfold mids
          rw [splice_fs _ _ (by rw [List.length_drop, HL.out]; omega), splice_ts _ _ (by rw [List.length_drop, HL.out]; omega)]
        have st4 := ST.out
        rw [hm, Array.toArray_toList] at st4
        obtain ⟨X1, hX1⟩ : ∃ X1, X1 = ((({ Txn.zero with k := c0 } : Txn).setFs (bs.drop 1)).setTs (bs.drop 9)) := ⟨_, rfl⟩
        rw [← hX1] at st4
        have HX1 := Lib.hid hX1
        have ST4 := Lib.hid st4
        clear hm st4 hX1 ST
        have hm17 := fun W => run_mid ad len cap 17 25 W 17 25 rfl rfl (by omega) (by omega) hcap hl63
        have hm25 := fun W => run_mid ad len cap 25 33 W 25 33 rfl rfl (by omega) (by omega) hcap hl63
        have hm33 := fun W => run_mid ad len cap 33 41 W 33 41 rfl rfl (by omega) (by omega) hcap hl63
        have hm41 := fun W => run_mid ad len cap 41 49 W 41 49 rfl rfl (by omega) (by omega) hcap hl63
        go_wp2_with fail
        refine (of_mid ST4.out.reads HOK.out 17 8 _ (by omega) (by omega) (by omega)).mono ?_
        rintro e wx ⟨rfl, rfl⟩
        have c17 := ST4.out.t.cell 17
        have f17 := ST4.out.t.frozen 17
        have ST5 := Lib.hid (ST4.out.put 17 (.int .u64 (numOf ((bs.drop 17).take 8))) (ds := Txn.cells { X1 with n := numOf ((bs.drop 17).take 8) }) rfl)
        clear ST4
        go_wp2_with fail
        refine (of_mid ST5.out.reads HOK.out 25 8 _ (by omega) (by omega) (by omega)).mono ?_
        rintro e wx ⟨rfl, rfl⟩
        have c25 := ST5.out.t.cell 18
        have f25 := ST5.out.t.frozen 18
        have ST6 := Lib.hid (ST5.out.put 18 (.int .u64 (numOf ((bs.drop 25).take 8))) (ds := Txn.cells { ({ X1 with n := numOf ((bs.drop 17).take 8) } : Txn) with v := numOf ((bs.drop 25).take 8) }) rfl)
        clear ST5
        go_wp2_with fail
        refine (of_mid ST6.out.reads HOK.out 33 8 _ (by omega) (by omega) (by omega)).mono ?_
        rintro e wx ⟨rfl, rfl⟩
        have c33 := ST6.out.t.cell 19
        have f33 := ST6.out.t.frozen 19
        have ST7 := Lib.hid (ST6.out.put 19 (.int .u64 (numOf ((bs.drop 33).take 8))) (ds := Txn.cells { ({ ({ X1 with n := numOf ((bs.drop 17).take 8) } : Txn) with v := numOf ((bs.drop 25).take 8) } : Txn) with g := numOf ((bs.drop 33).take 8) }) rfl)
        clear ST6
        go_wp2_with fail
        refine (of_mid ST7.out.reads HOK.out 41 8 _ (by omega) (by omega) (by omega)).mono ?_
        rintro e wx ⟨rfl, rfl⟩
        have c41 := ST7.out.t.cell 20
        have f41 := ST7.out.t.frozen 20
        have ST8 := Lib.hid (ST7.out.put 20 (.int .u64 (numOf ((bs.drop 41).take 8))) (ds := Txn.cells { ({ ({ ({ X1 with n := numOf ((bs.drop 17).take 8) } : Txn) with v := numOf ((bs.drop 25).take 8) } : Txn) with g := numOf ((bs.drop 33).take 8) } : Txn) with p := numOf ((bs.drop 41).take 8) }) rfl)
        clear ST7
        obtain ⟨X6, hX6⟩ : ∃ X6 : Txn, X6 = ({ ({ ({ ({ X1 with n := numOf ((bs.drop 17).take 8) } : Txn) with v := numOf ((bs.drop 25).take 8) } : Txn) with g := numOf ((bs.drop 33).take 8) } : Txn) with p := numOf ((bs.drop 41).take 8) } : Txn) := ⟨_, rfl⟩
        have st8 := ST8.out
        rw [← hX6] at st8
        have hX : ∀ (A : Option Addr) (c : Nat), ({ X6 with a := A, len := len - 53, cap := c } : Txn) = txOf bs A (len - 53) c := by
          intro A c
          rw [hX6, HX1.out, ← HC0.out]
          simp only [Txn.setFs, Txn.setTs, txOf, getD_drop]
        have HX := Lib.hid hX
        have ST9 := Lib.hid st8
        clear hX st8 ST8 hX6
        have hc53 : ∀ W : World, Reads W w.heap.size 1 (some ad) len (u8s bs) → ∃ ad', (∀ W, (Instr.slice 25 (.slice (some ad) len cap) (some (.int .i64 53)) none none).run Try.prog W = .ok (.slice (some ad') (len - 53) (cap - 53)) W) ∧ Reads W w.heap.size 1 (some ad') (len - 53) (u8s (bs.drop 53)) :=
          fun W h => cut_some h 53 53 rfl (by omega) hcap hl63
        obtain ⟨ad53, hcut53, hrd53⟩ := hc53 _ ST9.out.reads
        have HRD := Lib.hid hrd53
        clear hc53 hrd53
        have hk0 : 0 ≤ X6.k := by
          have h1 := HX.out none 0
          have h2 := congrArg Txn.k h1
          have h3 : X6.k = bs.getD 0 0 := h2
          rw [h3]; exact (HOK.out.at_ 0).1
        have HEMP := Lib.hid (ST9.out.empty wr.heap.size (by simp [World.setCell]))
        by_cases hm : takeE bs = 0
        · have HM := Lib.hid hm
          clear hm
          go_wp2_with (first | ((with_reducible refine at_dst 65 rfl ?_); at_builtin; refine wpList_app0 (ys := bs.drop 53) (B := w.heap.size) (m := len - 53) (c := cap - 53) (A := some ad53) rfl (.tmp 62) (.tmp 64) rfl ?hs HEMP.out ?hx (HRD.out.alloc ST9.out.bel.size _) (by omega) ?_; (case hs => rfl); (case hx => rfl); intro A' c' w7 out7; have st7 := ST9.out.below out7.bel; have c21 := st7.t.cell 21; have f21 := st7.t.frozen 21; have ST10 := Lib.hid (st7.put 21 (.slice A' (len - 53) c') (ds := Txn.cells { X6 with a := A', len := len - 53, cap := c' }) rfl); have OUT7 := Lib.hid out7; have HT7 := Lib.hid st7.t; clear st7 out7) | ((with_reducible refine at_dst 67 rfl ?_); refine wpList_loadTx rfl (.tmp 4) rfl T rfl { X6 with a := A', len := len - 53, cap := c' } ST10.out.t ?_) | (go_at_call 8; refine (refMay_bel { X6 with a := A', len := len - 53, cap := c' } 0 _ hk0 (by rw [HX.out]; exact HE.out.symm.trans HM.out)).mono ?_; rintro e wr7 ⟨rfl, hb7⟩; have ST11 := Lib.hid (ST10.out.below hb7); have HB7 := Lib.hid hb7; clear hb7) | ((with_reducible refine at_dst 73 rfl ?_); refine wpList_loadTx rfl (.tmp 4) rfl T rfl { X6 with a := A', len := len - 53, cap := c' } ST11.out.t ?_) | ((with_reducible refine at_none rfl ?_); refine wpList_storeTx rfl (.tmp 2) (.tmp 73) rfl w.heap.size rfl { X6 with a := A', len := len - 53, cap := c' } rfl ST11.out.r rfl ?_; intro w9 hb9 hg9; have HB9 := Lib.hid hb9; clear hb9))
          refine bodyPost_ret (results_tx rfl _ rfl HB9.out) rfl ⟨{ X6 with a := A', len := len - 53, cap := c' }, ?_, ⟨fun _ => ⟨A', c', ?_, ?_⟩, fun h => absurd HM.out h⟩, ?_⟩
          · rw [HM.out]; rfl
          · rw [HL.out]; exact HX.out _ _
          · have o0 := OUT7.out.own
            rw [List.length_drop, HL.out] at o0
            have o1 := o0.kept (only_setCell (p := ⟨T, 21, none⟩) (World.grownBy.refl w7 (some T)) (.inl rfl) (.slice A' (len - 53) c')) (.inr (own_blk_ne o0 HT7.out (by decide)))
            have o2 := o1.kept_below HB7.out
            have o3 := o2.kept hg9 (.inr (own_blk_ne o2 ST11.out.r (by decide)))
            rw [HL.out]
            exact ownsRow_lower o3 ST9.out.bel.size
          · exact ST11.out.bel.grown hg9 ST11.out.bel.size (fun k e => by injection e with e; omega)
        · have HM := Lib.hid hm
          have hbm : (takeE bs != 0) = true := by simpa using hm
          clear hm
          go_wp2_with (first | ((with_reducible refine at_dst 65 rfl ?_); at_builtin; refine wpList_app0 (ys := bs.drop 53) (B := w.heap.size) (m := len - 53) (c := cap - 53) (A := some ad53) rfl (.tmp 62) (.tmp 64) rfl ?hs HEMP.out ?hx (HRD.out.alloc ST9.out.bel.size _) (by omega) ?_; (case hs => rfl); (case hx => rfl); intro A' c' w7 out7; have st7 := ST9.out.below out7.bel; have c21 := st7.t.cell 21; have f21 := st7.t.frozen 21; have ST10 := Lib.hid (st7.put 21 (.slice A' (len - 53) c') (ds := Txn.cells { X6 with a := A', len := len - 53, cap := c' }) rfl); have OUT7 := Lib.hid out7; have HT7 := Lib.hid st7.t; clear st7 out7) | ((with_reducible refine at_dst 67 rfl ?_); refine wpList_loadTx rfl (.tmp 4) rfl T rfl { X6 with a := A', len := len - 53, cap := c' } ST10.out.t ?_) | (go_at_call 8; refine (refMay_bel { X6 with a := A', len := len - 53, cap := c' } (takeE bs) _ hk0 (by rw [HX.out]; exact HE.out.symm)).mono ?_; rintro e wr7 ⟨rfl, hb7⟩; have ST11 := Lib.hid (ST10.out.below hb7); clear hb7) | ((with_reducible refine at_none rfl ?_); refine wpList_storeTx rfl (.tmp 2) (.tmp 71) rfl w.heap.size rfl Txn.zero rfl ST11.out.r rfl ?_; intro w9 hb9 hg9; have HB9 := Lib.hid hb9; clear hb9))
          refine bodyPost_ret (results_tx rfl _ rfl HB9.out) rfl ⟨Txn.zero, rfl, ⟨fun h => absurd h HM.out, fun _ => rfl⟩, ?_⟩
          exact ST11.out.bel.grown hg9 ST11.out.bel.size (fun k e => by injection e with e; omega)
  · have hne : (numOf ((bs.drop 49).take 4) != (len : Int) - 53) = true := by simp [hN]
    have hE : takeE bs = 2 := by
      have hl := HL.out
      rw [takeE, if_neg (by omega), if_neg (by omega)]
    have HE := Lib.hid hE
    clear hN hE
    go_wp2_with (first | ((with_reducible refine at_dst 21 rfl ?_); refine wpList_loadTx rfl (.tmp 4) rfl T rfl Txn.zero ST2.out.t ?_) | ((with_reducible refine at_none rfl ?_); refine wpList_storeTx rfl (.tmp 2) (.tmp 21) rfl w.heap.size rfl Txn.zero rfl ST2.out.r rfl ?_; intro w9 hb9 hg9; have HB9 := Lib.hid hb9; clear hb9))
    refine bodyPost_ret (results_tx rfl _ rfl HB9.out) rfl ⟨Txn.zero, ?_, ⟨fun h => ?_, fun _ => rfl⟩, ?_⟩
    · rw [HE.out]; rfl
    · rw [HE.out] at h; omega
    · exact ST2.out.bel.grown hg9 ST2.out.bel.size (fun k e => by injection e with e; omega)

end Go.Proofs.Ytpieckeaehninaa
