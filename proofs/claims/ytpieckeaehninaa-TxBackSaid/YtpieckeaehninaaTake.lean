/-
  The transaction of bytes: the program's 'Take'.
-/
import Derived.Test.YtpieckeaehninaaOut
import Derived.Test.YtpieckeaehninaaMay
import Derived.Test.YtpieckeaehninaaShelf
import Derived.Laws.CopyOwn
import Derived.Laws.CopyRow
import Derived.Deep.DeepCutAuto
namespace Go.Proofs.Ytpieckeaehninaa
open Go.RowKit

/-- the transaction that bytes tell, its data where it lies -/
def txOf (bs : List Int) (A : Option Addr) (len cap : Nat) : Txn :=
  { k := bs.getD 0 0, f0 := bs.getD 1 0, f1 := bs.getD 2 0, f2 := bs.getD 3 0, f3 := bs.getD 4 0, f4 := bs.getD 5 0, f5 := bs.getD 6 0, f6 := bs.getD 7 0, f7 := bs.getD 8 0,
    t0 := bs.getD 9 0, t1 := bs.getD 10 0, t2 := bs.getD 11 0, t3 := bs.getD 12 0, t4 := bs.getD 13 0, t5 := bs.getD 14 0, t6 := bs.getD 15 0, t7 := bs.getD 16 0,
    n := numOf ((bs.drop 17).take 8), v := numOf ((bs.drop 25).take 8), g := numOf ((bs.drop 33).take 8), p := numOf ((bs.drop 41).take 8), a := A, len := len, cap := cap }

/-- why bytes are none's -/
def takeE (bs : List Int) : Int :=
  if bs.length < 53 then 2 else if numOf ((bs.drop 49).take 4) = (bs.length : Int) - 53 then (txOf bs none (bs.length - 53) 0).may else 2

/-- what Take leaves of bytes bs: the answer t, e -/
def Taken (w w' : World) (bs : List Int) (t : Txn) : Prop :=
  (takeE bs = 0 → ∃ A c, t = txOf bs A (bs.length - 53) c ∧ w'.ownsRow w.heap.size 5 1 (.slice A (bs.length - 53) c) (bs.length - 53) (u8s (bs.drop 53))) ∧ (takeE bs ≠ 0 → t = Txn.zero)

theorem build27k (k : Int) (w : World) : (Instr.build 27 #[(0, .int .u8 k)]).run Try.prog w = .ok (.agg (Txn.cells { Txn.zero with k := k })) w := run_build w 27 _ _ (by kernel_rfl)

attribute [local go_sem] build27

theorem cells_one (t : Txn) : t.cells.all (·.oneCell') = true := by simp [Value.oneCell']

theorem wpList_storeTx {w : World} {ops : Array Oper} {rest : List Oper} {o : Oper} {a : Act} {Q : Exit → Act → World → Prop} (hgd : o.guard = none) (x y : Operand) (ho : o.op = .store 27 x y)
    (g : Nat) (hx : a.eval x = .pointer (some ⟨g, 0, none⟩)) (t : Txn) (hy : a.eval y = .agg t.cells) {old : Array Value} (hb : Blk w g 27 old) (hold : old.size = 22)
    (h : ∀ w', Boxed w' g t → w.grownBy w' (some g) → wpList Try.prog ops Q rest (a.put o.dst undef) w') : wpList Try.prog ops Q (o :: rest) a w := by
  refine wpList_store_row hgd 27 x y ho g t.cells hx hy 27 old hb (by kernel_rfl) hold (cells_one t) (h _ (setRow_heap w g old _ 27 _ hb) ?_)
  exact ⟨rfl, rfl, rfl, by simp [World.setRow], fun k _ hk => setRow_other w g k _ (fun e => hk (by rw [e]))⟩

theorem results_tx {fn : Func} {p q : Tmp} (h : fn.results = #[.cell p 27, .tmp q]) (tmps : Array Value) {w : World} {g : Nat} {t : Txn} (hp : tmps.getD p undef = .pointer (some ⟨g, 0, none⟩)) (hb : Boxed w g t) :
    (results fn tmps).run Try.prog w = .ok (.tuple #[.agg t.cells, tmps.getD q undef]) w := by
  have hp' : tmps[p]?.getD undef = .pointer (some ⟨g, 0, none⟩) := by simpa using hp
  have hl := run_loadVar_row (P := Try.prog) w g 27 27 t.cells (0, 0) _ hb Try.underlying27 rfl (by kernel_rfl)
  simp [results, h, hp', asAddr, hl]

/-- eight bytes for From, for To -/
def Txn.setFs (t : Txn) (l : List Int) : Txn := { t with f0 := l.getD 0 0, f1 := l.getD 1 0, f2 := l.getD 2 0, f3 := l.getD 3 0, f4 := l.getD 4 0, f5 := l.getD 5 0, f6 := l.getD 6 0, f7 := l.getD 7 0 }
def Txn.setTs (t : Txn) (l : List Int) : Txn := { t with t0 := l.getD 0 0, t1 := l.getD 1 0, t2 := l.getD 2 0, t3 := l.getD 3 0, t4 := l.getD 4 0, t5 := l.getD 5 0, t6 := l.getD 6 0, t7 := l.getD 7 0 }

theorem splice_fs (t : Txn) : ∀ (l : List Int), 8 ≤ l.length → splice t.cells.toList 1 (u8s (l.take 8)) = (t.setFs l).cells.toList
  | a0 :: a1 :: a2 :: a3 :: a4 :: a5 :: a6 :: a7 :: l, _ => rfl
  | [], h | [_], h | [_, _], h | [_, _, _], h | [_, _, _, _], h | [_, _, _, _, _], h | [_, _, _, _, _, _], h | [_, _, _, _, _, _, _], h => by simp at h
theorem splice_ts (t : Txn) : ∀ (l : List Int), 8 ≤ l.length → splice t.cells.toList 9 (u8s (l.take 8)) = (t.setTs l).cells.toList
  | a0 :: a1 :: a2 :: a3 :: a4 :: a5 :: a6 :: a7 :: l, _ => rfl
  | [], h | [_], h | [_, _], h | [_, _, _], h | [_, _, _, _], h | [_, _, _, _, _], h | [_, _, _, _, _, _], h | [_, _, _, _, _, _, _], h => by simp at h

/-- copy of eight bytes into a boxed transaction -/
theorem step_copyTx {ops : Array Oper} {o : Oper} {a : Act} {w : World} {K : Act → World → Prop} {Q : Exit → Act → World → Prop} {E : Prop} (hgd : o.guard = none) (d s : Operand)
    (ho : o.op = .call { callee := .builtin .copy, args := #[d, s], argTypes := #[25, 25] }) (off : Nat) (X Y : Txn) (src : List Int) (hsp : splice X.cells.toList off (u8s (src.take 8)) = Y.cells.toList)
    (g : Nat) (hb : Boxed w g X) (hd : a.eval d = .slice (some ⟨g, off, none⟩) 8 8) {B sLen sCap : Nat} {sp : Option Addr} (hs : a.eval s = .slice sp sLen sCap) (hr : Reads w B 1 sp sLen (u8s src)) (h8 : 8 ≤ sLen) (hoff : off ≤ 14)
    (h : ∀ w', Boxed w' g Y → w.grownBy w' (some g) → K (a.put o.dst (.int .i64 8)) w') :
    if Region.wanted o (yielded ops a.tmps) = true then Oper.wp Try.prog o a w K Q else E := by
  have hl : sLen = src.length := by have := hr.1; rw [u8s_length] at this; omega
  have hcl : (u8s (src.take 8)).length = 8 := by rw [u8s_length, List.length_take]; omega
  have hw : Region.wanted o (yielded ops a.tmps) = true := by simp [Region.wanted, hgd]
  rw [if_pos hw]
  obtain ⟨ad, rfl, _, hc⟩ := hr.2 (by omega)
  have hsrc : ∀ j v, (u8s (src.take 8))[j]? = some v → w.cell? (ad.add j) = some v := fun j v hv => hc j v (by
    have hv' : (u8s (src.take 8)) = (u8s src).take 8 := by simp [u8s]
    rw [hv', List.getElem?_take] at hv
    by_cases hj : j < 8
    · rwa [if_pos hj] at hv
    · rw [if_neg hj] at hv; cases hv)
  have hrun := run_copy_row (P := Try.prog) w 25 25 o.type 5 g off 8 8 ad sLen sCap X.cells 27 (u8s (src.take 8)) Try.underlying25 (by kernel_rfl) hb (by rw [hcl]; exact (Nat.min_eq_right h8).symm) hsrc (by rw [hcl]; simp; omega) (u8s_one _)
  have e3 : (X.cells.toList.take off ++ u8s (src.take 8) ++ X.cells.toList.drop (off + (u8s (src.take 8)).length)).toArray = Y.cells := by
    rw [List.append_assoc]
    exact (congrArg List.toArray hsp).trans (Array.toArray_toList)
  rw [e3, hcl] at hrun
  have hh := setRow_heap w g X.cells Y.cells 27 (0, 0) hb
  have hg2 : w.grownBy (w.setRow g Y.cells) (some g) := ⟨rfl, rfl, rfl, by simp [World.setRow], fun k _ hk => setRow_other w g k _ (fun e => hk (by rw [e]))⟩
  have hfin := h _ hh hg2
  generalize w.setRow g Y.cells = w1 at hrun hfin
  unfold Oper.wp
  simp only [execOp, ho, resolve, invoke, builtin, Sem.run_bind, Sem.run_pure, Result.andThen_ok, List.map_toArray, List.map_cons, List.map_nil, hd, hs, hrun]
  exact hfin

set_option maxHeartbeats 1600000 in
set_option maxRecDepth 100000 in
theorem take_short (B len cap : Nat) (A : Option Addr) (bs : List Int) (w : World) (h : Reads w B 1 A len (u8s bs)) (hlen : len < 53) :
    Calls Try.prog 14 #[.slice A len cap] w fun e w' => ∃ t, e = .returned (.tuple #[.agg t.cells, .int .i64 (takeE bs)]) ∧ Taken w w' bs t ∧ Below w.heap.size w w' := by
  have hl : bs.length = len := by have := h.1; rw [u8s_length] at this; omega
  have he : takeE bs = 2 := by rw [takeE, if_pos (by omega)]
  have HL := Lib.hid hl
  have HE := Lib.hid he
  clear hl he h
  obtain ⟨wb, hwb⟩ : ∃ wb, wb = w.alloc (.cells Txn.zero.cells 27) := ⟨_, rfl⟩
  have HB := Lib.hid (show Boxed (w.alloc (.cells Txn.zero.cells 27)) w.heap.size Txn.zero from Boxed.new w Txn.zero)
  go_enter Try.func14, Try.ntmps14
  go_wp2_with ((with_reducible refine at_none rfl ?_); refine wpList_storeTx rfl (.tmp 2) (.tmp 14) rfl w.heap.size rfl Txn.zero rfl HB.out rfl ?_; intro w1 hb1 hg1; have HB1 := Lib.hid hb1; clear hb1)
  refine bodyPost_ret (results_tx rfl _ rfl HB1.out) rfl ⟨Txn.zero, ?_, ⟨fun h => ?_, fun _ => rfl⟩, ?_⟩
  · rw [HE.out]; rfl
  · rw [HE.out] at h; omega
  · exact ((Below.refl _ _).alloc (Nat.le_refl _) _).grown hg1 (by simp) (fun k e => by injection e with e; omega)

theorem cut_some {w : World} {B len cap : Nat} {ad : Addr} {bs : List Int} (h : Reads w B 1 (some ad) len (u8s bs)) (k : Nat) (z : Int) (hz : z = (k : Int)) (hk : k ≤ len) (hcap : len ≤ cap) (hl : cap ≤ 9223372036854775807) :
    ∃ ad', (∀ W, (Instr.slice 25 (.slice (some ad) len cap) (some (.int .i64 z)) none none).run Try.prog W = .ok (.slice (some ad') (len - k) (cap - k)) W) ∧ Reads w B 1 (some ad') (len - k) (u8s (bs.drop k)) := by
  subst hz
  have hr := h.cut hk hcap
  have e : (u8s bs).drop (k * 1) = u8s (bs.drop k) := by simp [u8s]
  rw [e] at hr
  by_cases hc : cap = k
  · rw [if_pos hc] at hr
    refine ⟨ad, fun W => ?_, hr⟩
    have := run_cut (some ad) len cap k W hk hcap hl
    rwa [cutA, if_pos hc] at this
  · rw [if_neg hc] at hr
    refine ⟨ad.add (k * 1), fun W => ?_, hr⟩
    have := run_cut (some ad) len cap k W hk hcap hl
    rwa [cutA, if_neg hc] at this

/-- how Take stands when k bytes are read: R: the result's block, T: the transaction's, S: that of what is left -/
structure TakeSt (w wr : World) (R T S : Nat) (X : Txn) (ad : Addr) (len cap k : Nat) (bs : List Int) : Prop where
  r : Boxed wr R Txn.zero
  t : Boxed wr T X
  s : Blk wr S 25 #[.slice (some ad) (len - k) (cap - k)]
  reads : Reads wr w.heap.size 1 (some ad) (len - k) (u8s (bs.drop k))
  bel : Below w.heap.size w wr
  hR : w.heap.size ≤ R
  hT : w.heap.size ≤ T
  hS : w.heap.size ≤ S
  ne : R ≠ T

theorem TakeSt.neS {w wr : World} {R T S : Nat} {X : Txn} {ad : Addr} {len cap k : Nat} {bs : List Int} (h : TakeSt w wr R T S X ad len cap k bs) : T ≠ S ∧ R ≠ S :=
  ⟨Blk.ne_ h.t h.s (by decide), Blk.ne_ h.r h.s (by decide)⟩

theorem TakeSt.put {w wr : World} {R T S : Nat} {X Y : Txn} {ad : Addr} {len cap k : Nat} {bs : List Int} (h : TakeSt w wr R T S X ad len cap k bs) (i : Nat) (v : Value) (hY : X.cells.setIfInBounds i v = Y.cells) :
    TakeSt w (wr.setCell ⟨T, i, none⟩ v) R T S Y ad len cap k bs :=
  ⟨h.r.far (p := ⟨T, i, none⟩) h.ne v, by have := Blk.set_ h.t i v; rw [hY] at this; exact this, h.s.far (p := ⟨T, i, none⟩) h.neS.1.symm v, h.reads.setCell (p := ⟨T, i, none⟩) h.hT v, h.bel.setCell (p := ⟨T, i, none⟩) h.hT v, h.hR, h.hT, h.hS, h.ne⟩

theorem TakeSt.cut {w wr : World} {R T S : Nat} {X : Txn} {ad ad' : Addr} {len cap k m : Nat} {bs : List Int} (h : TakeSt w wr R T S X ad len cap k bs) (hr : Reads wr w.heap.size 1 (some ad') (len - k - m) (u8s ((bs.drop k).drop m))) :
    TakeSt w (wr.setCell ⟨S, 0, none⟩ (.slice (some ad') (len - k - m) (cap - k - m))) R T S X ad' len cap (k + m) bs := by
  rw [Nat.sub_sub, Nat.sub_sub]
  rw [Nat.sub_sub, List.drop_drop] at hr
  exact ⟨h.r.far (p := ⟨S, 0, none⟩) h.neS.2 _, h.t.far (p := ⟨S, 0, none⟩) h.neS.1 _, Blk.set_ h.s 0 _, hr.setCell (p := ⟨S, 0, none⟩) h.hS _, h.bel.setCell (p := ⟨S, 0, none⟩) h.hS _, h.hR, h.hT, h.hS, h.ne⟩

theorem TakeSt.moved {w wr w4 : World} {R T S : Nat} {X Y : Txn} {ad : Addr} {len cap k : Nat} {bs : List Int} (h : TakeSt w wr R T S X ad len cap k bs) (hg : wr.drew.grownBy w4 (some T)) (hb : Boxed w4 T Y) : TakeSt w w4 R T S Y ad len cap k bs :=
  ⟨Blk.grown (w := wr.drew) h.r hg (by intro e; injection e with e; exact h.ne e), hb, Blk.grown (w := wr.drew) h.s hg (by intro e; injection e with e; exact h.neS.1 e.symm),
    h.reads.drew.grown hg h.bel.size (fun g e => by injection e with e; have := h.hT; omega), h.bel.drew.grown hg h.bel.size (fun g e => by injection e with e; have := h.hT; omega), h.hR, h.hT, h.hS, h.ne⟩

theorem takeSt_a {w w2 w3 : World} {R T : Nat} {X1 : Txn} {ad : Addr} {len cap k : Nat} {bs : List Int} (hr : Boxed w2 R Txn.zero) (hrd : Reads w2 w.heap.size 1 (some ad) (len - k) (u8s (bs.drop k))) (hbel : Below w.heap.size w w2)
    (hg3 : w2.drew.grownBy w3 (some T)) (hb3 : Boxed w3 T X1) (hR : w.heap.size ≤ R) (hT : w.heap.size ≤ T) (ne : R ≠ T) :
    TakeSt w (w3.alloc (.cells #[.slice (some ad) (len - k) (cap - k)] 25)) R T w3.heap.size X1 ad len cap k bs := by
  have hsz : w2.heap.size ≤ w3.heap.size := hg3.size
  have hw : w.heap.size ≤ w2.heap.size := hbel.size
  exact ⟨(Blk.grown (w := w2.drew) hr hg3 (by intro e; injection e with e; exact ne e)).alloc _, hb3.alloc _, Blk.new _ _ _, (hrd.drew.grown hg3 hw (fun g e => by injection e with e; omega)).alloc (by omega) _,
    (hbel.drew.grown hg3 hw (fun g e => by injection e with e; omega)).alloc (by omega) _, hR, hT, by omega, ne⟩

theorem takeSt_b {w w2 w3 : World} {R T : Nat} {X1 : Txn} {ad : Addr} {len cap k : Nat} {bs : List Int} (hr : Boxed w2 R Txn.zero) (hrd : Reads w2 w.heap.size 1 (some ad) (len - k) (u8s (bs.drop k))) (hbel : Below w.heap.size w w2)
    (hg3 : (w2.drew.alloc (.cells #[.slice none 0 0] 25)).grownBy w3 (some T)) (hb3 : Boxed w3 T X1) (hR : w.heap.size ≤ R) (hT : w.heap.size ≤ T) (hTlt : T < w2.heap.size) (ne : R ≠ T) :
    TakeSt w (w3.setCell ⟨w2.heap.size, 0, none⟩ (.slice (some ad) (len - k) (cap - k))) R T w2.heap.size X1 ad len cap k bs := by
  have hw : w.heap.size ≤ w2.heap.size := hbel.size
  have hS3 : Blk w3 w2.heap.size 25 #[.slice none 0 0] := Blk.grown (Blk.new w2.drew 25 #[.slice none 0 0]) hg3 (by intro e; injection e with e; have e' : w2.heap.size = T := e; omega)
  have hlt : R < w2.heap.size := Blk.lt hr
  have hr3 := Blk.grown (Blk.alloc (w := w2.drew) hr (.cells #[.slice none 0 0] 25)) hg3 (by intro e; injection e with e; exact ne e)
  exact ⟨hr3.far (p := ⟨w2.heap.size, 0, none⟩) (by show R ≠ w2.heap.size; omega) _, hb3.far (p := ⟨w2.heap.size, 0, none⟩) (by show T ≠ w2.heap.size; omega) _, Blk.set_ hS3 0 _,
    ((hrd.drew.alloc hw _).grown hg3 (by simp; omega) (fun g e => by injection e with e; omega)).setCell (p := ⟨w2.heap.size, 0, none⟩) hw _,
    (((hbel.drew.alloc hw _).grown hg3 (by simp; omega) (fun g e => by injection e with e; omega))).setCell (p := ⟨w2.heap.size, 0, none⟩) hw _, hR, hT, hw, ne⟩

theorem TakeSt.below {w wr w4 : World} {R T S : Nat} {X : Txn} {ad : Addr} {len cap k : Nat} {bs : List Int} (h : TakeSt w wr R T S X ad len cap k bs) (hb : Below wr.heap.size wr w4) : TakeSt w w4 R T S X ad len cap k bs :=
  ⟨h.r.below hb (Blk.lt h.r), h.t.below hb (Blk.lt h.t), h.s.below hb (Blk.lt h.s), h.reads.keep fun _ hp => hb.cell (Nat.lt_of_lt_of_le hp h.bel.size), h.bel.trans (hb.mono h.bel.size), h.hR, h.hT, h.hS, h.ne⟩

theorem clone_at {w : World} {B n : Nat} {ad : Addr} {d : List Int} (c : Nat) (h : Reads w B 1 (some ad) n (u8s d)) (hn : n ≤ 1000000) :
    Calls Try.prog 22 #[.slice (some ad) n c] w fun e w' => ∃ g c', e = .returned (.slice (some ⟨g, 0, none⟩) n c') ∧ w'.ownsRow w.heap.size 5 1 (.slice (some ⟨g, 0, none⟩) n c') n (u8s d) ∧ Below w.heap.size w w' := by
  have hl : d.length = n := by have := h.1; rw [u8s_length] at this; omega
  refine (Try.bytes_Clone_at ad n c d w hl (by omega) (fun i hi => ?_)).mono ?_
  · obtain ⟨ad', e, _, hc⟩ := cell_of_reads h hi
    injection e with e; subst e
    exact hc
  · rintro e w' ⟨v', rfl, hown, hne, hb⟩
    rcases hown.2 with ⟨e, _⟩ | ⟨g, c', cur, e, _⟩
    · exact absurd e hne
    · subst e
      exact ⟨g, c', rfl, hown, hb⟩

theorem may_bel (t : Txn) (n : Int) (w : World) (h : t.may = n) : Calls Try.prog 11 #[.agg t.cells] w fun e w' => e = .returned (.int .i64 n) ∧ Below w.heap.size w w' := by
  refine (may_any t w).mono ?_
  rintro e w' ⟨rfl, rfl⟩
  exact ⟨by rw [h], (Below.refl _ _).alloc (Nat.le_refl _) _⟩

theorem getD_drop (l : List Int) (k i : Nat) : (l.drop k).getD i 0 = l.getD (k + i) 0 := by simp [List.getD, List.getElem?_drop]

theorem take1_st {w wr : World} {R T S : Nat} {X : Txn} {ad : Addr} {len cap k : Nat} {bs : List Int} (h : TakeSt w wr R T S X ad len cap k bs) (many : Nat) (hm8 : many ≤ 8) (hk : k + many ≤ len) (hcap : len ≤ cap) (hl63 : cap ≤ 9223372036854775807) (hb : Okb bs) :
    Calls Try.prog 21 #[.int .i64 many, .pointer (some ⟨S, 0, none⟩)] wr fun e w' => e = .returned (.int .u64 (numOf ((bs.drop k).take many))) ∧ ∃ ad', TakeSt w w' R T S X ad' len cap (k + many) bs := by
  have hc := take1_any w.heap.size (len - k) (cap - k) S many (some ad) (bs.drop k) wr h.reads (hb.drop k) (by omega) hm8 (by omega) (h.s.cell 0) (h.s.frozen 0) (by omega)
  refine hc.mono ?_
  rintro e w' ⟨rfl, rfl⟩
  refine ⟨rfl, ?_⟩
  have hr := h.reads.cut (k := many) (cap := cap - k) (by omega) (by omega)
  have e : (u8s (bs.drop k)).drop (many * 1) = u8s ((bs.drop k).drop many) := by simp only [Nat.mul_one, u8s, List.map_drop]
  rw [e] at hr
  unfold cutA
  by_cases hcc : cap - k = many
  · rw [if_pos hcc] at hr ⊢
    exact ⟨ad, h.cut hr⟩
  · rw [if_neg hcc] at hr ⊢
    exact ⟨_, h.cut hr⟩

theorem index52 (a b c d : Addr) (w : World) : (Instr.index 52 (.agg #[.pointer (some a), .pointer (some b), .pointer (some c), .pointer (some d)]) (.int .i64 0)).run Try.prog w = .ok (.pointer (some a)) w ∧
    (Instr.index 52 (.agg #[.pointer (some a), .pointer (some b), .pointer (some c), .pointer (some d)]) (.int .i64 1)).run Try.prog w = .ok (.pointer (some b)) w ∧
    (Instr.index 52 (.agg #[.pointer (some a), .pointer (some b), .pointer (some c), .pointer (some d)]) (.int .i64 2)).run Try.prog w = .ok (.pointer (some c)) w ∧
    (Instr.index 52 (.agg #[.pointer (some a), .pointer (some b), .pointer (some c), .pointer (some d)]) (.int .i64 3)).run Try.prog w = .ok (.pointer (some d)) w :=
  ⟨by kernel_rfl, by kernel_rfl, by kernel_rfl, by kernel_rfl⟩
theorem build52 (a b c d : Addr) (w : World) : (Instr.build 52 #[(0, .pointer (some a)), (1, .pointer (some b)), (2, .pointer (some c)), (3, .pointer (some d))]).run Try.prog w = .ok (.agg #[.pointer (some a), .pointer (some b), .pointer (some c), .pointer (some d)]) w := run_build w 52 _ _ (by kernel_rfl)

set_option maxHeartbeats 3200000 in
set_option maxRecDepth 100000 in
theorem take_long (len cap : Nat) (A : Option Addr) (bs : List Int) (w : World) (h : Reads w w.heap.size 1 A len (u8s bs)) (hb : Okb bs) (hlen : 53 ≤ len) (hbig : len ≤ 1000000) (hcap : len ≤ cap) (hl63 : cap ≤ 9223372036854775807) :
    Calls Try.prog 14 #[.slice A len cap] w fun e w' => ∃ t, e = .returned (.tuple #[.agg t.cells, .int .i64 (takeE bs)]) ∧ Taken w w' bs t ∧ Below w.heap.size w w' := by
  have hl : bs.length = len := by have := h.1; rw [u8s_length] at this; omega
  obtain ⟨ad, rfl, hadb, hc0'⟩ := cell_of_reads h (show 0 < len by omega)
  have hc0 : w.cell? ad = some (.int .u8 (bs.getD 0 0)) := by simpa [Addr.add] using hc0'
  obtain ⟨c0, hc0e⟩ : ∃ c0, c0 = bs.getD 0 0 := ⟨_, rfl⟩
  rw [← hc0e] at hc0
  have HC0 := Lib.hid hc0e
  have HL := Lib.hid hl
  have HR := Lib.hid h
  have HOK := Lib.hid hb
  clear hl h hc0' hc0e hb
  have hbx := Boxed.new (w.alloc (.cells Txn.zero.cells 27)) Txn.zero
  rw [show (w.alloc (.cells Txn.zero.cells 27)).heap.size = w.heap.size + 1 by simp] at hbx
  have HBX := Lib.hid hbx
  clear hbx
  have hd53 : decide ((len : Int) < 53) = false := decide_eq_false (by omega)
  have hb27 := build27k c0
  go_enter Try.func14, Try.ntmps14
  go_wp2_with ((with_reducible refine at_none rfl ?_); refine wpList_storeTx rfl (.tmp 4) (.tmp 18) rfl (w.heap.size + 1) rfl { Txn.zero with k := c0 } rfl HBX.out rfl ?_; intro w2 hb2 hg2; have HB2 := Lib.hid hb2; clear hb2)
  have hB0 : Blk ((w.alloc (.cells Txn.zero.cells 27)).alloc (.cells Txn.zero.cells 27)) w.heap.size 27 Txn.zero.cells := (Boxed.new w Txn.zero).alloc _
  have hr2 : Boxed w2 w.heap.size Txn.zero := Blk.grown hB0 hg2 (by simp)
  have hbel2 : Below w.heap.size w w2 := (((Below.refl _ _).alloc (Nat.le_refl _) _).alloc (by simp) _).grown hg2 (by simp; omega) (fun k e => by injection e with e; omega)
  have hsz2 : w.heap.size + 1 < w2.heap.size := Blk.lt HB2.out
  have hread2 := HR.out.below hbel2
  obtain ⟨ad1, hcut1, hrd1⟩ := cut_some hread2 1 1 rfl (by omega) hcap hl63
  obtain ⟨ad9, hcut9, hrd9⟩ := cut_some hread2 9 9 rfl (by omega) hcap hl63
  have HRD1 := Lib.hid hrd1
  have HRD9 := Lib.hid hrd9
  have HR2 := Lib.hid hr2
  have HBEL2 := Lib.hid hbel2
  clear hB0 hr2 hbel2 hread2 hrd1 hrd9 hc0 HBX hb27
  have h81 : 8 ≤ len - 1 := by omega
  have hsp1 := splice_fs { Txn.zero with k := c0 } (bs.drop 1) (by rw [List.length_drop, HL.out]; omega)
  have HSP1 := Lib.hid hsp1
  clear hsp1
  have hw9 : IntKind.i64.wrap 9 = 9 := by decide
  have h27 : ∀ g : Nat, Boxed w2 g Txn.zero → g = g := fun _ _ => rfl
  clear h27
  go_cut [5] (fun s5 wx => ∃ S ad9, s5 = .pointer (some ⟨S, 0, none⟩) ∧ Hid (TakeSt w wx w.heap.size (w.heap.size + 1) S (({ Txn.zero with k := c0 } : Txn).setFs (bs.drop 1)) ad9 len cap 9 bs))
  case first =>
    go_region_law (refine step_copyTx (off := 1) (X := { Txn.zero with k := c0 }) (Y := ({ Txn.zero with k := c0 } : Txn).setFs (bs.drop 1)) (src := bs.drop 1) (g := w.heap.size + 1) (B := w.heap.size) (sLen := len - 1) (sCap := cap - 1) (sp := some ad1) rfl (.tmp 21) (.tmp 23) rfl HSP1.out ?hb ?hd ?hs ?hr h81 (by omega) ?_; (case hb => first | exact HB2.out.drew | exact (HB2.out.drew.alloc _)); (case hd => rfl); (case hs => rfl); (case hr => first | exact HRD1.out.drew | exact (HRD1.out.drew.alloc (by simp; omega) _)); intro w3 hb3 hg3; first | (have hS3 : Blk w3 w2.heap.size 25 #[.slice none 0 0] := Blk.grown (Blk.new w2.drew 25 #[.slice none 0 0]) hg3 (by simp; omega); have hcS := hS3.cell 0; have hfS := hS3.frozen 0) | skip)
    all_goals go_wp2_with fail
    · go_meet
      exact ⟨_, _, rfl, takeSt_a (cap := cap) HR2.out HRD9.out HBEL2.out hg3 hb3 (Nat.le_refl _) (Nat.le_succ _) (by omega)⟩
    · go_meet
      exact ⟨_, _, rfl, takeSt_b (cap := cap) HR2.out HRD9.out HBEL2.out hg3 hb3 (Nat.le_refl _) (Nat.le_succ _) hsz2 (by omega)⟩
  case rest =>
  obtain ⟨S, ad9', rfl, ST⟩ := hcut
  clear HB2 HRD1 HRD9 HR2 HBEL2 HSP1 HR hcut1 hcut9 hg2 hsz2
  obtain ⟨X1, hX1⟩ : ∃ X1, X1 = ({ Txn.zero with k := c0 } : Txn).setFs (bs.drop 1) := ⟨_, rfl⟩
  rw [← hX1] at ST
  have HX1 := Lib.hid hX1
  clear hX1
  have hcS := ST.out.s.cell 0
  obtain ⟨ad17, hcut8, hrd17⟩ := cut_some (cap := cap - 9) ST.out.reads 8 8 rfl (by omega) (by omega) (by omega)
  have hsp2 := splice_ts X1 (bs.drop 9) (by rw [List.length_drop, HL.out]; omega)
  have HSP2 := Lib.hid hsp2
  have HRD17 := Lib.hid hrd17
  have h89 : 8 ≤ len - 9 := by omega
  clear hsp2 hrd17
  go_wp2
  go_cut [] (fun wx => ∃ ad17, Hid (TakeSt w wx w.heap.size (w.heap.size + 1) S (X1.setTs (bs.drop 9)) ad17 len cap 17 bs))
  case first =>
    go_region_law (refine step_copyTx (off := 9) (X := X1) (Y := X1.setTs (bs.drop 9)) (src := bs.drop 9) (g := w.heap.size + 1) (B := w.heap.size) (sLen := len - 9) (sCap := cap - 9) (sp := some ad9') rfl (.tmp 29) (.tmp 30) rfl HSP2.out ST.out.t.drew ?hd ?hs ST.out.reads.drew h89 (by omega) ?_; (case hd => rfl); (case hs => rfl); intro w4 hb4 hg4; have hS4 := Blk.grown ST.out.s.drew hg4 (by intro e; injection e with e; exact ST.out.neS.1 e.symm); have hcS4 := hS4.cell 0; have hfS4 := hS4.frozen 0)
    all_goals
      go_wp2_with fail
      go_meet
      exact ⟨_, (ST.out.moved hg4 hb4).cut (m := 8) (HRD17.out.drew.grown hg4 ST.out.bel.size (fun g e => by injection e with e; omega))⟩
  case rest =>
  obtain ⟨ad17', ST5⟩ := hcut
  clear ST HSP2 HRD17 hcut8 hcS
  obtain ⟨T, hT⟩ : ∃ x, x = w.heap.size + 1 := ⟨_, rfl⟩
  rw [← hT] at ST5
  rw [← hT]
  have HT := Lib.hid hT
  clear hT
  have hmf : ∀ (fn : Fn) (first cap : Array Value) (w : World), (Instr.makeFunc fn first cap).run Try.prog w = .ok (.func fn first cap) w := fun _ _ _ _ => rfl
  have hb52 := build52 ⟨T, 17, none⟩ ⟨T, 18, none⟩ ⟨T, 19, none⟩ ⟨T, 20, none⟩
  have i0 := fun w => (index52 ⟨T, 17, none⟩ ⟨T, 18, none⟩ ⟨T, 19, none⟩ ⟨T, 20, none⟩ w).1
  have i1 := fun w => (index52 ⟨T, 17, none⟩ ⟨T, 18, none⟩ ⟨T, 19, none⟩ ⟨T, 20, none⟩ w).2.1
  have i2 := fun w => (index52 ⟨T, 17, none⟩ ⟨T, 18, none⟩ ⟨T, 19, none⟩ ⟨T, 20, none⟩ w).2.2.1
  have i3 := fun w => (index52 ⟨T, 17, none⟩ ⟨T, 18, none⟩ ⟨T, 19, none⟩ ⟨T, 20, none⟩ w).2.2.2
  go_wp2
  refine wp_loop_rounds 5 ?_
  rw [rounds_succ]
  go_wp2_with (go_at_call 21; refine (take1_st ST5.out 8 (by omega) (by omega) hcap hl63 HOK.out).mono ?_; rintro e wr0 ⟨rfl, ad25, st0⟩; have c17 := st0.t.cell 17; have f17 := st0.t.frozen 17; have ST6 := Lib.hid (st0.put (Y := { (X1.setTs (bs.drop 9)) with n := numOf ((bs.drop 17).take 8) }) 17 (.int .u64 (numOf ((bs.drop 17).take 8))) rfl); clear st0)
  rw [rounds_succ]
  clear ST5
  go_wp2_with (go_at_call 21; refine (take1_st ST6.out 8 (by omega) (by omega) hcap hl63 HOK.out).mono ?_; rintro e wr1 ⟨rfl, ad33, st1⟩; have c25 := st1.t.cell 18; have f25 := st1.t.frozen 18; have ST7 := Lib.hid (st1.put (Y := { ({ (X1.setTs (bs.drop 9)) with n := numOf ((bs.drop 17).take 8) } : Txn) with v := numOf ((bs.drop 25).take 8) }) 18 (.int .u64 (numOf ((bs.drop 25).take 8))) rfl); clear st1)
  rw [rounds_succ]
  clear ST6
  go_wp2_with (go_at_call 21; refine (take1_st ST7.out 8 (by omega) (by omega) hcap hl63 HOK.out).mono ?_; rintro e wr2 ⟨rfl, ad41, st2⟩; have c33 := st2.t.cell 19; have f33 := st2.t.frozen 19; have ST8 := Lib.hid (st2.put (Y := { ({ ({ (X1.setTs (bs.drop 9)) with n := numOf ((bs.drop 17).take 8) } : Txn) with v := numOf ((bs.drop 25).take 8) } : Txn) with g := numOf ((bs.drop 33).take 8) }) 19 (.int .u64 (numOf ((bs.drop 33).take 8))) rfl); clear st2)
  rw [rounds_succ]
  clear ST7
  go_wp2_with (go_at_call 21; refine (take1_st ST8.out 8 (by omega) (by omega) hcap hl63 HOK.out).mono ?_; rintro e wr3 ⟨rfl, ad49, st3⟩; have c41 := st3.t.cell 20; have f41 := st3.t.frozen 20; have ST9 := Lib.hid (st3.put (Y := { ({ ({ ({ (X1.setTs (bs.drop 9)) with n := numOf ((bs.drop 17).take 8) } : Txn) with v := numOf ((bs.drop 25).take 8) } : Txn) with g := numOf ((bs.drop 33).take 8) } : Txn) with p := numOf ((bs.drop 41).take 8) }) 20 (.int .u64 (numOf ((bs.drop 41).take 8))) rfl); clear st3)
  rw [rounds_succ]
  clear ST8
  obtain ⟨X6, hX6⟩ : ∃ X6 : Txn, X6 = ({ ({ ({ ({ (X1.setTs (bs.drop 9)) with n := numOf ((bs.drop 17).take 8) } : Txn) with v := numOf ((bs.drop 25).take 8) } : Txn) with g := numOf ((bs.drop 33).take 8) } : Txn) with p := numOf ((bs.drop 41).take 8) } : Txn) := ⟨_, rfl⟩
  have st9 := ST9.out
  rw [← hX6] at st9
  have HX6 := Lib.hid hX6
  have ST9' := Lib.hid st9
  clear hX6 st9 ST9
  have hX : ∀ (A : Option Addr) (c : Nat), ({ X6 with a := A, len := len - 53, cap := c } : Txn) = txOf bs A (len - 53) c := by
    intro A c
    rw [HX6.out, HX1.out, HC0.out]
    simp only [Txn.setFs, Txn.setTs, txOf, getD_drop]
  have HX := Lib.hid hX
  have hw0 : IntKind.u64.wrap ((len - 53 : Nat) : Int) = ((len - 53 : Nat) : Int) := by rw [IntKind.wrap_u64]; omega
  clear hX
  by_cases hN : numOf ((bs.drop 49).take 4) = ((len - 53 : Nat) : Int)
  · have hne : (numOf ((bs.drop 49).take 4) != ((len - 53 : Nat) : Int)) = false := by simp [hN]
    have hE : takeE bs = (txOf bs none (len - 53) 0).may := by
      have hl := HL.out
      rw [takeE, if_neg (by omega), if_pos (by rw [hN]; omega), hl]
    have HE := Lib.hid hE
    clear hN hE
    by_cases hm : takeE bs = 0
    · have HM := Lib.hid hm
      clear hm
      go_wp2_with (go_at_call 21; refine (take1_st ST9'.out 4 (by omega) (by omega) hcap hl63 HOK.out).mono ?_; rintro e wr5 ⟨rfl, ad53, st53⟩; have c53 := st53.s.cell 0; have ST53 := Lib.hid st53; clear st53)
      refine (clone_at (cap - 53) ST53.out.reads (by omega)).mono ?_
      rintro e wr6 ⟨gd, cd, rfl, hown, hbd⟩
      have st6 := ST53.out.below hbd
      have c21 := st6.t.cell 21
      have f21 := st6.t.frozen 21
      have ST10 := Lib.hid (st6.put (Y := { X6 with a := some ⟨gd, 0, none⟩, len := len - 53, cap := cd }) 21 (.slice (some ⟨gd, 0, none⟩) (len - 53) cd) rfl)
      have HOWN := Lib.hid hown
      have HGD := Lib.hid (show gd ≠ T from fun e => by subst e; exact absurd (hown.lt gd rfl).1 (by have := Blk.lt ST53.out.t; omega))
      have HGR := Lib.hid (show gd ≠ w.heap.size from fun e => by subst e; have h1 : wr5.heap.size ≤ w.heap.size := (hown.lt _ rfl).1; have h2 := Blk.lt ST53.out.r; omega)
      have HLO := Lib.hid (ownsRow_lower hown ST53.out.bel.size)
      clear st6 hown hbd c53
      go_wp2_with (first | ((with_reducible refine at_dst 58 rfl ?_); refine wpList_loadTx rfl (.tmp 4) rfl T rfl { X6 with a := some ⟨gd, 0, none⟩, len := len - 53, cap := cd } ST10.out.t ?_) | (go_at_call 11; refine (may_bel { X6 with a := some ⟨gd, 0, none⟩, len := len - 53, cap := cd } 0 _ (by rw [HX.out]; exact HE.out.symm.trans HM.out)).mono ?_; rintro e wr7 ⟨rfl, hb7⟩; have ST11 := Lib.hid (ST10.out.below hb7); have HB7 := Lib.hid hb7; clear hb7) | ((with_reducible refine at_dst 64 rfl ?_); refine wpList_loadTx rfl (.tmp 4) rfl T rfl { X6 with a := some ⟨gd, 0, none⟩, len := len - 53, cap := cd } ST11.out.t ?_) | ((with_reducible refine at_none rfl ?_); refine wpList_storeTx rfl (.tmp 2) (.tmp 64) rfl w.heap.size rfl { X6 with a := some ⟨gd, 0, none⟩, len := len - 53, cap := cd } rfl ST11.out.r rfl ?_; intro w9 hb9 hg9; have HB9 := Lib.hid hb9; clear hb9))
      refine bodyPost_ret (results_tx rfl _ rfl HB9.out) rfl ⟨{ X6 with a := some ⟨gd, 0, none⟩, len := len - 53, cap := cd }, ?_, ⟨fun _ => ⟨some ⟨gd, 0, none⟩, cd, ?_, ?_⟩, fun h => absurd HM.out h⟩, ?_⟩
      · rw [HM.out]; rfl
      · rw [HL.out]; exact HX.out _ _
      · have o1 := HLO.out.kept (only_setCell (p := ⟨T, 21, none⟩) (World.grownBy.refl wr6 (some T)) (.inl rfl) (.slice (some ⟨gd, 0, none⟩) (len - 53) cd)) (.inr (fun e => HGD.out (by injection e)))
        have o2 := o1.kept (only_of_below HB7.out none) (.inr (fun e => by cases e))
        have o3 := o2.kept hg9 (.inr (fun e => HGR.out (by injection e)))
        rw [HL.out]
        exact o3
      · exact ST11.out.bel.grown hg9 ST11.out.bel.size (fun k e => by injection e with e; omega)
    · have HM := Lib.hid hm
      have hbm : (takeE bs != 0) = true := by simpa using hm
      clear hm
      go_wp2_with (go_at_call 21; refine (take1_st ST9'.out 4 (by omega) (by omega) hcap hl63 HOK.out).mono ?_; rintro e wr5 ⟨rfl, ad53, st53⟩; have c53 := st53.s.cell 0; have ST53 := Lib.hid st53; clear st53)
      refine (clone_at (cap - 53) ST53.out.reads (by omega)).mono ?_
      rintro e wr6 ⟨gd, cd, rfl, hown, hbd⟩
      have st6 := ST53.out.below hbd
      have c21 := st6.t.cell 21
      have f21 := st6.t.frozen 21
      have ST10 := Lib.hid (st6.put (Y := { X6 with a := some ⟨gd, 0, none⟩, len := len - 53, cap := cd }) 21 (.slice (some ⟨gd, 0, none⟩) (len - 53) cd) rfl)
      have HOWN := Lib.hid hown
      have HGD := Lib.hid (show gd ≠ T from fun e => by subst e; exact absurd (hown.lt gd rfl).1 (by have := Blk.lt ST53.out.t; omega))
      have HGR := Lib.hid (show gd ≠ w.heap.size from fun e => by subst e; have h1 : wr5.heap.size ≤ w.heap.size := (hown.lt _ rfl).1; have h2 := Blk.lt ST53.out.r; omega)
      have HLO := Lib.hid (ownsRow_lower hown ST53.out.bel.size)
      clear st6 hown hbd c53
      go_wp2_with (first | ((with_reducible refine at_dst 58 rfl ?_); refine wpList_loadTx rfl (.tmp 4) rfl T rfl { X6 with a := some ⟨gd, 0, none⟩, len := len - 53, cap := cd } ST10.out.t ?_) | (go_at_call 11; refine (may_bel { X6 with a := some ⟨gd, 0, none⟩, len := len - 53, cap := cd } (takeE bs) _ (by rw [HX.out]; exact HE.out.symm)).mono ?_; rintro e wr7 ⟨rfl, hb7⟩; have ST11 := Lib.hid (ST10.out.below hb7); clear hb7) | ((with_reducible refine at_none rfl ?_); refine wpList_storeTx rfl (.tmp 2) (.tmp 62) rfl w.heap.size rfl Txn.zero rfl ST11.out.r rfl ?_; intro w9 hb9 hg9; have HB9 := Lib.hid hb9; clear hb9))
      refine bodyPost_ret (results_tx rfl _ rfl HB9.out) rfl ⟨Txn.zero, rfl, ⟨fun h => absurd h HM.out, fun _ => rfl⟩, ?_⟩
      exact ST11.out.bel.grown hg9 ST11.out.bel.size (fun k e => by injection e with e; omega)
  · have hne : (numOf ((bs.drop 49).take 4) != ((len - 53 : Nat) : Int)) = true := by simp [hN]
    have hE : takeE bs = 2 := by
      have hl := HL.out
      rw [takeE, if_neg (by omega), if_neg (by omega)]
    have HE := Lib.hid hE
    clear hN hE
    go_wp2_with (first | (go_at_call 21; refine (take1_st ST9'.out 4 (by omega) (by omega) hcap hl63 HOK.out).mono ?_; rintro e wr5 ⟨rfl, ad53, st53⟩; have c53 := st53.s.cell 0; have ST53 := Lib.hid st53; clear st53) | ((with_reducible refine at_none rfl ?_); refine wpList_storeTx rfl (.tmp 2) (.tmp 54) rfl w.heap.size rfl Txn.zero rfl ST53.out.r rfl ?_; intro w9 hb9 hg9; have HB9 := Lib.hid hb9; clear hb9))
    refine bodyPost_ret (results_tx rfl _ rfl HB9.out) rfl ⟨Txn.zero, ?_, ⟨fun h => ?_, fun _ => rfl⟩, ?_⟩
    · rw [HE.out]; rfl
    · rw [HE.out] at h; omega
    · exact ST53.out.bel.grown hg9 ST53.out.bel.size (fun k e => by injection e with e; omega)

end Go.Proofs.Ytpieckeaehninaa
