/-
  maps.Keys over the maps keyed by addresses: the iterator; slices.Collect of it. Turned from the kit's worked texts on the iterator idiom (GgCollectAtTheDump).
-/
import Derived.Test.YtcoagfnkcbfbaaaGreatDoorSx11
import Derived.Test.YtcoagfnkcbfbaaaGreatDoorSx13
import Derived.Test.YtcoagfnkcbfbaaaGreatDoorProg
import Derived.RangeFuncGives
import Derived.Maps.AppendAt
import Derived.Sort.MapsRangeIn
import Derived.WalkKit
import Derived.OwnWalkIn
import Derived.TacticsInMore
import Derived.RegionIn
import Derived.LoopNIn
import Derived.LoopIn
import Derived.DeepKeys4
namespace Go.Proofs.YtcoagfnkcbfbaaaGreatDoor
open Go.RowKit
open Go.Maps (Keyed)

/-- how many entries an iterator has handed out -/
def itSeen (w : World) (r : Nat) : Nat :=
  match w.heap[r]? with
  | some (.mapIter _ _ seen _) => seen.size
  | _ => 0
theorem Walks.seen {w : World} {b r : Nat} {es : Array MapEntry} {clock : Nat} {l ys : Es} (h : Walks w b r es clock l ys) : itSeen w r = ys.length := by
  obtain ⟨seen, c0, vis, hr, -, h1, -, h2⟩ := h.it
  have e1 := congrArg List.length h1
  have e2 := congrArg List.length h2
  simp only [Array.length_toList, List.length_map] at e1 e2
  simp [itSeen, hr, e1, e2]
theorem Walks.iter_walk {w : World} {b r : Nat} {es : Array MapEntry} {clock : Nat} {l ys : Es} (h : Walks w b r es clock l ys) : ∃ o : Obj, w.heap[r]? = some o ∧ o.isWalk = true := by
  obtain ⟨seen, c0, vis, hr, -⟩ := h.it
  exact ⟨_, hr, rfl⟩

/-- an iterator over keys: whatever the rounds keep, so they abide its steps -/
def KeysGive (P : Program) (F : Fence) (n : Nat) (g : Nat) (lb : Array Value) (S : List (List Int) → Prop) (N : Nat) (w : World) : Prop :=
  ∀ (l : Nat) (J : List (List Int) → World → Prop) (W : World), Below w.heap.size w W → AbidesFrom W.heap.size J →
    (∀ pre x W1, x.length = 8 → J pre W1 → pre.length < N → YieldAt F (n - 1) P l #[arr x] W1 fun e W' => e = .returned (.bool true) ∧ J (pre ++ [x]) W' ∧ KeepsWalks W1 W') →
    J [] W →
    CallsIn F n P g (#[.func (.yield l) #[] #[]] ++ lb) W fun e W' => (∃ v, e = .returned v) ∧ ∃ xs, S xs ∧ J xs W'

theorem info23 : ∃ i Z, Tryz.prog.info? 23 = some i ∧ i.zero = some Z ∧ Z.cells.size = i.size ∧ i.size = 8 ∧ i.bytes = 8 := by
  have h : (Tryz.prog.info? 23).map (fun i => (i.size, i.bytes, i.zero)) = some (8, 8, some (arr [0, 0, 0, 0, 0, 0, 0, 0])) := by kernel_rfl
  cases hi : Tryz.prog.info? 23 with
  | none => rw [hi] at h; cases h
  | some i =>
    rw [hi] at h
    simp only [Option.map_some, Option.some.injEq, Prod.mk.injEq] at h
    exact ⟨i, _, rfl, h.2.2, by rw [h.1]; rfl, h.1, h.2.1⟩
set_option maxRecDepth 100000 in
set_option maxHeartbeats 1000000 in
theorem keys103_in (F : Fence) (n : Nat) (hF : F.fn 103) (hro : F.round = none) (hn : 1 ≤ n) (l Bm b : Nat) (es : Array MapEntry) (clock : Nat) (ks : Es) (J : List (List Int) → World → Prop)
    (hY : ∀ pre x W, x.length = 8 → J pre W → pre.length < ks.length → YieldAt F (n - 1) Tryz.prog l #[arr x] W fun e W' => e = .returned (.bool true) ∧ J (pre ++ [x]) W' ∧ KeepsWalks W W')
    (W : World) (hJ : AbidesFrom W.heap.size J) (hm : W.cell? ⟨Bm, 0, none⟩ = some (.map (some b))) (hb : W.heap[b]? = some (.map es clock)) (hE : Ents 8 es clock ks) (h0 : J [] W) :
    CallsIn F n Tryz.prog 103 #[.func (.yield l) #[] #[], .pointer (some ⟨Bm, 0, none⟩)] W fun e W' => (∃ v, e = .returned v) ∧ ∃ ss : List (List Int), ss.Perm (ks.map (·.1)) ∧ J ss W' := by
  obtain ⟨iA, ZA, hi, hz, hzs, h8, -⟩ := info23
  refine callsIn_of_wp Tryz.func103 rfl hF ?_ hro
  simp only [Tryz.ntmps103, List.size_toArray, List.length_cons, List.length_nil, Nat.reduceAdd, Nat.reduceSub, Array.replicate_succ, Array.replicate_zero, List.push_toArray, List.append_toArray, List.nil_append, List.cons_append]
  gi_wp2_with (first
    | (gi_at_range; refine wpListIn_range_arr rfl _ 114 rfl 23 _ Tryz.underlying114 b ks rfl hb ?_; intro w0 hwk0 hg0 hs0)
    | gi_in)
  go_frame
  gi_loopw [3] (fun _ wr => ∃ ys : Es, Walks wr b W.heap.size es clock ks ys ∧ J (ys.map (·.1)) wr)
    (fun _ wr => ks.length - itSeen wr W.heap.size)
  case atStart =>
    exact ⟨[], hwk0, hJ [] W w0 none h0 hg0 (fun r e => by cases e)⟩
  case round =>
    obtain ⟨ys, hwk, hJs⟩ := hrel
    gi_wp2_with (first
      | (gi_at_next; refine wpListIn_next_arr rfl _ rfl b W.heap.size ys 8 rfl hE hwk ?_ ?_)
      | gi_in)
    · intro hp
      gi_wp2
      go_end0
      exact ⟨⟨_, rfl⟩, _, hp.map _, hJs⟩
    · intro k0 v0 w2 hy hwk2 hlt hg2 hs2 hen
      have hy8 : k0.length = 8 := (hE.good (k0, v0) hy).1
      have hJ2 : J (ys.map (·.1)) w2 := hJ _ wr w2 (some W.heap.size) hJs hg2 (fun r e => by cases e; exact ⟨Nat.le_refl _, hwk.iter_walk⟩)
      obtain ⟨Wy, hWy⟩ : ∃ Wy, w2.alloc (.cells (u8s k0).toArray 23) = Wy := ⟨_, rfl⟩
      have hgy : w2.grownBy Wy none := by rw [← hWy]; exact World.grownBy_alloc w2 _ none
      have hJy := hJ _ w2 Wy none hJ2 hgy (fun r e => by cases e)
      have hwky := hwk2.kept hgy (by simp) (by simp)
      have hVy : Wy.heap[w2.heap.size]? = some (.cells (u8s k0).toArray 23 (0, 0)) := by rw [← hWy]; exact World.alloc_heap_new w2 _
      obtain ⟨fn, tmps, assign, body, hyy, hR⟩ := hY (ys.map (·.1)) k0 Wy hy8 hJy (by simpa using hlt)
      clear hs2 hJs hJ2
      gi_wp2_with (first
        | (refine wpListIn_alloc_store rfl rfl 23 rfl 3 rfl (.tmp 9) rfl iA ZA hi hz hzs (by simp) k0 rfl (by rw [h8]; exact hy8) ?_; rw [hWy])
        | (refine wpListIn_load_arr rfl 23 (.tmp 3) rfl _ 8 iA Tryz.underlying23 hi h8 w2.heap.size rfl 23 k0 hVy hy8 ?_)
        | gi_in)
      refine hR.mono ?_
      rintro e W3 ⟨rfl, hJ3, hk3⟩
      gi_wp2
      have hwk3 := hwky.walks hk3
      go_roundw
      case rel => exact ⟨ys ++ [(k0, v0)], hwk3, by simpa using hJ3⟩
      case measure => rw [hwk3.seen, hwk.seen]; simp only [List.length_append, List.length_singleton]; omega
set_option maxRecDepth 100000 in
set_option maxHeartbeats 1000000 in
theorem keys104_in (F : Fence) (n : Nat) (hF : F.fn 104) (hro : F.round = none) (hn : 1 ≤ n) (l Bm b : Nat) (es : Array MapEntry) (clock : Nat) (ks : Es) (J : List (List Int) → World → Prop)
    (hY : ∀ pre x W, x.length = 8 → J pre W → pre.length < ks.length → YieldAt F (n - 1) Tryz.prog l #[arr x] W fun e W' => e = .returned (.bool true) ∧ J (pre ++ [x]) W' ∧ KeepsWalks W W')
    (W : World) (hJ : AbidesFrom W.heap.size J) (hm : W.cell? ⟨Bm, 0, none⟩ = some (.map (some b))) (hb : W.heap[b]? = some (.map es clock)) (hE : Ents 8 es clock ks) (h0 : J [] W) :
    CallsIn F n Tryz.prog 104 #[.func (.yield l) #[] #[], .pointer (some ⟨Bm, 0, none⟩)] W fun e W' => (∃ v, e = .returned v) ∧ ∃ ss : List (List Int), ss.Perm (ks.map (·.1)) ∧ J ss W' := by
  obtain ⟨iA, ZA, hi, hz, hzs, h8, -⟩ := info23
  refine callsIn_of_wp Tryz.func104 rfl hF ?_ hro
  simp only [Tryz.ntmps104, List.size_toArray, List.length_cons, List.length_nil, Nat.reduceAdd, Nat.reduceSub, Array.replicate_succ, Array.replicate_zero, List.push_toArray, List.append_toArray, List.nil_append, List.cons_append]
  gi_wp2_with (first
    | (gi_at_range; refine wpListIn_range_arr rfl _ 117 rfl 23 _ Tryz.underlying117 b ks rfl hb ?_; intro w0 hwk0 hg0 hs0)
    | gi_in)
  go_frame
  gi_loopw [3] (fun _ wr => ∃ ys : Es, Walks wr b W.heap.size es clock ks ys ∧ J (ys.map (·.1)) wr)
    (fun _ wr => ks.length - itSeen wr W.heap.size)
  case atStart =>
    exact ⟨[], hwk0, hJ [] W w0 none h0 hg0 (fun r e => by cases e)⟩
  case round =>
    obtain ⟨ys, hwk, hJs⟩ := hrel
    gi_wp2_with (first
      | (gi_at_next; refine wpListIn_next_arr rfl _ rfl b W.heap.size ys 8 rfl hE hwk ?_ ?_)
      | gi_in)
    · intro hp
      gi_wp2
      go_end0
      exact ⟨⟨_, rfl⟩, _, hp.map _, hJs⟩
    · intro k0 v0 w2 hy hwk2 hlt hg2 hs2 hen
      have hy8 : k0.length = 8 := (hE.good (k0, v0) hy).1
      have hJ2 : J (ys.map (·.1)) w2 := hJ _ wr w2 (some W.heap.size) hJs hg2 (fun r e => by cases e; exact ⟨Nat.le_refl _, hwk.iter_walk⟩)
      obtain ⟨Wy, hWy⟩ : ∃ Wy, w2.alloc (.cells (u8s k0).toArray 23) = Wy := ⟨_, rfl⟩
      have hgy : w2.grownBy Wy none := by rw [← hWy]; exact World.grownBy_alloc w2 _ none
      have hJy := hJ _ w2 Wy none hJ2 hgy (fun r e => by cases e)
      have hwky := hwk2.kept hgy (by simp) (by simp)
      have hVy : Wy.heap[w2.heap.size]? = some (.cells (u8s k0).toArray 23 (0, 0)) := by rw [← hWy]; exact World.alloc_heap_new w2 _
      obtain ⟨fn, tmps, assign, body, hyy, hR⟩ := hY (ys.map (·.1)) k0 Wy hy8 hJy (by simpa using hlt)
      clear hs2 hJs hJ2
      gi_wp2_with (first
        | (refine wpListIn_alloc_store rfl rfl 23 rfl 3 rfl (.tmp 9) rfl iA ZA hi hz hzs (by simp) k0 rfl (by rw [h8]; exact hy8) ?_; rw [hWy])
        | (refine wpListIn_load_arr rfl 23 (.tmp 3) rfl _ 8 iA Tryz.underlying23 hi h8 w2.heap.size rfl 23 k0 hVy hy8 ?_)
        | gi_in)
      refine hR.mono ?_
      rintro e W3 ⟨rfl, hJ3, hk3⟩
      gi_wp2
      have hwk3 := hwky.walks hk3
      go_roundw
      case rel => exact ⟨ys ++ [(k0, v0)], hwk3, by simpa using hJ3⟩
      case measure => rw [hwk3.seen, hwk.seen]; simp only [List.length_append, List.length_singleton]; omega
set_option maxRecDepth 100000 in
set_option maxHeartbeats 1000000 in
theorem keys105_in (F : Fence) (n : Nat) (hF : F.fn 105) (hro : F.round = none) (hn : 1 ≤ n) (l Bm b : Nat) (es : Array MapEntry) (clock : Nat) (ks : Es) (J : List (List Int) → World → Prop)
    (hY : ∀ pre x W, x.length = 8 → J pre W → pre.length < ks.length → YieldAt F (n - 1) Tryz.prog l #[arr x] W fun e W' => e = .returned (.bool true) ∧ J (pre ++ [x]) W' ∧ KeepsWalks W W')
    (W : World) (hJ : AbidesFrom W.heap.size J) (hm : W.cell? ⟨Bm, 0, none⟩ = some (.map (some b))) (hb : W.heap[b]? = some (.map es clock)) (hE : Ents 8 es clock ks) (h0 : J [] W) :
    CallsIn F n Tryz.prog 105 #[.func (.yield l) #[] #[], .pointer (some ⟨Bm, 0, none⟩)] W fun e W' => (∃ v, e = .returned v) ∧ ∃ ss : List (List Int), ss.Perm (ks.map (·.1)) ∧ J ss W' := by
  obtain ⟨iA, ZA, hi, hz, hzs, h8, -⟩ := info23
  refine callsIn_of_wp Tryz.func105 rfl hF ?_ hro
  simp only [Tryz.ntmps105, List.size_toArray, List.length_cons, List.length_nil, Nat.reduceAdd, Nat.reduceSub, Array.replicate_succ, Array.replicate_zero, List.push_toArray, List.append_toArray, List.nil_append, List.cons_append]
  gi_wp2_with (first
    | (gi_at_range; refine wpListIn_range_arr rfl _ 120 rfl 23 _ Tryz.underlying120 b ks rfl hb ?_; intro w0 hwk0 hg0 hs0)
    | gi_in)
  go_frame
  gi_loopw [3] (fun _ wr => ∃ ys : Es, Walks wr b W.heap.size es clock ks ys ∧ J (ys.map (·.1)) wr)
    (fun _ wr => ks.length - itSeen wr W.heap.size)
  case atStart =>
    exact ⟨[], hwk0, hJ [] W w0 none h0 hg0 (fun r e => by cases e)⟩
  case round =>
    obtain ⟨ys, hwk, hJs⟩ := hrel
    gi_wp2_with (first
      | (gi_at_next; refine wpListIn_next_arr rfl _ rfl b W.heap.size ys 8 rfl hE hwk ?_ ?_)
      | gi_in)
    · intro hp
      gi_wp2
      go_end0
      exact ⟨⟨_, rfl⟩, _, hp.map _, hJs⟩
    · intro k0 v0 w2 hy hwk2 hlt hg2 hs2 hen
      have hy8 : k0.length = 8 := (hE.good (k0, v0) hy).1
      have hJ2 : J (ys.map (·.1)) w2 := hJ _ wr w2 (some W.heap.size) hJs hg2 (fun r e => by cases e; exact ⟨Nat.le_refl _, hwk.iter_walk⟩)
      obtain ⟨Wy, hWy⟩ : ∃ Wy, w2.alloc (.cells (u8s k0).toArray 23) = Wy := ⟨_, rfl⟩
      have hgy : w2.grownBy Wy none := by rw [← hWy]; exact World.grownBy_alloc w2 _ none
      have hJy := hJ _ w2 Wy none hJ2 hgy (fun r e => by cases e)
      have hwky := hwk2.kept hgy (by simp) (by simp)
      have hVy : Wy.heap[w2.heap.size]? = some (.cells (u8s k0).toArray 23 (0, 0)) := by rw [← hWy]; exact World.alloc_heap_new w2 _
      obtain ⟨fn, tmps, assign, body, hyy, hR⟩ := hY (ys.map (·.1)) k0 Wy hy8 hJy (by simpa using hlt)
      clear hs2 hJs hJ2
      gi_wp2_with (first
        | (refine wpListIn_alloc_store rfl rfl 23 rfl 3 rfl (.tmp 9) rfl iA ZA hi hz hzs (by simp) k0 rfl (by rw [h8]; exact hy8) ?_; rw [hWy])
        | (refine wpListIn_load_arr rfl 23 (.tmp 3) rfl _ 8 iA Tryz.underlying23 hi h8 w2.heap.size rfl 23 k0 hVy hy8 ?_)
        | gi_in)
      refine hR.mono ?_
      rintro e W3 ⟨rfl, hJ3, hk3⟩
      gi_wp2
      have hwk3 := hwky.walks hk3
      go_roundw
      case rel => exact ⟨ys ++ [(k0, v0)], hwk3, by simpa using hJ3⟩
      case measure => rw [hwk3.seen, hwk.seen]; simp only [List.length_append, List.length_singleton]; omega

/-! ### what lies still while a row grows -/
theorem row_abides {W W' : World} {row : Option Nat} {base : Nat} {e : TypeId} {size : Nat} {v : Value} {k : Nat} {xs : List Value} (h : W.ownsRow base e size v k xs) (hg : W.grownBy W' row)
    (hrow : ∀ r, row = some r → ∃ o : Obj, W.heap[r]? = some o ∧ o.isWalk = true) : W'.ownsRow base e size v k xs := by
  refine h.kept hg ?_
  rcases h.2 with ⟨rfl, _⟩ | ⟨g, cap, cur, rfl, _, hgb, _⟩
  · exact .inl rfl
  · refine .inr fun e' => ?_
    obtain ⟨o, ho, hw⟩ := hrow g (by simpa [Value.ownBlock] using e'.symm)
    rw [hgb] at ho; cases ho; cases hw
theorem grown_putObj (W : World) (l : Nat) (o : Obj) : W.grownBy (W.putObj l o) (some l) :=
  ⟨rfl, rfl, rfl, by simp, fun k _ hk => World.putObj_heap_other (fun e => hk (by rw [e]))⟩
theorem grown_setCell0 (W : World) (b : Nat) (v : Value) : W.grownBy (W.setCell ⟨b, 0, none⟩ v) (some b) :=
  ⟨rfl, rfl, rfl, (KeepsWalks.setCell W _ v).size, fun k _ hk => Below.heap_setCell _ _ _ k (fun e => hk (by rw [e]))⟩
theorem row_ne {W : World} {base : Nat} {e : TypeId} {size : Nat} {v : Value} {k : Nat} {xs : List Value} (h : W.ownsRow base e size v k xs) {j : Nat} {o : Obj} (hj : W.heap[j]? = some o) (hno : ∀ cur, o ≠ .cells cur e (0, 0)) :
    v.ownBlock = none ∨ v.ownBlock ≠ some j := by
  rcases h.2 with ⟨rfl, _⟩ | ⟨g, cap, cur, rfl, _, hgb, _⟩
  · exact .inl rfl
  · refine .inr fun e' => ?_
    have : g = j := by simpa [Value.ownBlock] using e'
    subst this; rw [hgb] at hj; cases hj; exact hno cur rfl
theorem cell_box {W : World} {B : Nat} {v : Value} {t : TypeId} (h : W.heap[B]? = some (.cells #[v] t (0, 0))) : W.cell? ⟨B, 0, none⟩ = some v ∧ W.frozen? ⟨B, 0, none⟩ = false := by
  constructor <;> simp [World.cell?, World.frozen?, h]
theorem heap_setCell_box {W : World} {B : Nat} {v : Value} {t : TypeId} (v' : Value) (h : W.heap[B]? = some (.cells #[v] t (0, 0))) : (W.setCell ⟨B, 0, none⟩ v').heap[B]? = some (.cells #[v'] t (0, 0)) := by
  obtain ⟨hlt, hk⟩ := Array.getElem?_eq_some_iff.1 h
  show (W.heap.modify B _)[B]? = _
  rw [Array.getElem?_eq_getElem (by rw [Array.size_modify]; exact hlt), Array.getElem_modify_self, hk]
  rfl
theorem row_not_walk {W : World} {base : Nat} {e : TypeId} {size : Nat} {v : Value} {k : Nat} {xs : List Value} (h : W.ownsRow base e size v k xs) : ∀ (j : Nat) (o : Obj), v.ownBlock = some j → W.heap[j]? = some o → o.isWalk = false := by
  intro j o hj ho
  rcases h.2 with ⟨rfl, _⟩ | ⟨g, cap, cur, rfl, _, hgb, _⟩
  · simp [Value.ownBlock] at hj
  · have : g = j := by simpa [Value.ownBlock] using hj
    subst this; rw [hgb] at ho; cases ho; rfl

theorem wpListIn_buildSlice_one {P : Program} {ops : Array Oper} {rest : List Oper} {o : Oper} {a : Act} {Q : Exit → Act → World → Prop} {F : Fence} {nF : Nat} {w : World} (hg : o.guard = none) (ts : TypeId) (xo : Operand) (hop : o.op = Op.buildSlice ts 1 #[(0, xo)])
    (t : TypeId) (n : Nat) (i : TypeInfo) (Z : Value) (hs : P.underlying ts = some (.slice t)) (hi : P.info? t = some i) (hz : i.zero = some Z) (hn : i.size = n) (hn0 : 0 < n) (hnb : n ≤ 16777216) (x : List Int) (hx : a.eval xo = arr x) (hlx : x.length = n)
    (hK : wpListIn F nF P ops Q rest (a.put o.dst (.slice (some ⟨w.heap.size, 0, none⟩) 1 1)) (w.alloc (.cells (u8s x).toArray t))) : wpListIn F nF P ops Q (o :: rest) a w := by
  refine wpListIn_plain hg fun K hK1 => ?_
  unfold Oper.wpIn
  refine ⟨by simp [Oper.about, hop], ?_⟩
  rw [Oper.semAt_plain F _ _ (by rw [hop]; intro c hc'; cases hc')]
  have hr := run_buildSlice_one (P := P) (w := w) hs hi hz hn hn0 hnb hlx
  simp only [execOp, hop, List.map_toArray, List.map_cons, List.map_nil, hx, Sem.run_bind, hr, Result.andThen_ok, Sem.run_pure]
  exact hK1 _ _ hK

/-! ### slices.AppendSeq(nil, seq), against whatever iterator of keys -/
def apAssign : Code := (Code.region 2 #[{ dst := some 5, op := Op.alloc 23, type := 0, pos := "iter.go:51", after := #[], guard := none }, { dst := none, op := Op.store 23 (Operand.tmp 5) (Operand.tmp 7), type := 0, pos := "iter.go:51", after := #[{ on := 0, ground := Ground.data }, { on := 0, ground := Ground.phase }], guard := none }] false)
def apBody : Code := (Code.block 1 (Code.region 3 #[{ dst := some 8, op := Op.load 89 (Operand.tmp 2), type := 89, pos := "iter.go:52", after := #[], guard := none }, { dst := some 9, op := Op.load 23 (Operand.tmp 5), type := 23, pos := "iter.go:52", after := #[], guard := none }, { dst := some 10, op := Op.buildSlice 89 1 #[(0, (Operand.tmp 9))], type := 89, pos := "iter.go:52", after := #[{ on := 1, ground := Ground.data }], guard := none }, { dst := some 11, op := Op.call { callee := Callee.builtin Builtin.append, args := #[Operand.tmp 8, Operand.tmp 10], argTypes := #[89, 89] }, type := 89, pos := "iter.go:52", after := #[{ on := 0, ground := Ground.data }, { on := 2, ground := Ground.data }], guard := none }, { dst := none, op := Op.store 89 (Operand.tmp 2) (Operand.tmp 11), type := 0, pos := "iter.go:52", after := #[{ on := 3, ground := Ground.data }, { on := 3, ground := Ground.chain }, { on := 0, ground := Ground.phase }, { on := 1, ground := Ground.phase }, { on := 2, ground := Ground.phase }, { on := 3, ground := Ground.phase }], guard := none }] false))
def apRec (fn : FuncId) (sv : Value) (Bs D : Nat) (st : LoopState) (pend : Option Code) : Loop :=
  { state := st, pending := pend, fn, tmps := #[.slice none 0 0, sv, .pointer (some ⟨Bs, 0, none⟩), undef, .slice none 0 0, undef, sv, undef, undef, undef, undef, undef, undef], params := #[7], assign := apAssign, body := apBody, defers := D }
structure ApAt (w0 : World) (fn : FuncId) (sv : Value) (Bs l D : Nat) (ss : List (List Int)) (W : World) : Prop where
  box : ∃ v, W.heap[Bs]? = some (.cells #[v] 89 (0, 0)) ∧ W.ownsRow w0.heap.size 23 8 v ss.length (ss.flatMap u8s) ∧ (v = .slice none 0 0 ↔ ss = [])
  L : W.heap[l]? = some (.loop (apRec fn sv Bs D .ready none))
  K : W.heap[D]? = some (.deferred (some []))
  below : Below w0.heap.size w0 W
theorem ap_abides (w0 : World) (fn : FuncId) (sv : Value) (Bs l D B : Nat) (hB : w0.heap.size ≤ B) : AbidesFrom B (ApAt w0 fn sv Bs l D) := fun s W W' row h hg hrow => by
  have hrow' : ∀ r, row = some r → ∃ o : Obj, W.heap[r]? = some o ∧ o.isWalk = true := fun r e => (hrow r e).2
  obtain ⟨v, hv, hr, hn⟩ := h.box
  exact ⟨⟨v, (grownBy_keeps hg hrow' hv rfl).trans hv, row_abides hr hg hrow', hn⟩, (grownBy_keeps hg hrow' h.L rfl).trans h.L, (grownBy_keeps hg hrow' h.K rfl).trans h.K,
    h.below.grown hg h.below.size (fun k e => Nat.le_trans hB (hrow k e).1)⟩

set_option maxRecDepth 100000 in
set_option maxHeartbeats 2000000 in
theorem apYield (F : Fence) (m : Nat) (w0 : World) (fn : FuncId) (hfn : F.fn fn) (sv : Value) (Bs l D : Nat) (hBl : Bs ≠ l) (hDl : D ≠ l) (hDB : D ≠ Bs) (h0B : w0.heap.size ≤ Bs) (h0l : w0.heap.size ≤ l)
    (N : Nat) (hN : N ≤ maxLen) (hNb : N * 8 ≤ 140737488355328) (ss : List (List Int)) (x : List Int) (hx8 : x.length = 8) (W : World) (h : ApAt w0 fn sv Bs l D ss W) (hlen : ss.length < N) :
    YieldAt F m Tryz.prog l #[arr x] W fun e W' => e = .returned (.bool true) ∧ ApAt w0 fn sv Bs l D (ss ++ [x]) W' ∧ KeepsWalks W W' := by
  have hne : (89 : TypeId) ≠ 23 := by decide
  obtain ⟨iA, ZA, hi, hz, hzs, h8, h8b⟩ := info23
  obtain ⟨v, hv, hrow, _⟩ := h.box
  refine ⟨fn, #[.slice none 0 0, sv, .pointer (some ⟨Bs, 0, none⟩), undef, .slice none 0 0, undef, sv, arr x, undef, undef, undef, undef, undef], apAssign, apBody, by simpa [apRec] using run_yield (P := Tryz.prog) (args := #[arr x]) h.L rfl, roundIn_of_wpIn hfn ?_⟩
  -- the variable of the round
  obtain ⟨Wa, hWa⟩ : ∃ Wa, W.alloc (.cells (u8s x).toArray 23) = Wa := ⟨_, rfl⟩
  have hga : W.grownBy Wa none := by rw [← hWa]; exact World.grownBy_alloc W _ none
  have hVa : Wa.heap[W.heap.size]? = some (.cells (u8s x).toArray 23 (0, 0)) := by rw [← hWa]; exact World.alloc_heap_new W _
  have hlW : l < W.heap.size := (Array.getElem?_eq_some_iff.1 h.L).1
  have hva : Wa.heap[Bs]? = some (.cells #[v] 89 (0, 0)) := (hga.block Bs (Array.getElem?_eq_some_iff.1 hv).1 (by simp)).trans hv
  have hLa : Wa.heap[l]? = some (.loop (apRec fn sv Bs D .ready none)) := (hga.block l hlW (by simp)).trans h.L
  have hKa : Wa.heap[D]? = some (.deferred (some [])) := (hga.block D (Array.getElem?_eq_some_iff.1 h.K).1 (by simp)).trans h.K
  have hrowa : Wa.ownsRow w0.heap.size 23 8 v ss.length (ss.flatMap u8s) := by rw [← hWa]; exact hrow.alloc _
  have hba : Below w0.heap.size w0 Wa := by rw [← hWa]; exact h.below.alloc h.below.size _
  have hka : KeepsWalks W Wa := by rw [← hWa]; exact KeepsWalks.alloc _ _
  have hl : l < Wa.heap.size := (Array.getElem?_eq_some_iff.1 hLa).1
  have hbr := run_beginRound (P := Tryz.prog) hLa rfl
  obtain ⟨W2, hW2⟩ : ∃ W2, Wa.putObj l (.loop { apRec fn sv Bs D .ready none with state := .busy }) = W2 := ⟨_, rfl⟩
  rw [hW2] at hbr
  have hg2 : Wa.grownBy W2 (some l) := by rw [← hW2]; exact grown_putObj _ _ _
  have hk2 : KeepsWalks W W2 := by rw [← hW2]; exact hka.trans (KeepsWalks.putObj _ hLa rfl)
  have hv2 : W2.heap[Bs]? = some (.cells #[v] 89 (0, 0)) := by rw [← hW2]; exact (World.putObj_heap_other hBl).trans hva
  have hK2 : W2.heap[D]? = some (.deferred (some [])) := by rw [← hW2]; exact (World.putObj_heap_other hDl).trans hKa
  have hL2 : W2.heap[l]? = some (.loop { apRec fn sv Bs D .ready none with state := .busy }) := by rw [← hW2]; exact World.putObj_heap_same hl
  have hV2 : W2.heap[W.heap.size]? = some (.cells (u8s x).toArray 23 (0, 0)) := by rw [← hW2]; exact (World.putObj_heap_other (by omega)).trans hVa
  have hrow2 : W2.ownsRow w0.heap.size 23 8 v ss.length (ss.flatMap u8s) := hrowa.kept hg2 (row_ne hrowa hLa (fun cur e => by cases e))
  have hb2 : Below w0.heap.size w0 W2 := hba.grown hg2 hba.size (fun k e => by cases e; exact h0l)
  have hBlt : Bs < W2.heap.size := (Array.getElem?_eq_some_iff.1 hv2).1
  have hl2 : l < W2.heap.size := (Array.getElem?_eq_some_iff.1 hL2).1
  have hDlt : D < W2.heap.size := (Array.getElem?_eq_some_iff.1 hK2).1
  clear hW2
  obtain ⟨hc2, hf2⟩ := cell_box hv2
  have ne_of : ∀ {j : Nat} {o : Obj}, W2.heap[j]? = some o → (∀ cur, o ≠ .cells cur 23 (0, 0)) → some j ≠ v.ownBlock := fun hj hno => by
    rcases row_ne hrow2 hj hno with e | e
    · rw [e]; simp
    · exact fun e' => e e'.symm
  unfold apAssign
  gi_wp2_with (first
    | (refine wpListIn_alloc_store rfl rfl 23 rfl 5 rfl (.tmp 7) rfl iA ZA hi hz hzs (by simp) x rfl (by rw [h8]; exact hx8) ?_; rw [hWa])
    | (rw [Oper.semAt_eq _ _ _ (fun c h => by cases h)]; go_simp; try go_bits))
  unfold apBody
  gi_wp2_with (first
    | (refine wpListIn_load_arr rfl 23 (.tmp 5) rfl _ 8 iA Tryz.underlying23 hi h8 W.heap.size rfl 23 x hV2 hx8 ?_)
    | (refine wpListIn_buildSlice_one rfl 89 (.tmp 9) rfl 23 8 iA ZA Tryz.underlying89 hi hz h8 (by decide) (by decide) x rfl hx8 ?_)
    | (gi_at_builtin; refine wpListIn_append_own _ rfl _ _ 89 rfl w0.heap.size 23 iA ZA 8 8 Tryz.underlying89 hi hz h8 h8b (by rw [hzs, h8]) (by decide) _ _ _ rfl (hrow2.alloc _) ⟨W2.heap.size, 0, none⟩ 1 1 (u8s x) rfl (by simp [u8s, hx8]) (fun j u hj => by rw [add_cell, cell_of_row _ W2.heap.size (0 + j) (u8s x).toArray 23 (0, 0) (World.alloc_heap_new W2 _)]; simpa using hj) (u8s_one x) (by omega) (by omega) (by have := hb2.size; simp; omega) ?_; intro v' w3 hown' hg3 hnil3
       have hv3 : w3.heap[Bs]? = some (.cells #[v] 89 (0, 0)) := (hg3.block Bs (by simp; omega) (ne_of hv2 (fun cur e => by cases e))).trans ((Below.heap_alloc _ _ Bs hBlt).trans hv2)
       obtain ⟨hc3, hf3⟩ := cell_box hv3
       obtain ⟨g', cap', cur', rfl, hbase', hgb', hr1, hr2, hr3, hr4⟩ : ∃ g' cap' cur', v' = .slice (some ⟨g', 0, none⟩) (ss.length + 1) cap' ∧ w0.heap.size ≤ g' ∧ w3.heap[g']? = some (.cells cur' 23 (0, 0)) ∧ ss.length + 1 ≤ cap' ∧ cap' ≤ maxLen ∧ cur'.size = cap' * 8 ∧ cur'.toList.take ((ss.length + 1) * 8) = ss.flatMap u8s ++ u8s x := by
         rcases hown'.2 with ⟨_, h0⟩ | h'
         · exact absurd h0 (by omega)
         · exact h'
       go_frame)
    | (rw [Oper.semAt_eq _ _ _ (fun c h => by cases h)]; go_simp; try go_bits))
  have hg3' : (W2.alloc (.cells (u8s x).toArray 23)).grownBy w3 v.ownBlock := hg3
  have hL3 : w3.heap[l]? = some (.loop { apRec fn sv Bs D .ready none with state := .busy }) := (hg3'.block l (by simp; omega) (ne_of hL2 (fun cur e => by cases e))).trans ((Below.heap_alloc _ _ l hl2).trans hL2)
  have hK3 : w3.heap[D]? = some (.deferred (some [])) := (hg3'.block D (by simp; omega) (ne_of hK2 (fun cur e => by cases e))).trans ((Below.heap_alloc _ _ D hDlt).trans hK2)
  obtain ⟨w4, hw4⟩ : ∃ w4, w3.setCell ⟨Bs, 0, none⟩ (.slice (some ⟨g', 0, none⟩) (ss.length + 1) cap') = w4 := ⟨_, rfl⟩
  rw [hw4]
  have hg4 : w3.grownBy w4 (some Bs) := by rw [← hw4]; exact grown_setCell0 _ _ _
  have hv4 : w4.heap[Bs]? = some (.cells #[.slice (some ⟨g', 0, none⟩) (ss.length + 1) cap'] 89 (0, 0)) := by rw [← hw4]; exact heap_setCell_box _ hv3
  have hL4 : w4.heap[l]? = some (.loop { apRec fn sv Bs D .ready none with state := .busy }) := (hg4.block l (Array.getElem?_eq_some_iff.1 hL3).1 (fun e => hBl (by cases e; rfl))).trans hL3
  have hK4 : w4.heap[D]? = some (.deferred (some [])) := (hg4.block D (Array.getElem?_eq_some_iff.1 hK3).1 (fun e => hDB (by cases e; rfl))).trans hK3
  have hrow4 := hown'.kept hg4 (row_ne hown' hv3 (fun cur e => hne (Obj.cells.inj e).2.1))
  have hl4 : l < w4.heap.size := (Array.getElem?_eq_some_iff.1 hL4).1
  have hb3 : Below w0.heap.size w0 w3 := (hb2.alloc hb2.size _).grown hg3' (by have := hb2.size; simp; omega) (fun k e => (hrow2.lt k e).1)
  have hb4 : Below w0.heap.size w0 w4 := hb3.grown hg4 hb3.size (fun k e => by cases e; exact h0B)
  have hk4 : KeepsWalks W w4 := ((hk2.trans (KeepsWalks.alloc _ _)).trans (KeepsWalks.of_grownBy hg3' (row_not_walk (hrow2.alloc _)))).trans (by rw [← hw4]; exact KeepsWalks.setCell _ _ _)
  clear hw4
  refine ⟨_, _, run_endRound none hL4, rfl, ⟨⟨_, (World.putObj_heap_other hBl).trans hv4, ?_, by simp⟩, World.putObj_heap_same hl4, (World.putObj_heap_other hDl).trans hK4, hb4.grown (grown_putObj _ _ _) hb4.size (fun k e => by cases e; exact h0l)⟩, hk4.trans (KeepsWalks.putObj _ hL4 rfl)⟩
  have := hrow4.kept (grown_putObj w4 l (.loop { { apRec fn sv Bs D .ready none with state := .busy } with state := if (none : Option Code).isNone then .ready else .done, pending := none })) (row_ne hrow4 hL4 (fun cur e => by cases e))
  simpa using this

set_option maxRecDepth 100000 in
set_option maxHeartbeats 2000000 in
theorem appendSeq_in (F : Fence) (n : Nat) (h11 : F.fn 139) (hro : F.round = none) (hn : 2 ≤ n) (g : Nat) (lb : Array Value) (hFg : F.fn g) (eg : ∀ args w, (callFunc g args).run Tryz.prog w = .ok (.enter g args) w)
    (S : List (List Int) → Prop) (N : Nat) (hN : N ≤ maxLen) (hNb : N * 8 ≤ 140737488355328) (w : World) (hseq : KeysGive Tryz.prog F (n - 1) g lb S N w) :
    CallsIn F n Tryz.prog 139 #[.slice none 0 0, .func (.func g) #[] lb] w fun e w' => ∃ (v : Value) (ss : List (List Int)), e = .returned v ∧ S ss ∧ w'.ownsRow w.heap.size 23 8 v ss.length (ss.flatMap u8s) ∧ (v = .slice none 0 0 ↔ ss = []) ∧ Below w.heap.size w w' := by
  have h1 : 1 ≤ n := by omega
  have hne : (89 : TypeId) ≠ 23 := by decide
  refine callsIn_of_wp_marks Tryz.func139 rfl h11 ?_ hro
  simp only [Tryz.ntmps139, List.size_toArray, List.length_cons, List.length_nil, Nat.reduceAdd, Nat.reduceSub, Array.replicate_succ, Array.replicate_zero, List.push_toArray, List.append_toArray, List.nil_append, List.cons_append]
  gi_wp2
  refine wpIn_rangeFunc ?_
  intro fn hfn
  rw [hro]
  obtain ⟨W0, hW0⟩ : ∃ W0, w.alloc (.cells #[.slice none 0 0] 89) = W0 := ⟨_, rfl⟩
  have hs0 : W0.heap.size = w.heap.size + 1 := by rw [← hW0]; simp
  have hv0 : W0.heap[w.heap.size]? = some (.cells #[.slice none 0 0] 89 (0, 0)) := by rw [← hW0]; exact World.alloc_heap_new w _
  have hb0 : Below w.heap.size w W0 := by rw [← hW0]; exact (Below.refl _ w).alloc (Nat.le_refl _) _
  rw [hW0]
  obtain ⟨W1, hW1⟩ : ∃ W1, (W0.alloc (.deferred (some []))).alloc (.loop (apRec fn (.func (.func g) #[] lb) w.heap.size W0.heap.size .ready none)) = W1 := ⟨_, rfl⟩
  have hold : ∀ k, k < W0.heap.size → W1.heap[k]? = W0.heap[k]? := fun k hk => by
    rw [← hW1]; exact (Below.heap_alloc _ _ k (by simp; omega)).trans (Below.heap_alloc _ _ k hk)
  have hb1 : Below w.heap.size w W1 := by rw [← hW1]; exact (hb0.alloc hb0.size _).alloc (by have := hb0.size; simp; omega) _
  have hs1 : W1.heap.size = W0.heap.size + 2 := by rw [← hW1]; simp
  have hM : ApAt w fn (.func (.func g) #[] lb) w.heap.size (W0.heap.size + 1) W0.heap.size [] W1 :=
    ⟨⟨_, (hold w.heap.size (by omega)).trans hv0, ⟨rfl, .inl ⟨rfl, rfl⟩⟩, by simp⟩,
     by rw [← hW1]; have := World.alloc_heap_new (W0.alloc (.deferred (some []))) (.loop (apRec fn (.func (.func g) #[] lb) w.heap.size W0.heap.size .ready none)); rwa [World.size_alloc] at this,
     by rw [← hW1]; exact (Below.heap_alloc _ _ _ (by simp)).trans (World.alloc_heap_new W0 _), hb1⟩
  refine ⟨W0.heap.size + 1, [{ target := .collected W0.heap.size, args := #[] }], W1, { target := .fn (.func g) lb, args := #[.func (.yield (W0.heap.size + 1)) #[] #[]] }, W1, g,
    #[.func (.yield (W0.heap.size + 1)) #[] #[]] ++ lb, W1, ?_, ?_, ?_, ?_, fun _ => h1, ?_⟩
  · rw [← hW1]; exact run_enterLoop_outer _ _ _ _ _
  · simp [resolve, go_sem]
  · intro f' hf'; simp [Target.leads] at hf'; subst hf'; exact hFg
  · simp [invoke, go_sem, eg]
  · refine (hseq (W0.heap.size + 1) (ApAt w fn (.func (.func g) #[] lb) w.heap.size (W0.heap.size + 1) W0.heap.size) W1 hb1 (ap_abides _ _ _ _ _ _ _ hb1.size)
      (fun pre x W hx8 hJ hl => apYield F (n - 1 - 1) w fn hfn _ w.heap.size (W0.heap.size + 1) W0.heap.size (by omega) (by omega) (by omega) (Nat.le_refl _) (by omega) N hN hNb pre x hx8 W hJ hl) hM).mono ?_
    rintro e W2 ⟨⟨v0, rfl⟩, ss, hS, h2⟩
    obtain ⟨v, hv, hrow, hnil⟩ := h2.box
    have hend := run_endLoop (P := Tryz.prog) h2.L (by simp [apRec])
    obtain ⟨W3, hW3⟩ : ∃ W3, W2.putObj (W0.heap.size + 1) (.loop { apRec fn (.func (.func g) #[] lb) w.heap.size W0.heap.size .ready none with state := .exhausted }) = W3 := ⟨_, rfl⟩
    rw [hW3] at hend
    have hg3 : W2.grownBy W3 (some (W0.heap.size + 1)) := by rw [← hW3]; exact grown_putObj _ _ _
    have hv3 : W3.heap[w.heap.size]? = some (.cells #[v] 89 (0, 0)) := by rw [← hW3]; exact (World.putObj_heap_other (by omega)).trans hv
    have hK3 : W3.heap[W0.heap.size]? = some (.deferred (some [])) := by rw [← hW3]; exact (World.putObj_heap_other (by omega)).trans h2.K
    have hrow3 := hrow.kept hg3 (row_ne hrow h2.L (fun cur e => by cases e))
    have hb3 : Below w.heap.size w W3 := h2.below.grown hg3 h2.below.size (fun k e => by cases e; omega)
    obtain ⟨hc3, hf3⟩ := cell_box hv3
    clear hW3
    refine ⟨none, W3, hend, ?_⟩
    gi_wp2
    rw [← hs0]
    refine ⟨by simp, .inl ⟨_, _, rfl, run_takeDeferred hK3, ?_⟩⟩
    exact ⟨_, results_tmp rfl _ _ _, v, ss, rfl, hS, hrow3.kept (grown_putObj _ _ _) (row_ne hrow3 hK3 (fun cur e => by cases e)), hnil, hb3.grown (grown_putObj _ _ _) hb3.size (fun k e => by cases e; omega)⟩

set_option maxHeartbeats 1000000 in
theorem collect_in (F : Fence) (n : Nat) (h8 : F.fn 102) (h11 : F.fn 139) (hro : F.round = none) (hn : 3 ≤ n) (g : Nat) (lb : Array Value) (hFg : F.fn g) (eg : ∀ args w, (callFunc g args).run Tryz.prog w = .ok (.enter g args) w)
    (S : List (List Int) → Prop) (N : Nat) (hN : N ≤ maxLen) (hNb : N * 8 ≤ 140737488355328) (w : World) (hseq : KeysGive Tryz.prog F (n - 1 - 1) g lb S N w) :
    CallsIn F n Tryz.prog 102 #[.func (.func g) #[] lb] w fun e w' => ∃ (v : Value) (ss : List (List Int)), e = .returned v ∧ S ss ∧ w'.ownsRow w.heap.size 23 8 v ss.length (ss.flatMap u8s) ∧ (v = .slice none 0 0 ↔ ss = []) ∧ Below w.heap.size w w' := by
  have h1 : 1 ≤ n := by omega
  refine callsIn_of_wp Tryz.func102 rfl h8 ?_ hro
  simp only [Tryz.ntmps102, List.size_toArray, List.length_cons, List.length_nil, Nat.reduceAdd, Nat.reduceSub, Array.replicate_succ, Array.replicate_zero, List.push_toArray, List.append_toArray, List.nil_append, List.cons_append]
  gi_wp2_with (gi_at_call 139; refine (appendSeq_in F (n - 1) h11 hro (by omega) g lb hFg eg S N hN hNb _ hseq).mono ?_; rintro e w' ⟨v, ss, rfl, hS, hrow, hnil, hb⟩)
  go_ret
  exact ⟨v, ss, rfl, hS, hrow, hnil, hb⟩
end Go.Proofs.YtcoagfnkcbfbaaaGreatDoor
