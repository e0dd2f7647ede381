/-
  The runner, third part: operations that read and write memory, and that make it.
-/
import Derived.Test.YtcoagfnkcbfbaaaGreatDoorSx2
import Derived.Laws.MakeOwn
namespace Go.Proofs.YtcoagfnkcbfbaaaGreatDoor
open Go.RowKit

section
variable {P : Program} {base : Nat} {w0 : World} {E : Env} {h h' : Tr} {w w' : World} {n n' : Nat} {F : Ft}

theorem Inv.cells (I : Inv base w0 E h w) {b B m : Nat} {l : List SV} {t : Nat} {x : Bool} (hb : h.get b = some (.cells l t x)) (hE : E b = some (B, m)) :
    ∃ cs, w.heap[B]? = some (.cells cs t (0, 0)) ∧ cs.size = m ∧ l.length ≤ m ∧ (x = true → l.length = m) ∧ RelL E l (cs.toList.take l.length) := by
  obtain ⟨B', m', h1, h2⟩ := I.blk b _ hb
  rw [hE] at h1
  cases h1
  generalize hq : w.heap[B]? = o at h2
  cases h2 with
  | cells a b c d => exact ⟨_, rfl, a, b, c, d⟩

theorem seg_take {α : Type} (l : List α) (k o j : Nat) (hk : o + j ≤ k) : ((l.take k).drop o).take j = (l.drop o).take j := by
  rw [List.drop_take, List.take_take, Nat.min_eq_left (by omega)]
theorem add_cell (B o j : Nat) : (⟨B, o, none⟩ : Addr).add j = ⟨B, o + j, none⟩ := by unfold Addr.add; split <;> simp_all

/-- cells of a block, from a place on -/
def readM (b o k : Nat) : M (List SV) := (M.get b).bind fun s => match s with
  | .cells l _ _ => if o + k ≤ l.length then .ret ((l.drop o).take k) else .fail
  | _ => .fail
theorem readM_ok (I : Inv base w0 E h w) {b o k B m : Nat} {l : List SV} (hE : E b = some (B, m)) (hr : (readM b o k).run n h = some (l, n', h', F)) :
    n' = n ∧ h' = h ∧ l.length = k ∧ o + k ≤ m ∧ ∃ L, RelL E l L ∧ L.length = k ∧ ∀ j v, L[j]? = some v → w.cell? ((⟨B, o, none⟩ : Addr).add j) = some v := by
  obtain ⟨s, n1, h1, F1, F2, e1, e2, -⟩ := M.bind_some hr
  obtain ⟨-, hg, rfl, rfl⟩ := M.get_some e1
  cases s with
  | map es => simp [M.fail] at e2
  | iter0 => simp [M.fail] at e2
  | cells l0 t x =>
    dsimp only at e2
    split at e2
    · rename_i hk
      obtain ⟨rfl, rfl, rfl⟩ := M.ret_some e2
      obtain ⟨cs, c1, c2, c3, c4, c5⟩ := I.cells hg hE
      have hlen : l0.length ≤ cs.toList.length := by simp; omega
      have c6 := (c5.drop o).take k
      rw [seg_take cs.toList l0.length o k hk] at c6
      refine ⟨rfl, rfl, by simp; omega, by omega, _, c6, by simp; omega, fun j v hj => ?_⟩
      rw [add_cell, cell_of_row w B (o + j) cs t (0, 0) c1]
      rw [List.getElem?_take] at hj
      split at hj
      · rw [List.getElem?_drop] at hj
        simpa using hj
      · cases hj
    · simp [M.fail] at e2

def spliceS {α : Type} (l : List α) (o : Nat) (c : List α) : List α := l.take o ++ c ++ l.drop (o + c.length)
theorem length_spliceS {α : Type} (l : List α) (o : Nat) (c : List α) (h : o + c.length ≤ l.length) : (spliceS l o c).length = l.length := by
  simp [spliceS]; omega
theorem splice_take {α : Type} (A : List α) (o : Nat) (c : List α) (k : Nat) (hk : o + c.length ≤ k) (hA : k ≤ A.length) : (spliceS A o c).take k = spliceS (A.take k) o c := by
  have e : A = A.take k ++ A.drop k := (List.take_append_drop k A).symm
  have l1 : (A.take k).length = k := by simp; omega
  have h1 : A.take o = (A.take k).take o := by rw [List.take_take, Nat.min_eq_left (by omega)]
  have h2 : A.drop (o + c.length) = (A.take k).drop (o + c.length) ++ A.drop k := by
    conv => lhs; rw [e]
    rw [List.drop_append_of_le_length (by omega)]
  have l2 : (spliceS (A.take k) o c).length = k := by rw [length_spliceS _ _ _ (by omega)]; exact l1
  have h3 : spliceS A o c = spliceS (A.take k) o c ++ A.drop k := by
    unfold spliceS
    rw [h1, h2]
    simp [List.append_assoc]
  rw [h3, List.take_append_of_le_length (by omega), List.take_of_length_le (by omega)]
theorem RelL.splice {l : List SV} {L : List Value} {c : List SV} {C : List Value} (hl : RelL E l L) (hc : RelL E c C) (o : Nat) : RelL E (spliceS l o c) (spliceS L o C) := by
  unfold spliceS
  rw [hc.length]
  exact ((hl.take o).append hc).append (hl.drop _)

def isCell : SV → Bool
  | .agg _ => false
  | .tup _ => false
  | _ => true
theorem Rel.isCell {v : SV} {V : Value} (hr : Rel E v V) (hc : isCell v = true) : V.oneCell' = true := by
  cases hr <;> first | rfl | (simp [YtcoagfnkcbfbaaaGreatDoor.isCell] at hc; done)
theorem RelL.allCells : ∀ {l : List SV} {L : List Value}, RelL E l L → l.all isCell = true → ∀ v ∈ L, v.oneCell' = true
  | _, _, .nil, _, v, hv => by cases hv
  | _, _, .cons a b, hc, v, hv => by
    simp only [List.all_cons, Bool.and_eq_true] at hc
    rcases List.mem_cons.1 hv with rfl | hv
    · exact a.isCell hc.1
    · exact RelL.allCells b hc.2 v hv

/-- cells are written -/
def writeM (b o : Nat) (c : List SV) : M Unit := .want (c.all isCell) ((M.get b).bind fun s => match s with
  | .cells l t x => if o + c.length ≤ l.length then M.put b (some (.cells (spliceS l o c) t x)) else .fail
  | _ => .fail)
theorem writeM_ok (I : Inv base w0 E h w) {b o B m : Nat} {c : List SV} {C : List Value} (hE : E b = some (B, m)) (hc : RelL E c C) {u : Unit} (hr : (writeM b o c).run n h = some (u, n', h', F)) :
    n' = n ∧ ∃ w', (storeCells ⟨B, o, none⟩ C).run P w = .ok () w' ∧ Inv base w0 E h' w' := by
  obtain ⟨ha, hr⟩ := M.want_some hr
  obtain ⟨s, n1, h1, F1, F2, e1, e2, -⟩ := M.bind_some hr
  obtain ⟨-, hg, rfl, rfl⟩ := M.get_some e1
  cases s with
  | map es => simp [M.fail] at e2
  | iter0 => simp [M.fail] at e2
  | cells l t x =>
    dsimp only at e2
    split at e2
    · rename_i hk
      obtain ⟨-, hs, rfl, hget⟩ := M.put_some e2
      obtain ⟨cs, c1, c2, c3, c4, c5⟩ := I.cells hg hE
      have hlen := hc.length
      have hst := run_storeCells_at P B o t C 0 cs w c1 (by omega) (hc.allCells ha)
      simp only [Nat.add_zero] at hst
      refine ⟨rfl, _, hst, ?_⟩
      have hnew := setRow_heap w B cs (cs.toList.take o ++ C ++ cs.toList.drop (o + C.length)).toArray t (0, 0) c1
      refine I.put hs hE hget ?_ (fun k hk => setRow_other w B k _ hk) (by simp) rfl rfl rfl
      rw [hnew]
      have hlen2 : l.length ≤ cs.toList.length := by simp; omega
      refine .cells ?_ ?_ ?_ ?_
      · simp; omega
      · rw [length_spliceS _ _ _ hk]; exact c3
      · rw [length_spliceS _ _ _ hk]; exact c4
      · rw [length_spliceS _ _ _ hk]
        show RelL E _ ((spliceS cs.toList o C).take l.length)
        rw [splice_take _ _ _ _ (by omega) hlen2]
        exact c5.splice hc o
    · simp [M.fail] at e2

/-- a new block -/
theorem newM_ok (I : Inv base w0 E h w) {l : List SV} {C : Array Value} {t : Nat} {x : Bool} {b : Nat} (hr : (M.new (.cells l t x)).run n h = some (b, n', h', F)) (hf : Free E n n')
    (hl : RelL E l (C.toList.take l.length)) (hlen : l.length ≤ C.size) (hx : x = true → l.length = C.size) :
    b = n ∧ n' = n + 1 ∧ ∃ E', Inv base w0 E' h' (w.alloc (.cells C t)) ∧ Grew E E' n n' ∧ E' b = some (w.heap.size, C.size) := by
  obtain ⟨rfl, rfl, hget⟩ := M.new_some hr
  have hE : E b = none := hf b (Nat.le_refl _) (by omega)
  have hle : E.le (fun c => if c = b then some (w.heap.size, C.size) else E c) := fun c x hc => by
    by_cases e : c = b
    · subst e; rw [hE] at hc; cases hc
    · simp [e, hc]
  obtain ⟨I', G⟩ := I.new (m := C.size) hE hget (.cells rfl hlen hx (hl.mono hle))
  exact ⟨rfl, rfl, _, I', G, by simp⟩
theorem newMap_ok (I : Inv base w0 E h w) {b : Nat} (hr : (M.new (.map [])).run n h = some (b, n', h', F)) (hf : Free E n n') :
    b = n ∧ n' = n + 1 ∧ ∃ E', Inv base w0 E' h' (w.alloc (.map #[] 0)) ∧ Grew E E' n n' ∧ E' b = some (w.heap.size, 0) := by
  obtain ⟨rfl, rfl, hget⟩ := M.new_some hr
  have hE : E b = none := hf b (Nat.le_refl _) (by omega)
  obtain ⟨I', G⟩ := I.new (m := 0) hE hget (.map .nil (by simp) (by simp))
  exact ⟨rfl, rfl, _, I', G, by simp⟩
theorem newIter_ok (I : Inv base w0 E h w) {b : Nat} (hr : (M.new .iter0).run n h = some (b, n', h', F)) (hf : Free E n n') :
    b = n ∧ n' = n + 1 ∧ ∃ E', Inv base w0 E' h' (w.alloc (.mapIter none 0 #[] 0)) ∧ Grew E E' n n' ∧ E' b = some (w.heap.size, 0) := by
  obtain ⟨rfl, rfl, hget⟩ := M.new_some hr
  have hE : E b = none := hf b (Nat.le_refl _) (by omega)
  obtain ⟨I', G⟩ := I.new (m := 0) hE hget .iter0
  exact ⟨rfl, rfl, _, I', G, by simp⟩

def isAggD : TypeDesc → Bool
  | .struct _ => true
  | .array _ _ => true
  | _ => false
theorem run_isAgg {t : Nat} {d : TypeDesc} (hu : P.underlying t = some d) : (isAgg t).run P w = .ok (isAggD d) w := by
  unfold isAgg
  rw [Sem.run_bind, run_underlying hu w]
  cases d <;> simp [isAggD]
theorem run_sizeOf {t : Nat} {I : TypeInfo} (hi : P.info? t = some I) : (sizeOf t).run P w = .ok I.size w := by simp [sizeOf, typeInfo, hi]
theorem run_zeroValue {t : Nat} {I : TypeInfo} {Z : Value} (hi : P.info? t = some I) (hz : I.zero = some Z) : (zeroValue t).run P w = .ok Z w := by simp [zeroValue, typeInfo, hi, hz]
end

section
variable {D : Dt} {ev : Operand → Option SV} {o : Oper} {a : Act} {base : Nat} {w0 : World} {E : Env} {h h' : Tr} {w : World} {n n' : Nat} {F : Ft} {v : SV}

/-- a variable is loaded -/
def loadM (D : Dt) (t : Nat) (p : SV) : M SV :=
  match D.ti t, p with
  | some i, .ptr b o => if isAggD i.d then (readM b o i.size).bind fun l => .ret (.agg l) else (readM b o 1).bind fun l => .ofOpt l.head?
  | _, _ => .fail
theorem loadM_ok (hD : D.Ok) (I : Inv base w0 E h w) {t : Nat} {p : SV} {V : Value} (hp : Rel E p V) (hr : (loadM D t p).run n h = some (v, n', h', F)) :
    n' = n ∧ h' = h ∧ ∃ A U, V = .pointer (some A) ∧ (loadVar t A).run D.P w = .ok U w ∧ Rel E v U := by
  unfold loadM at hr
  split at hr
  · rename_i i b o hi
    have T := hD.ti t i hi
    obtain ⟨If, f1, f2, f3, Z, f4, f5⟩ := T.info
    cases hp with
    | ptr hE =>
      rename_i B m
      split at hr
      · rename_i hagg
        obtain ⟨l, n1, h1, F1, F2, e1, e2, -⟩ := M.bind_some hr
        obtain ⟨rfl, rfl, hl, hm, L, L1, L2, L3⟩ := readM_ok I hE e1
        obtain ⟨rfl, rfl, rfl⟩ := M.ret_some e2
        refine ⟨rfl, rfl, _, _, rfl, ?_, .agg (cs := L.toArray) (by simpa using L1)⟩
        have hload := run_loadCells_list (P := D.P) w ⟨B, o, none⟩ L L3
        rw [L2] at hload
        simp only [loadVar, Sem.run_bind, run_isAgg T.und, hagg, Result.andThen_ok, if_true, run_sizeOf f1, f2, hload, Sem.run_pure]
      · rename_i hagg
        obtain ⟨l, n1, h1, F1, F2, e1, e2, -⟩ := M.bind_some hr
        obtain ⟨rfl, rfl, hl, hm, L, L1, L2, L3⟩ := readM_ok I hE e1
        obtain ⟨e3, rfl, rfl⟩ := M.ofOpt_some e2
        match L, L2, l, L1 with
        | [U], _, [u], .cons hu .nil =>
          simp only [List.head?_cons, Option.some.injEq] at e3
          subst e3
          refine ⟨rfl, rfl, _, U, rfl, ?_, hu⟩
          have hc := L3 0 U rfl
          rw [add_cell, Nat.add_zero] at hc
          have hagg' : isAggD i.d = false := by simpa using hagg
          simp only [loadVar, Sem.run_bind, run_isAgg T.und, hagg', Result.andThen_ok, Bool.false_eq_true, if_false, run_load, hc]
  · simp [M.fail] at hr

/-- a variable is stored -/
def storeM (D : Dt) (t : Nat) (p x : SV) : M SV :=
  match D.ti t, p with
  | some i, .ptr b o => .want ((cellsS x).length == i.size) ((writeM b o (cellsS x)).bind fun _ => .ret uns)
  | _, _ => .fail
theorem storeM_ok (hD : D.Ok) (I : Inv base w0 E h w) {t : Nat} {p x : SV} {V X : Value} (hp : Rel E p V) (hx : Rel E x X) (hr : (storeM D t p x).run n h = some (v, n', h', F)) :
    n' = n ∧ v = uns ∧ ∃ w', (Instr.storeAt t V X).run D.P w = .ok () w' ∧ Inv base w0 E h' w' := by
  unfold storeM at hr
  split at hr
  · rename_i i b o hi
    have T := hD.ti t i hi
    obtain ⟨If, f1, f2, f3, Z, f4, f5⟩ := T.info
    cases hp with
    | ptr hE =>
      rename_i B m
      obtain ⟨hs, hr⟩ := M.want_some hr
      obtain ⟨u, n1, h1, F1, F2, e1, e2, -⟩ := M.bind_some hr
      have hc := cellsS_rel hx
      obtain ⟨rfl, w', hw, I'⟩ := writeM_ok (P := D.P) I hE hc e1
      obtain ⟨rfl, rfl, rfl⟩ := M.ret_some e2
      refine ⟨rfl, rfl, w', ?_, I'⟩
      have hlen : X.cells.size = If.size := by
        have := hc.length
        simp at hs this
        omega
      have hne : ¬ (X.cells.size ≠ If.size) := by simp [hlen]
      simp only [Instr.storeAt, Instr.sureAddr, storeVar, Sem.run_bind, Sem.run_pure, Result.andThen_ok, run_sizeOf f1, hlen, ne_eq, not_true_eq_false, if_false, hw]
  · simp [M.fail] at hr

/-- a field of the parts of a struct -/
theorem places_get {P : Program} : ∀ {fs : List Field} {ps : List (Nat × Nat)}, fs.mapM (fun f => (P.info? f.type).map fun i => (f.offset, i.size)) = some ps →
    ∀ (k off sz : Nat), ps[k]? = some (off, sz) → ∃ (fl : Field) (I : TypeInfo), fs[k]? = some fl ∧ fl.offset = off ∧ P.info? fl.type = some I ∧ I.size = sz
  | [], ps, h, k, off, sz, hk => by simp at h; subst h; simp at hk
  | f :: fs, ps, h, k, off, sz, hk => by
    simp only [List.mapM_cons, Option.bind_eq_bind, Option.pure_def] at h
    cases hi : P.info? f.type with
    | none => simp [hi] at h
    | some i =>
      cases hr : fs.mapM (fun f => (P.info? f.type).map fun i => (f.offset, i.size)) with
      | none => simp [hi, hr] at h
      | some rest =>
        simp [hi, hr] at h
        subst h
        cases k with
        | zero =>
          simp at hk
          exact ⟨f, i, rfl, hk.1, hi, hk.2⟩
        | succ k => simpa using places_get hr k off sz (by simpa using hk)

def fieldAddrM (D : Dt) (t : Nat) (p : SV) (f : Nat) : M SV :=
  match D.ti t, p with
  | some i, .ptr b o => match i.d, i.place[f]? with
    | .struct _, some (off, sz) => .want (sz != 0) (.ret (.ptr b (o + off)))
    | _, _ => .fail
  | _, _ => .fail
theorem fieldAddrM_ok (hD : D.Ok) {t f : Nat} {p : SV} {V : Value} (hp : Rel E p V) (hr : (fieldAddrM D t p f).run n h = some (v, n', h', F)) :
    n' = n ∧ h' = h ∧ ∃ U, (Instr.fieldAt t V f).run D.P w = .ok U w ∧ Rel E v U := by
  unfold fieldAddrM at hr
  split at hr
  · rename_i i b o hi
    have T := hD.ti t i hi
    cases hp with
    | ptr hE =>
      rename_i B m
      split at hr
      · rename_i fs off sz hd hpl
        obtain ⟨hs, hr⟩ := M.want_some hr
        obtain ⟨rfl, rfl, rfl⟩ := M.ret_some hr
        obtain ⟨fl, If, g1, g2, g3, g4⟩ := places_get (T.pl fs hd) f off sz hpl
        refine ⟨rfl, rfl, .pointer (some ⟨B, o + off, none⟩), ?_, .ptr hE⟩
        have hu := T.und
        rw [hd] at hu
        have g1' : fs[f]? = some fl := by simpa using g1
        have hs' : ¬ If.size = 0 := by rw [g4]; simpa using hs
        simp only [Instr.fieldAt, Sem.run_bind, run_underlying hu, Result.andThen_ok, g1', Instr.sureAddr, Sem.run_pure, fieldPlace, run_sizeOf g3, hs', if_false, add_cell, g2]
      · simp [M.fail] at hr
  · simp [M.fail] at hr

def indexAddrM (D : Dt) (t : Nat) (x ix : SV) : M SV :=
  match D.ti t, ix with
  | some i, .int _ k => match i.d, x with
    | .array len e, .ptr b o => match D.ti e with
      | some j => .want (decide (0 ≤ k ∧ k < len)) (.ret (.ptr b (o + k.toNat * j.size)))
      | none => .fail
    | .slice e, .sl b o len _ _ => match D.ti e with
      | some j => .want (decide (0 ≤ k ∧ k < len)) (.ret (.ptr b (o + k.toNat * j.size)))
      | none => .fail
    | _, _ => .fail
  | _, _ => .fail
theorem indexAddrM_ok (hD : D.Ok) {t : Nat} {x ix : SV} {X IX : Value} (hx : Rel E x X) (hi : Rel E ix IX) (hr : (indexAddrM D t x ix).run n h = some (v, n', h', F)) :
    n' = n ∧ h' = h ∧ ∃ U, (Instr.indexAt t X IX).run D.P w = .ok U w ∧ Rel E v U := by
  unfold indexAddrM at hr
  split at hr
  · rename_i i k kn hti
    have T := hD.ti t i hti
    cases hi with
    | int _ _ =>
    split at hr
    · rename_i len e b o hd
      cases hx with
      | ptr hE =>
      rename_i B m
      split at hr
      · rename_i j hj
        obtain ⟨hb, hr⟩ := M.want_some hr
        obtain ⟨rfl, rfl, rfl⟩ := M.ret_some hr
        obtain ⟨If, f1, f2, f3, Z, f4, f5⟩ := (hD.ti e j hj).info
        have hu := T.und
        rw [hd] at hu
        have hb' : 0 ≤ kn ∧ kn < (len : Int) := by simpa using hb
        refine ⟨rfl, rfl, .pointer (some ⟨B, o + kn.toNat * j.size, none⟩), ?_, .ptr hE⟩
        simp only [Instr.indexAt, asIntOf, Sem.run_bind, Sem.run_pure, Result.andThen_ok, run_underlying hu, Instr.sureAddr, hb', and_self, if_true, run_sizeOf f1, f2, add_cell]
      · simp [M.fail] at hr
    · rename_i e b o len z c hd
      cases hx with
      | sl hE hc1 hc2 hc3 =>
      rename_i B m c'
      split at hr
      · rename_i j hj
        obtain ⟨hb, hr⟩ := M.want_some hr
        obtain ⟨rfl, rfl, rfl⟩ := M.ret_some hr
        obtain ⟨If, f1, f2, f3, Z, f4, f5⟩ := (hD.ti e j hj).info
        have hu := T.und
        rw [hd] at hu
        have hb' : 0 ≤ kn ∧ kn < (len : Int) := by simpa using hb
        refine ⟨rfl, rfl, .pointer (some ⟨B, o + kn.toNat * j.size, none⟩), ?_, .ptr hE⟩
        simp only [Instr.indexAt, asIntOf, Sem.run_bind, Sem.run_pure, Result.andThen_ok, run_underlying hu, hb', and_self, if_true, run_sizeOf f1, f2, add_cell]
      · simp [M.fail] at hr
    · simp [M.fail] at hr
  · simp [M.fail] at hr

/-- parts are filled in -/
def fillS (place : Nat → Option (Nat × Nat)) (cells : List SV) : List (Nat × SV) → Option (List SV)
  | [] => some cells
  | (i, v) :: rest => match place i with
    | none => none
    | some (off, size) => if (cellsS v).length = size ∧ off + (cellsS v).length ≤ cells.length then fillS place (spliceS cells off (cellsS v)) rest else none
inductive RelP (E : Env) : List (Nat × SV) → List (Nat × Value) → Prop
  | nil : RelP E [] []
  | cons {i : Nat} {v : SV} {V : Value} {l : List (Nat × SV)} {L : List (Nat × Value)} : Rel E v V → RelP E l L → RelP E ((i, v) :: l) ((i, V) :: L)
theorem foldl_splice (off : Nat) : ∀ (l : List Value) (k : Nat) (cells : Array Value), off + k + l.length ≤ cells.size →
    ((l.zipIdx k).foldl (fun cs (x : Value × Nat) => cs.setIfInBounds (off + x.2) x.1) cells).toList = spliceS cells.toList (off + k) l
  | [], k, cells, _ => by simp [spliceS]
  | c :: l, k, cells, hl => by
    rw [List.zipIdx_cons, List.foldl_cons, foldl_splice off l (k + 1) _ (by simp at hl ⊢; omega)]
    have := list_seg_step cells.toList (off + k) c l (by simp at hl ⊢; omega)
    unfold spliceS
    simp only [Array.toList_setIfInBounds, List.length_cons]
    rw [← this]
    simp [Nat.add_assoc]
theorem fillS_ok (place : Nat → Option (Nat × Nat)) : ∀ {ps : List (Nat × SV)} {Ps : List (Nat × Value)} {cells : List SV} {C : Array Value} {r : List SV}, RelP E ps Ps → RelL E cells C.toList → fillS place cells ps = some r →
    ∃ R, Instr.fill place C Ps = some R ∧ RelL E r R.toList
  | [], _, cells, C, r, .nil, hc, h => by
    simp only [fillS, Option.some.injEq] at h
    subst h
    exact ⟨C, rfl, hc⟩
  | (i, v) :: ps, _, cells, C, r, .cons (V := V) (L := L) hv hp, hc, h => by
    unfold fillS at h
    cases hpl : place i with
    | none => simp [hpl] at h
    | some x =>
      obtain ⟨off, size⟩ := x
      simp only [hpl] at h
      split at h
      · rename_i hk
        have hcv := cellsS_rel hv
        have hlen := hcv.length
        have hlc := hc.length
        simp at hlen hlc
        have hfold := foldl_splice off V.cells.toList 0 C (by simp; omega)
        rw [Nat.add_zero] at hfold
        have e : (V.cells.zipIdx.foldl (fun cs (x : Value × Nat) => cs.setIfInBounds (off + x.2) x.1) C).toList = spliceS C.toList off V.cells.toList := by
          rw [← hfold]
          congr 1
          rw [← Array.foldl_toList]
          congr 1
          simp
        have hc' : RelL E (spliceS cells off (cellsS v)) (V.cells.zipIdx.foldl (fun cs (x : Value × Nat) => cs.setIfInBounds (off + x.2) x.1) C).toList := by
          rw [e]
          exact hc.splice hcv off
        obtain ⟨R, R1, R2⟩ := fillS_ok place hp hc' h
        refine ⟨R, ?_, R2⟩
        unfold Instr.fill
        simp only [hpl]
        rw [if_neg (by simp; omega)]
        exact R1
      · cases h

def partsS (ev : Operand → Option SV) (ps : List (Nat × Operand)) : Option (List (Nat × SV)) := optAll (fun x => match ev x.2 with | some v => some (x.1, v) | none => none) ps
theorem partsS_ok (hT : ∀ x v, ev x = some v → Rel E v (a.eval x)) : ∀ {ps : List (Nat × Operand)} {r : List (Nat × SV)}, partsS ev ps = some r → RelP E r (ps.map fun x => (x.1, a.eval x.2))
  | [], r, h => by cases h; exact .nil
  | (i, x) :: ps, r, h => by
    obtain ⟨b, s, hb, hs, rfl⟩ := optAll_cons h
    cases he : ev x with
    | none => simp [he] at hb
    | some v =>
      simp only [he, Option.some.injEq] at hb
      subst hb
      exact .cons (hT _ _ he) (partsS_ok hT hs)

def placeOf (D : Dt) (i : TI) : Option (Nat → Option (Nat × Nat)) :=
  match i.d with
  | .struct _ => some fun k => i.place[k]?
  | .array _ e => match D.ti e with
    | some j => some fun k => some (k * j.size, j.size)
    | none => none
  | _ => none
def buildM (D : Dt) (t : Nat) (ps : Option (List (Nat × SV))) : M SV :=
  match D.ti t, ps with
  | some i, some ps => match placeOf D i with
    | some pl => match fillS pl (cellsS i.zero) ps with
      | some l => .ret (.agg l)
      | none => .fail
    | none => .fail
  | _, _ => .fail
theorem buildM_ok (hD : D.Ok) {t : Nat} {ps : List (Nat × SV)} {Ps : Array (Nat × Value)} (hp : RelP E ps Ps.toList) (hr : (buildM D t (some ps)).run n h = some (v, n', h', F)) :
    n' = n ∧ h' = h ∧ ∃ U, (Instr.build t Ps).run D.P w = .ok U w ∧ Rel E v U := by
  unfold buildM at hr
  split at hr
  · rename_i i ps' hti hps
    cases hps
    have T := hD.ti t i hti
    obtain ⟨If, f1, f2, f3, Z, f4, f5⟩ := T.info
    split at hr
    · rename_i pl hpl
      split at hr
      · rename_i l hl
        obtain ⟨rfl, rfl, rfl⟩ := M.ret_some hr
        have hz : RelL E (cellsS i.zero) Z.cells.toList := cellsS_rel (Rel.of_toV f5)
        obtain ⟨R, R1, R2⟩ := fillS_ok pl hp hz hl
        refine ⟨rfl, rfl, .agg R, run_build w t Ps R ?_, .agg R2⟩
        unfold placeOf at hpl
        unfold Program.built
        split at hpl
        · rename_i fs hd
          cases hpl
          have hu := T.und
          rw [hd] at hu
          simp only [f1, hu, f4, T.pl fs hd]
          simpa using R1
        · rename_i len e hd
          have hu := T.und
          rw [hd] at hu
          split at hpl
          · rename_i j hj
            cases hpl
            obtain ⟨Ie, g1, g2, g3, Ze, g4, g5⟩ := (hD.ti e j hj).info
            simp only [f1, hu, f4, g1, g2]
            exact R1
          · cases hpl
        · cases hpl
      · simp [M.fail] at hr
    · simp [M.fail] at hr
  · simp [M.fail] at hr

theorem RelL.of_get : ∀ {l : List SV} {L : List Value}, l.length = L.length → (∀ (i : Nat) (v : SV) (V : Value), l[i]? = some v → L[i]? = some V → Rel E v V) → RelL E l L
  | [], [], _, _ => .nil
  | [], _ :: _, h, _ => by simp at h
  | _ :: _, [], h, _ => by simp at h
  | v :: l, V :: L, h, k => .cons (k 0 v V rfl rfl) (RelL.of_get (by simpa using h) fun i v V h1 h2 => k (i + 1) v V (by simpa using h1) (by simpa using h2))

/-- the cells of so many zeros -/
def zerosS (z : List SV) (k : Nat) : List SV := (List.range k).map fun i => z.getD (i % z.length) uns
theorem zerosS_ok {z : List SV} {Z : Array Value} {k : Nat} (hz : RelL E z Z.toList) (hk : z.length = 0 → k = 0) : RelL E (zerosS z k) (madeCells Z k).toList := by
  have hl := hz.length
  simp at hl
  refine RelL.of_get (by simp [zerosS, madeCells]) fun i v V h1 h2 => ?_
  simp only [zerosS, List.getElem?_map] at h1
  simp only [madeCells, Array.toList_map, Array.toList_range, List.getElem?_map] at h2
  cases hr : (List.range k)[i]? with
  | none => simp [hr] at h1
  | some j =>
    have hj : j = i ∧ i < k := by
      obtain ⟨h3, h4⟩ := List.getElem?_eq_some_iff.1 hr
      simp at h3 h4
      exact ⟨h4.symm, h3⟩
    obtain ⟨rfl, hjk⟩ := hj
    simp only [hr, Option.map_some, Option.some.injEq] at h1 h2
    have hpos : 0 < z.length := by
      rcases Nat.eq_zero_or_pos z.length with e | e
      · have := hk e; omega
      · exact e
    have hlt : j % z.length < z.length := Nat.mod_lt _ hpos
    obtain ⟨V', h5, h6⟩ := hz.get (j % z.length) z[j % z.length] (List.getElem?_eq_getElem hlt)
    rw [List.getD_eq_getElem?_getD, List.getElem?_eq_getElem hlt] at h1
    simp only [Option.getD_some] at h1
    subst h1
    rw [← hl] at h2
    have h7 : Z[j % z.length]! = V' := by
      rw [Array.getElem?_toList] at h5
      rw [Array.getElem!_eq_getD]
      simp [Array.getD_eq_getD_getElem?, h5]
    rw [← h2, h7]
    exact h6

def buildSliceM (D : Dt) (t len : Nat) (ps : Option (List (Nat × SV))) : M SV :=
  match D.ti t, ps with
  | some i, some ps => match i.d with
    | .slice e => match D.ti e with
      | some j => .want (decide (0 < j.size) && decide (len * j.size ≤ 16777216)) (match fillS (fun k => some (k * j.size, j.size)) (zerosS (cellsS j.zero) (len * j.size)) ps with
        | some l => (M.new (.cells l e true)).bind fun b => .ret (.sl b 0 len j.size (some len))
        | none => .fail)
      | none => .fail
    | _ => .fail
  | _, _ => .fail
theorem buildSliceM_ok (hD : D.Ok) (I : Inv base w0 E h w) {t len : Nat} {ps : List (Nat × SV)} {Ps : Array (Nat × Value)} (hp : RelP E ps Ps.toList) (hf : Free E n n') (hr : (buildSliceM D t len (some ps)).run n h = some (v, n', h', F)) :
    ∃ U w' E', (Instr.buildSlice t len Ps).run D.P w = .ok U w' ∧ Rel E' v U ∧ Inv base w0 E' h' w' ∧ Grew E E' n n' := by
  unfold buildSliceM at hr
  split at hr
  · rename_i i ps' hti hps
    cases hps
    have T := hD.ti t i hti
    split at hr
    · rename_i e hd
      split at hr
      · rename_i j hj
        have Te := hD.ti e j hj
        obtain ⟨If, f1, f2, f3, Z, f4, f5⟩ := Te.info
        obtain ⟨hw, hr⟩ := M.want_some hr
        simp only [Bool.and_eq_true, decide_eq_true_eq] at hw
        split at hr
        · rename_i l hl
          obtain ⟨b, n1, h1, F1, F2, e1, e2, -⟩ := M.bind_some hr
          obtain ⟨rfl, rfl, rfl⟩ := M.ret_some e2
          have hz : RelL E (cellsS j.zero) Z.cells.toList := cellsS_rel (Rel.of_toV f5)
          have hzz := zerosS_ok (k := len * j.size) hz (fun e => by rw [Te.zc] at e; omega)
          obtain ⟨R, R1, R2⟩ := fillS_ok _ hp hzz hl
          have hlR := R2.length
          obtain ⟨rfl, rfl, E', I', G, hE'⟩ := newM_ok I e1 hf (C := R) (by rw [hlR, List.take_length]; exact R2) (by simp at hlR; omega) (fun _ => by simpa using hlR)
          have hu := T.und
          rw [hd] at hu
          have hcount : ∀ {q : List SV} {r : List SV} {pl : Nat → Option (Nat × Nat)} {ps : List (Nat × SV)}, fillS pl q ps = some r → r.length = q.length := by
            intro q r pl ps
            induction ps generalizing q with
            | nil => intro h; simp only [fillS, Option.some.injEq] at h; rw [h]
            | cons x ps ih =>
              intro h
              obtain ⟨i, v⟩ := x
              unfold fillS at h
              split at h
              · cases h
              · split at h
                · rename_i hk
                  rw [ih h, length_spliceS _ _ _ hk.2]
                · cases h
          have hsz : R.size = len * j.size := by
            have := hcount hl
            simp [zerosS] at this hlR
            omega
          refine ⟨.slice (some ⟨w.heap.size, 0, none⟩) len len, _, E', ?_, .sl hE' (fun k e => by cases e; rfl) (Nat.le_refl _) (fun e => by cases e), I', G⟩
          have hle : ¬ (16777216 < len * If.size) := by rw [f2]; omega
          have hz0 : Z.cells.size = j.size := by have := hz.length; rw [Te.zc] at this; simpa using this.symm
          by_cases hlen : len * j.size = 0
          · have hR1 : Instr.fill (fun k => some (k * j.size, j.size)) (madeCells Z.cells 0) Ps.toList = some R := by rw [← hlen]; exact R1
            have h0 : Array.range 0 = (#[] : Array Nat) := by simp [Array.range]
            have h1 : madeCells Z.cells 0 = #[] := by simp [madeCells, h0]
            rw [h1] at hR1
            simp [Instr.buildSlice, run_underlying hu, run_sizeOf f1, f2, hlen, newRow, h0, hR1]
          · simp [Instr.buildSlice, run_underlying hu, run_sizeOf f1, f2, hlen, newRow, run_zeroValue f1 f4]
            rw [if_neg (by rw [f2] at hle; omega)]
            have hR1 := R1
            unfold madeCells at hR1
            simp [hR1]
        · simp [M.fail] at hr
      · simp [M.fail] at hr
    · simp [M.fail] at hr
  · simp [M.fail] at hr
end
end Go.Proofs.YtcoagfnkcbfbaaaGreatDoor
