/-
  Steps of a fenced walk at arrays of bytes: a variable that is made and stored, loaded; a slice of one of them.
-/
import Derived.Test.YtcoagfnkcbfbaaaGreatDoorMaps
import Derived.Test.YtcoagfnkcbfbaaaGreatDoorSx3
import Derived.OwnWalkIn
namespace Go.Proofs.YtcoagfnkcbfbaaaGreatDoor
open Go.RowKit

theorem setRow_alloc (w : World) (Z cs : Array Value) (t : TypeId) : (w.alloc (.cells Z t)).setRow w.heap.size cs = w.alloc (.cells cs t) := by
  unfold World.setRow World.alloc
  simp only
  congr 1
  apply Array.ext_getElem?
  intro k
  rw [Array.getElem?_modify]
  by_cases e : w.heap.size = k
  · subst e
    simp
  · rw [if_neg e, Array.getElem?_push, Array.getElem?_push]
    rw [if_neg (fun h => e h.symm), if_neg (fun h => e h.symm)]

theorem run_store_new {P : Program} {w : World} {t : TypeId} {i : TypeInfo} {Z : Array Value} (hi : P.info? t = some i) (V : Value) (hz : Z.size = i.size) (hcs : V.cells.size = i.size) (h1 : ∀ v ∈ V.cells.toList, v.oneCell' = true) :
    (Instr.storeAt t (.pointer (some ⟨w.heap.size, 0, none⟩)) V).run P (w.alloc (.cells Z t)) = .ok () (w.alloc (.cells V.cells t)) := by
  have hst := run_storeCells_at (P := P) w.heap.size 0 t V.cells.toList 0 Z (w.alloc (.cells Z t)) (World.alloc_heap_new w _) (by simp; omega) h1
  have h2 : (Z.toList.take (0 + 0) ++ V.cells.toList ++ Z.toList.drop (0 + 0 + V.cells.toList.length)).toArray = V.cells := by
    rw [List.drop_of_length_le (by simp; omega)]
    simp
  rw [h2, setRow_alloc] at hst
  simp only [Instr.storeAt, Instr.sureAddr, storeVar, Sem.run_bind, Sem.run_pure, Result.andThen_ok, run_sizeOf hi, hcs, ne_eq, not_true_eq_false, if_false, hst]

theorem u8s_one (x : List Int) : ∀ v ∈ u8s x, v.oneCell' = true := by
  intro v hv
  obtain ⟨z, -, rfl⟩ := List.mem_map.1 hv
  rfl
theorem arr_cells (x : List Int) : (arr x).cells = (u8s x).toArray := rfl

section
variable {P : Program} {ops : Array Oper} {rest : List Oper} {o o2 : Oper} {a : Act} {Q : Exit → Act → World → Prop} {F : Fence} {nF : Nat} {w : World}

theorem wpListIn_alloc_store (hg : o.guard = none) (hg2 : o2.guard = none) (t : TypeId) (hop : o.op = Op.alloc t) (d : Tmp) (hd : o.dst = some d) (xo : Operand) (hop2 : o2.op = Op.store t (.tmp d) xo)
    (i : TypeInfo) (Z : Value) (hi : P.info? t = some i) (hz : i.zero = some Z) (hZ : Z.cells.size = i.size) (hdlt : d < a.tmps.size) (x : List Int) (hx : (a.put (some d) (.pointer (some ⟨w.heap.size, 0, none⟩))).eval xo = arr x) (hlx : x.length = i.size)
    (hK : wpListIn F nF P ops Q rest ((a.put (some d) (.pointer (some ⟨w.heap.size, 0, none⟩))).put o2.dst undef) (w.alloc (.cells (u8s x).toArray t))) :
    wpListIn F nF P ops Q (o :: o2 :: rest) a w := by
  refine wpListIn_plain hg fun K hK1 => ?_
  unfold Oper.wpIn
  refine ⟨by simp [Oper.about, hop], ?_⟩
  rw [Oper.semAt_plain F _ _ (by rw [hop]; intro c hc'; cases hc')]
  simp only [execOp, hop, Instr.alloc, Sem.run_bind, run_zeroValue hi hz, Result.andThen_ok]
  simp [newVar, newRow, Result.andThen]
  refine hK1 _ _ ?_
  rw [hd]
  refine wpListIn_plain hg2 fun K hK2 => ?_
  unfold Oper.wpIn
  refine ⟨by simp [Oper.about, hop2], ?_⟩
  rw [Oper.semAt_plain F _ _ (by rw [hop2]; intro c hc'; cases hc')]
  have hptr : (a.put (some d) (.pointer (some ⟨w.heap.size, 0, none⟩))).eval (.tmp d) = .pointer (some ⟨w.heap.size, 0, none⟩) := by
    simp [Act.eval, Act.put, Array.getD_eq_getD_getElem?, hdlt]
  have hst := run_store_new (P := P) (w := w) (t := t) (Z := Z.cells) hi (arr x) hZ (by rw [arr_cells]; simp [u8s, hlx]) (by rw [arr_cells]; exact u8s_one x)
  simp only [execOp, hop2, hptr, hx, Sem.run_bind, hst, Result.andThen_ok, Sem.run_pure]
  exact hK2 _ _ hK

theorem run_load_arr {t e : TypeId} {n : Nat} {i : TypeInfo} (hu : P.underlying t = some (.array n e)) (hi : P.info? t = some i) (hn : i.size = n) {b : Nat} {t' : TypeId} {x : List Int} (hb : w.heap[b]? = some (.cells (u8s x).toArray t' (0, 0))) (hlx : x.length = n) :
    (Instr.loadAt t (.pointer (some ⟨b, 0, none⟩))).run P w = .ok (arr x) w := by
  have hload := run_loadCells_list (P := P) w ⟨b, 0, none⟩ (u8s x) (fun j u hj => by
    rw [add_cell, cell_of_row w b (0 + j) (u8s x).toArray t' (0, 0) hb]
    simpa using hj)
  have hl : (u8s x).length = n := by simp [u8s, hlx]
  rw [hl] at hload
  have hagg : (isAgg t).run P w = .ok true w := by rw [run_isAgg hu]; rfl
  simp only [Instr.loadAt, Instr.sureAddr, loadVar, Sem.run_bind, Sem.run_pure, hagg, Result.andThen_ok, if_true, run_sizeOf hi, hn, hload]
  rfl
theorem wpListIn_load_arr (hg : o.guard = none) (t : TypeId) (p : Operand) (hop : o.op = Op.load t p) (e : TypeId) (n : Nat) (i : TypeInfo) (hu : P.underlying t = some (.array n e)) (hi : P.info? t = some i) (hn : i.size = n)
    (b : Nat) (hp : a.eval p = .pointer (some ⟨b, 0, none⟩)) (t' : TypeId) (x : List Int) (hb : w.heap[b]? = some (.cells (u8s x).toArray t' (0, 0))) (hlx : x.length = n) (hK : wpListIn F nF P ops Q rest (a.put o.dst (arr x)) w) :
    wpListIn F nF P ops Q (o :: rest) a w := by
  refine wpListIn_plain hg fun K hK1 => ?_
  unfold Oper.wpIn
  refine ⟨by simp [Oper.about, hop], ?_⟩
  rw [Oper.semAt_plain F _ _ (by rw [hop]; intro c hc'; cases hc')]
  simp only [execOp, hop, hp, Sem.run_bind, run_load_arr hu hi hn hb hlx, Result.andThen_ok, Sem.run_pure]
  exact hK1 _ _ hK

theorem run_buildSlice_one {ts t : TypeId} {n : Nat} {i : TypeInfo} {Z : Value} (hs : P.underlying ts = some (.slice t)) (hi : P.info? t = some i) (hz : i.zero = some Z) (hn : i.size = n) (hn0 : 0 < n) (hnb : n ≤ 16777216) {x : List Int} (hlx : x.length = n) :
    (Instr.buildSlice ts 1 #[(0, arr x)]).run P w = .ok (.slice (some ⟨w.heap.size, 0, none⟩) 1 1) (w.alloc (.cells (u8s x).toArray t)) := by
  have h1 : ¬ (16777216 < n) := by omega
  have h2 : n ≠ 0 := by omega
  have hsz : (arr x).cells.size = n := by rw [arr_cells]; simp [u8s, hlx]
  have hl : (u8s x).length = n := by simp [u8s, hlx]
  have hfill : ∀ (cs : Array Value), cs.size = n → Instr.fill (fun i => some (i * n, n)) cs [(0, arr x)] = some (u8s x).toArray := by
    intro cs hcs
    have hfold := foldl_splice 0 (arr x).cells.toList 0 cs (by simp; omega)
    have e : (arr x).cells.zipIdx.foldl (fun cs (x : Value × Nat) => cs.setIfInBounds (0 + x.2) x.1) cs = (u8s x).toArray := by
      apply Array.ext'
      have e1 : ((arr x).cells.zipIdx.foldl (fun cs (x : Value × Nat) => cs.setIfInBounds (0 + x.2) x.1) cs).toList = spliceS cs.toList (0 + 0) (arr x).cells.toList := by
        rw [← hfold]
        congr 1
        rw [← Array.foldl_toList]
        congr 1
        simp
      rw [e1, arr_cells]
      unfold spliceS
      rw [List.drop_of_length_le (by simp; omega)]
      simp
    unfold Instr.fill
    simp only [Nat.zero_mul]
    rw [if_neg (by simp; omega)]
    unfold Instr.fill
    exact congrArg some e
  simp only [Instr.buildSlice, Sem.run_bind, run_underlying hs, Result.andThen_ok, run_sizeOf hi, hn, Nat.one_mul]
  simp [h1, h2, run_zeroValue hi hz, hfill, newRow]
end
end Go.Proofs.YtcoagfnkcbfbaaaGreatDoor
