/-
  All the keys of a store that is empty.
-/
import Derived.Test.YtcoagfnkcbfbaaaGreatDoorSx15
namespace Go.Proofs.YtcoagfnkcbfbaaaGreatDoor
open Go.RowKit

set_option maxHeartbeats 1000000 in
theorem keysFn71 (F : Fence) (n : Nat) (hF : F.fn 71) (hro : F.round = none) (mb : Option Nat) (w : World) :
    CallsIn F n Tryz.prog 71 #[.map mb] w fun e w' => e = .returned (.func (.func 104) #[] #[.pointer (some ⟨w.heap.size, 0, none⟩)]) ∧ w' = w.alloc (.cells #[.map mb] 117) := by
  refine callsIn_of_wp Tryz.func71 rfl hF ?_ hro
  simp only [Tryz.ntmps71, List.size_toArray, List.length_cons, List.length_nil, Nat.reduceAdd, Nat.reduceSub, Array.replicate_succ, Array.replicate_zero, List.push_toArray, List.append_toArray, List.nil_append, List.cons_append]
  gi_wp2
  go_ret
  exact ⟨rfl, rfl⟩

def kvAssign : Code := (Code.region 5 #[{ dst := some 4, op := Op.alloc 23, type := 0, pos := "kv.go:87", after := #[], guard := none }, { dst := none, op := Op.store 23 (Operand.tmp 4) (Operand.tmp 12), type := 0, pos := "kv.go:87", after := #[{ on := 0, ground := Ground.data }, { on := 0, ground := Ground.phase }], guard := none }] false)
def kvBody : Code := (Code.block 1 (Code.region 6 #[{ dst := some 13, op := Op.load 89 (Operand.tmp 3), type := 89, pos := "kv.go:88", after := #[], guard := none }, { dst := some 14, op := Op.load 23 (Operand.tmp 4), type := 23, pos := "kv.go:88", after := #[], guard := none }, { dst := some 15, op := Op.buildSlice 89 1 #[(0, (Operand.tmp 14))], type := 89, pos := "kv.go:88", after := #[{ on := 1, ground := Ground.data }], guard := none }, { dst := some 16, op := Op.call { callee := Callee.builtin Builtin.append, args := #[Operand.tmp 13, Operand.tmp 15], argTypes := #[89, 89] }, type := 89, pos := "kv.go:88", after := #[{ on := 0, ground := Ground.data }, { on := 2, ground := Ground.data }], guard := none }, { dst := none, op := Op.store 89 (Operand.tmp 3) (Operand.tmp 16), type := 0, pos := "kv.go:88", after := #[{ on := 3, ground := Ground.data }, { on := 3, ground := Ground.chain }, { on := 0, ground := Ground.phase }, { on := 1, ground := Ground.phase }, { on := 2, ground := Ground.phase }, { on := 3, ground := Ground.phase }], guard := none }] false))
def kvRec (fn : FuncId) (Sb b Bx Bm D : Nat) (st : LoopState) : Loop :=
  { state := st, pending := none, fn, tmps := #[.pointer (some ⟨Sb, 0, none⟩), undef, .slice none 0 0, .pointer (some ⟨Bx, 0, none⟩), undef, .pointer (some ⟨Sb, 0, none⟩), .bool false, .pointer (some ⟨Sb, 0, none⟩), .pointer (some ⟨Sb, 0, none⟩), .pointer (some ⟨Sb, 0, none⟩), .map (some b), .func (.func 104) #[] #[.pointer (some ⟨Bm, 0, none⟩)], undef, undef, undef, undef, undef, undef, undef, undef], params := #[12], assign := kvAssign, body := kvBody, defers := D }
structure KvAt (w0 : World) (R : Loop) (Bx l D : Nat) (ss : List (List Int)) (W : World) : Prop where
  box : W.heap[Bx]? = some (.cells #[.slice none 0 0] 89 (0, 0))
  L : W.heap[l]? = some (.loop R)
  K : W.heap[D]? = some (.deferred (some []))
  below : Below w0.heap.size w0 W
theorem kv_abides (w0 : World) (R : Loop) (Bx l D B : Nat) (hB : w0.heap.size ≤ B) : AbidesFrom B (KvAt w0 R Bx l D) := fun s W W' row h hg hrow => by
  have hrow' : ∀ r, row = some r → ∃ o : Obj, W.heap[r]? = some o ∧ o.isWalk = true := fun r e => (hrow r e).2
  exact ⟨(grownBy_keeps hg hrow' h.box rfl).trans h.box, (grownBy_keeps hg hrow' h.L rfl).trans h.L, (grownBy_keeps hg hrow' h.K rfl).trans h.K,
    h.below.grown hg h.below.size (fun k e => Nat.le_trans hB (hrow k e).1)⟩

set_option maxRecDepth 100000 in
set_option maxHeartbeats 2000000 in
theorem allNil (hsort : ∀ w : World, Calls Tryz.prog 37 #[.slice none 0 0, .func (.func 72) #[] #[]] w fun e w' => (∃ V, e = .returned V) ∧ Below w.heap.size w w') : AllNil Tryz.prog 35 := by
  intro w Sb b es clock hm hb hE
  refine (callsIn_wide (n := 2)).1 ?_
  refine callsIn_of_wp_marks Tryz.func35 rfl trivial ?_ rfl
  simp only [Tryz.ntmps35, List.size_toArray, List.length_cons, List.length_nil, Nat.reduceAdd, Nat.reduceSub, Array.replicate_succ, Array.replicate_zero, List.push_toArray, List.append_toArray, List.nil_append, List.cons_append]
  have hSb := block_of_cell hm
  have hbl : b < w.heap.size := (Array.getElem?_eq_some_iff.1 hb).1
  obtain ⟨W0, hW0⟩ : ∃ W0, w.alloc (.cells #[.slice none 0 0] 89) = W0 := ⟨_, rfl⟩
  have hm0 : W0.cell? ⟨Sb, 0, none⟩ = some (.map (some b)) := by rw [← hW0]; exact (((Below.refl _ w).alloc (Nat.le_refl _) _).cell (p := ⟨Sb, 0, none⟩) hSb).trans hm
  have hs0 : W0.heap.size = w.heap.size + 1 := by rw [← hW0]; simp
  have hv0 : W0.heap[w.heap.size]? = some (.cells #[.slice none 0 0] 89 (0, 0)) := by rw [← hW0]; exact World.alloc_heap_new w _
  have hb0 : Below w.heap.size w W0 := by rw [← hW0]; exact (Below.refl _ w).alloc (Nat.le_refl _) _
  have hbW0 : W0.heap[b]? = some (.map es clock) := (hb0.block b hbl).trans hb
  gi_wp2
  refine ⟨trivial, (keysFn71 Fence.wide _ trivial rfl _ _).mono ?_⟩
  obtain ⟨W1, hW1⟩ : ∃ W1, W0.alloc (.cells #[.map (some b)] 117) = W1 := ⟨_, rfl⟩
  have hs1 : W1.heap.size = W0.heap.size + 1 := by rw [← hW1]; simp
  have hm1 : W1.cell? ⟨W0.heap.size, 0, none⟩ = some (.map (some b)) := by rw [← hW1]; simp
  have hv1 : W1.heap[w.heap.size]? = some (.cells #[.slice none 0 0] 89 (0, 0)) := by rw [← hW1]; exact (Below.heap_alloc _ _ _ (by omega)).trans hv0
  have hb1 : Below w.heap.size w W1 := by rw [← hW1]; exact hb0.alloc hb0.size _
  have hbW1 : W1.heap[b]? = some (.map es clock) := (hb1.block b hbl).trans hb
  rintro e w1 ⟨rfl, rfl⟩
  rw [hW1]
  clear hW0
  gi_wp2
  refine wpIn_rangeFunc ?_
  intro fn hfn
  obtain ⟨W2, hW2⟩ : ∃ W2, (W1.alloc (.deferred (some []))).alloc (.loop (kvRec fn Sb b w.heap.size (w.heap.size + 1) W1.heap.size .ready)) = W2 := ⟨_, rfl⟩
  have hold : ∀ k, k < W1.heap.size → W2.heap[k]? = W1.heap[k]? := fun k hk => by
    rw [← hW2]; exact (Below.heap_alloc _ _ k (by simp; omega)).trans (Below.heap_alloc _ _ k hk)
  have hb2 : Below w.heap.size w W2 := by rw [← hW2]; exact (hb1.alloc hb1.size _).alloc (by have := hb1.size; simp; omega) _
  have hs2 : W2.heap.size = W1.heap.size + 2 := by rw [← hW2]; simp
  have hM : KvAt w (kvRec fn Sb b w.heap.size (w.heap.size + 1) W1.heap.size .ready) w.heap.size (W1.heap.size + 1) W1.heap.size [] W2 :=
    ⟨(hold w.heap.size (by omega)).trans hv1,
     by rw [← hW2]; have := World.alloc_heap_new (W1.alloc (.deferred (some []))) (.loop (kvRec fn Sb b w.heap.size (w.heap.size + 1) W1.heap.size .ready)); rwa [World.size_alloc] at this,
     by rw [← hW2]; exact (Below.heap_alloc _ _ _ (by simp)).trans (World.alloc_heap_new W1 _), hb2⟩
  have hm2 : W2.cell? ⟨W0.heap.size, 0, none⟩ = some (.map (some b)) := (World.cell?_of_block (w := W1) (hold W0.heap.size (by omega))).trans hm1
  have hbW2 : W2.heap[b]? = some (.map es clock) := (hold b (by omega)).trans hbW1
  refine ⟨W1.heap.size + 1, [{ target := .collected W1.heap.size, args := #[] }], W2, { target := .fn (.func 104) #[.pointer (some ⟨W0.heap.size, 0, none⟩)], args := #[.func (.yield (W1.heap.size + 1)) #[] #[]] }, W2, 104,
    #[.func (.yield (W1.heap.size + 1)) #[] #[]] ++ #[.pointer (some ⟨W0.heap.size, 0, none⟩)], W2, ?_, ?_, ?_, ?_, fun _ => by omega, ?_⟩
  · rw [← hW2]; exact run_enterLoop_outer _ _ _ _ _
  · simp [resolve, go_sem]
  · intro f' hf'; exact trivial
  · have eg : ∀ args w, (callFunc 104 args).run Tryz.prog w = .ok (.enter 104 args) w := fun args w => run_enter Tryz.func104 rfl (by decide) args w
    simp [invoke, go_sem, eg]
  · refine (keys104_gives Fence.wide 1 trivial rfl (Nat.le_refl _) W2 W0.heap.size b es clock [] hm2 hbW2 hE (W1.heap.size + 1) (KvAt w (kvRec fn Sb b w.heap.size (w.heap.size + 1) W1.heap.size .ready) w.heap.size (W1.heap.size + 1) W1.heap.size) W2 (Below.refl _ _) (kv_abides _ _ _ _ _ _ hb2.size)
      (fun pre x W hx8 hJ hl => absurd hl (by simp)) hM).mono ?_
    rintro e W3 ⟨⟨v0, rfl⟩, ss, hS, h3⟩
    have hend := run_endLoop (P := Tryz.prog) h3.L (by simp [kvRec])
    obtain ⟨W4, hW4⟩ : ∃ W4, W3.putObj (W1.heap.size + 1) (.loop { kvRec fn Sb b w.heap.size (w.heap.size + 1) W1.heap.size .ready with state := .exhausted }) = W4 := ⟨_, rfl⟩
    rw [hW4] at hend
    have hg4 : W3.grownBy W4 (some (W1.heap.size + 1)) := by rw [← hW4]; exact grown_putObj _ _ _
    have hv4 : W4.heap[w.heap.size]? = some (.cells #[.slice none 0 0] 89 (0, 0)) := by rw [← hW4]; exact (World.putObj_heap_other (by omega)).trans h3.box
    have hK4 : W4.heap[W1.heap.size]? = some (.deferred (some [])) := by rw [← hW4]; exact (World.putObj_heap_other (by omega)).trans h3.K
    have hb4 : Below w.heap.size w W4 := h3.below.grown hg4 h3.below.size (fun k e => by cases e; omega)
    obtain ⟨hc4, hf4⟩ := cell_box hv4
    clear hW4
    refine ⟨none, W4, hend, ?_⟩
    gi_wp2
    refine ⟨trivial, (callsIn_wide.2 (hsort W4)).mono ?_⟩
    rintro e W5 ⟨⟨V, rfl⟩, hb5⟩
    have hlt4 : w.heap.size < W4.heap.size := (Array.getElem?_eq_some_iff.1 hv4).1
    have hv5 : W5.heap[w.heap.size]? = some (.cells #[.slice none 0 0] 89 (0, 0)) := (hb5.block _ hlt4).trans hv4
    have hK5 : W5.heap[W1.heap.size]? = some (.deferred (some [])) := (hb5.block _ (Array.getElem?_eq_some_iff.1 hK4).1).trans hK4
    obtain ⟨hc5, hf5⟩ := cell_box hv5
    have hb6 : Below w.heap.size w W5 := hb4.trans (hb5.mono hb4.size)
    gi_wp2
    have e1 : w.heap.size + 1 + 1 = W1.heap.size := by omega
    rw [e1]
    refine ⟨by simp, .inl ⟨_, _, rfl, run_takeDeferred hK5, ?_⟩⟩
    exact ⟨_, results_tmp rfl _ _ _, rfl, hb6.grown (grown_putObj _ _ _) hb6.size (fun k e => by cases e; omega)⟩
end Go.Proofs.YtcoagfnkcbfbaaaGreatDoor
