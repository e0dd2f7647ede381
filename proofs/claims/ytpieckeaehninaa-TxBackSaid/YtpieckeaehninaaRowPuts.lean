/-
  The statement TxPutsSaid: whatever transaction comes in, the function returns true and the transaction reads as it did.
-/
import Derived.Test.YtpieckeaehninaaLaw
import Derived.Test.YtpieckeaehninaaRowTakes
namespace Go.Proofs.Ytpieckeaehninaa
open Go.ChangeShapes Go.WideShapes Go.ChangeAt Go.RowKit
set_option linter.unusedVariables false

section
variable {H : Type} {enc : TypeId × Value → H}
theorem open_u8 {W : World} {n : Nat} {cs : List Value} {x : DataW H × List MemPlace} (h : DataW.trod enc Try.prog W 0 (fun _ => true) true n 5 cs = some x) : ∃ z, cs = [.int .u8 z] ∧ 0 ≤ z ∧ z ≤ 255 := by
  obtain ⟨z, rfl, _, hw⟩ := DataW.trod_int Try.underlying5 h
  have := hw
  simp [Lit.wf, IntKind.min, IntKind.max, IntKind.signed, IntKind.bits] at this
  exact ⟨z, rfl, this⟩
theorem open_u64 {W : World} {n : Nat} {cs : List Value} {x : DataW H × List MemPlace} (h : DataW.trod enc Try.prog W 0 (fun _ => true) true n 24 cs = some x) : ∃ z, cs = [.int .u64 z] ∧ 0 ≤ z ∧ z ≤ 18446744073709551615 := by
  obtain ⟨z, rfl, _, hw⟩ := DataW.trod_int Try.underlying24 h
  have := hw
  simp [Lit.wf, IntKind.min, IntKind.max, IntKind.signed, IntKind.bits] at this
  exact ⟨z, rfl, this⟩
theorem open_eight {W : World} {n : Nat} {cs : List Value} {x : DataW H × List MemPlace} (h : DataW.trod enc Try.prog W 0 (fun _ => true) true n 23 cs = some x) :
    ∃ z0 z1 z2 z3 z4 z5 z6 z7, cs = [.int .u8 z0, .int .u8 z1, .int .u8 z2, .int .u8 z3, .int .u8 z4, .int .u8 z5, .int .u8 z6, .int .u8 z7] ∧
      (0 ≤ z0 ∧ z0 ≤ 255) ∧ (0 ≤ z1 ∧ z1 ≤ 255) ∧ (0 ≤ z2 ∧ z2 ≤ 255) ∧ (0 ≤ z3 ∧ z3 ≤ 255) ∧ (0 ≤ z4 ∧ z4 ≤ 255) ∧ (0 ≤ z5 ∧ z5 ≤ 255) ∧ (0 ≤ z6 ∧ z6 ≤ 255) ∧ (0 ≤ z7 ∧ z7 ≤ 255) := by
  obtain ⟨xs, m, _, _, hlen, hn, hg⟩ := DataW.trod_array Try.underlying23 h
  have h8 : cs.length = 8 := hlen.trans (by kernel_rfl)
  have h1 : Try.prog.cellsOf 5 = 1 := by kernel_rfl
  rw [h1] at hg
  match cs, h8, xs, hn with
  | [c0, c1, c2, c3, c4, c5, c6, c7], _, [x0, x1, x2, x3, x4, x5, x6, x7], _ =>
    obtain ⟨z0, e0, b0⟩ := open_u8 (x := x0) (hg 0 (by omega))
    obtain ⟨z1, e1, b1⟩ := open_u8 (x := x1) (hg 1 (by omega))
    obtain ⟨z2, e2, b2⟩ := open_u8 (x := x2) (hg 2 (by omega))
    obtain ⟨z3, e3, b3⟩ := open_u8 (x := x3) (hg 3 (by omega))
    obtain ⟨z4, e4, b4⟩ := open_u8 (x := x4) (hg 4 (by omega))
    obtain ⟨z5, e5, b5⟩ := open_u8 (x := x5) (hg 5 (by omega))
    obtain ⟨z6, e6, b6⟩ := open_u8 (x := x6) (hg 6 (by omega))
    obtain ⟨z7, e7, b7⟩ := open_u8 (x := x7) (hg 7 (by omega))
    simp at e0 e1 e2 e3 e4 e5 e6 e7
    subst e0 e1 e2 e3 e4 e5 e6 e7
    exact ⟨z0, z1, z2, z3, z4, z5, z6, z7, rfl, b0, b1, b2, b3, b4, b5, b6, b7⟩

/-- a transaction that came in -/
theorem open_tx {W : World} {v : Value} {r : Reach} {b0 : Nat} {d : DataW H} {p : List MemPlace} (hv : Value.okWide Try.prog W r b0 27 v) (h0 : DataW.Trod enc Try.prog W 0 (fun _ => true) true 27 v d p) :
    ∃ (t : Txn) (bs : List Int), v = .agg t.cells ∧ t.Wf ∧ Okb bs ∧ Reads W W.heap.size 1 t.a t.len (u8s bs) := by
  obtain ⟨cs, rfl, hsz⟩ := okWide_struct Try.underlying27 hv
  obtain ⟨l⟩ := cs
  obtain ⟨fuel, hf⟩ := h0
  obtain ⟨xs, n, _, hx, hl, hlen, hg⟩ := DataW.trod_struct Try.underlying27 hf
  have hsz' : l.length = 22 := by simpa [Value.cells] using hl.trans (show Try.prog.cellsOf 27 = 22 by kernel_rfl)
  have hxs : xs.length = 8 := hlen
  have h1 : Try.prog.cellsOf 5 = 1 := by kernel_rfl
  have h2 : Try.prog.cellsOf 23 = 8 := by kernel_rfl
  have h3 : Try.prog.cellsOf 24 = 1 := by kernel_rfl
  have h4 : Try.prog.cellsOf 25 = 1 := by kernel_rfl
  match l, hsz', xs, hxs with
  | [c0, c1, c2, c3, c4, c5, c6, c7, c8, c9, c10, c11, c12, c13, c14, c15, c16, c17, c18, c19, c20, c21], _, [x0, x1, x2, x3, x4, x5, x6, x7], _ =>
    have g0 : DataW.trod enc Try.prog W 0 (fun _ => true) true n 5 (([c0, c1, c2, c3, c4, c5, c6, c7, c8, c9, c10, c11, c12, c13, c14, c15, c16, c17, c18, c19, c20, c21].drop 0).take (Try.prog.cellsOf 5)) = some x0 := hg 0 { name := "Kind", type := 5, offset := 0, embedded := false, tag := "", pkgPath := "", byteOffset := 0 } rfl
    have g1 : DataW.trod enc Try.prog W 0 (fun _ => true) true n 23 (([c0, c1, c2, c3, c4, c5, c6, c7, c8, c9, c10, c11, c12, c13, c14, c15, c16, c17, c18, c19, c20, c21].drop 1).take (Try.prog.cellsOf 23)) = some x1 := hg 1 { name := "From", type := 23, offset := 1, embedded := false, tag := "", pkgPath := "", byteOffset := 1 } rfl
    have g2 : DataW.trod enc Try.prog W 0 (fun _ => true) true n 23 (([c0, c1, c2, c3, c4, c5, c6, c7, c8, c9, c10, c11, c12, c13, c14, c15, c16, c17, c18, c19, c20, c21].drop 9).take (Try.prog.cellsOf 23)) = some x2 := hg 2 { name := "To", type := 23, offset := 9, embedded := false, tag := "", pkgPath := "", byteOffset := 9 } rfl
    have g3 : DataW.trod enc Try.prog W 0 (fun _ => true) true n 24 (([c0, c1, c2, c3, c4, c5, c6, c7, c8, c9, c10, c11, c12, c13, c14, c15, c16, c17, c18, c19, c20, c21].drop 17).take (Try.prog.cellsOf 24)) = some x3 := hg 3 { name := "Nonce", type := 24, offset := 17, embedded := false, tag := "", pkgPath := "", byteOffset := 24 } rfl
    have g4 : DataW.trod enc Try.prog W 0 (fun _ => true) true n 24 (([c0, c1, c2, c3, c4, c5, c6, c7, c8, c9, c10, c11, c12, c13, c14, c15, c16, c17, c18, c19, c20, c21].drop 18).take (Try.prog.cellsOf 24)) = some x4 := hg 4 { name := "Value", type := 24, offset := 18, embedded := false, tag := "", pkgPath := "", byteOffset := 32 } rfl
    have g5 : DataW.trod enc Try.prog W 0 (fun _ => true) true n 24 (([c0, c1, c2, c3, c4, c5, c6, c7, c8, c9, c10, c11, c12, c13, c14, c15, c16, c17, c18, c19, c20, c21].drop 19).take (Try.prog.cellsOf 24)) = some x5 := hg 5 { name := "Gas", type := 24, offset := 19, embedded := false, tag := "", pkgPath := "", byteOffset := 40 } rfl
    have g6 : DataW.trod enc Try.prog W 0 (fun _ => true) true n 24 (([c0, c1, c2, c3, c4, c5, c6, c7, c8, c9, c10, c11, c12, c13, c14, c15, c16, c17, c18, c19, c20, c21].drop 20).take (Try.prog.cellsOf 24)) = some x6 := hg 6 { name := "Price", type := 24, offset := 20, embedded := false, tag := "", pkgPath := "", byteOffset := 48 } rfl
    have g7 : DataW.trod enc Try.prog W 0 (fun _ => true) true n 25 (([c0, c1, c2, c3, c4, c5, c6, c7, c8, c9, c10, c11, c12, c13, c14, c15, c16, c17, c18, c19, c20, c21].drop 21).take (Try.prog.cellsOf 25)) = some x7 := hg 7 { name := "Data", type := 25, offset := 21, embedded := false, tag := "", pkgPath := "", byteOffset := 56 } rfl
    rw [h1] at g0
    rw [h2] at g1 g2
    rw [h3] at g3 g4 g5 g6
    rw [h4] at g7
    obtain ⟨k, e0, b0⟩ := open_u8 g0
    obtain ⟨f0, f1, f2, f3, f4, f5, f6, f7, e1, p0, p1, p2, p3, p4, p5, p6, p7⟩ := open_eight g1
    obtain ⟨t0, t1, t2, t3, t4, t5, t6, t7, e2, q0, q1, q2, q3, q4, q5, q6, q7⟩ := open_eight g2
    obtain ⟨nn, e3, b3⟩ := open_u64 g3
    obtain ⟨vv, e4, b4⟩ := open_u64 g4
    obtain ⟨gg, e5, b5⟩ := open_u64 g5
    obtain ⟨pp, e6, b6⟩ := open_u64 g6
    obtain ⟨a, len, cap, bs, e7, _, _, hok, hr⟩ := open_bytes_of g7
    simp at e0 e1 e2 e3 e4 e5 e6 e7
    obtain ⟨rfl, rfl, rfl, rfl, rfl, rfl, rfl, rfl⟩ := e1
    obtain ⟨rfl, rfl, rfl, rfl, rfl, rfl, rfl, rfl⟩ := e2
    subst e0 e3 e4 e5 e6 e7
    exact ⟨{ k := k, f0 := f0, f1 := f1, f2 := f2, f3 := f3, f4 := f4, f5 := f5, f6 := f6, f7 := f7, t0 := t0, t1 := t1, t2 := t2, t3 := t3, t4 := t4, t5 := t5, t6 := t6, t7 := t7, n := nn, v := vv, g := gg, p := pp, a := a, len := len, cap := cap }, bs, rfl,
      ⟨b0.1, b0.2, p0.1, p0.2, p1.1, p1.2, p2.1, p2.2, p3.1, p3.2, p4.1, p4.2, p5.1, p5.2, p6.1, p6.2, p7.1, p7.2, q0.1, q0.2, q1.1, q1.2, q2.1, q2.2, q3.1, q3.2, q4.1, q4.2, q5.1, q5.2, q6.1, q6.2, q7.1, q7.2, b3.1, b3.2, b4.1, b4.2, b5.1, b5.2, b6.1, b6.2⟩, hok, hr⟩
end

set_option maxRecDepth 100000 in
theorem puts_lifted (os : Os) (started : os.Started) (H : Type) (enc : TypeId × Value → H) :
    ReturnsInHanded {} Try.checked os 3 .any (Rows.txPutsSpec.pre6 enc Try.prog Try.f3 Rows.txPutsRow.domain false) (Rows.txPutsSpec.post enc Try.prog Try.f3 false true false false) := by
  refine returnsInHanded_of_change (C := Try.checked) own started (by kernel_rfl) Try.func3
    (ChangeSpec.witness6 (enc := enc) (C := Try.checked) false ⟨#[], #[.agg Txn.zero.cells], []⟩ 8 (by kernel_rfl) (by kernel_rfl) (by kernel_rfl) (by kernel_rfl)) ?_
  intro W base args ds gs before hval0 hW hcnd _
  have hval : ∀ (j : Nat) t v, Try.f3.params[j]? = some t → args[j]? = some v → Value.okWide Try.prog W .any base t v := hval0
  have hW' := hW
  obtain ⟨p, q, hA0, hV, rfl, hfz, hnd⟩ := hW
  have hA : DataW.TrodAll enc Try.prog W 0 (fun _ => true) true Try.f3.params.toList args.toList ds p := hA0
  rw [Try.params3] at hA hval
  obtain ⟨v0, vs0, d0, ds0, p0, q0, hargs, rfl, rfl, h0, r0⟩ := trodAll_cons hA
  obtain ⟨rfl, rfl, rfl⟩ := trodAll_nil r0
  obtain rfl : args = #[v0] := by cases args; simp_all
  obtain ⟨rfl, rfl⟩ := trodVars_none hV
  have lt0 : ∀ x ∈ p0, x.block < W.heap.size := by obtain ⟨m, hm⟩ := h0; exact DataW.trod_lt m _ _ _ hm
  obtain ⟨t, bs, rfl, hwf, hok, hr⟩ := open_tx (hval 0 27 v0 rfl rfl) h0
  clear hA0 hval0
  refine (txPuts_any t bs W hwf hr).mono fun e W' ⟨he, bel⟩ => ?_
  subst he
  exact ⟨_, rfl, _, _, _, [], _, [], hW', trodAll_mk1 (shut_bool Try.underlying4 _), (trodAll_cons_mk (Below.trod laidOut (by kernel_rfl) (of_decide_eq_true (by kernel_rfl)) h0 bel lt0) trodAll_mk0), rfl, bel.frame _, fun h => by cases h⟩

theorem puts_over : Rows.txPutsRow.holds Try.pinned (OpenSpec.ofChange Rows.txPutsSpec) :=
  OpenClaim.holds_of_wide 3 Try.f3 rfl rfl rfl rfl rfl rfl rfl ⟨rfl, rfl, rfl, rfl, rfl⟩ rfl rfl rfl rfl rfl (by kernel_rfl) Try.func3 (by kernel_rfl)
    (of_decide_eq_true (by kernel_rfl)) (by unfold Func.isWrapper; first | (rw [if_pos (by decide +kernel)]; kernel_rfl) | (rw [if_neg (by decide +kernel)]; exact ⟨rfl, rfl⟩))
    (fun os started H enc _ => puts_lifted os started H enc)

theorem txPuts_proved : Rows.TxPutsSaid := puts_over
#print axioms txPuts_proved
end Go.Proofs.Ytpieckeaehninaa
