/-
  The runner, seventh part: operations one behind the other, and those whose order is open.
-/
import Derived.Test.YtcoagfnkcbfbaaaGreatDoorSx6
namespace Go.Proofs.YtcoagfnkcbfbaaaGreatDoor
open Go.RowKit

def putS (τ : List SV) (dst : Option Tmp) (v : SV) : List SV :=
  match dst with
  | some d => τ.set d v
  | none => τ
theorem putS_rel {E : Env} {τ : List SV} {a : Act} {dst : Option Tmp} {v : SV} {V : Value} (h : RelL E τ a.tmps.toList) (hv : Rel E v V) : RelL E (putS τ dst v) (a.put dst V).tmps.toList := by
  cases dst with
  | none => exact h
  | some d =>
    simp only [putS, Act.put, Array.toList_setIfInBounds]
    exact h.set d hv
theorem put_defers (a : Act) (dst : Option Tmp) (V : Value) : (a.put dst V).defers = a.defers := by cases dst <;> rfl
theorem length_putS (τ : List SV) (dst : Option Tmp) (v : SV) : (putS τ dst v).length = τ.length := by cases dst <;> simp [putS]

/-- the same, the way to the slot taken as it is built -/
def setLK {β : Type} : List SV → Nat → SV → (List SV → β) → β
  | [], _, _, k => k []
  | _ :: l, 0, v, k => k (v :: l)
  | x :: l, d + 1, v, k => setLK l d v (fun l => k (x :: l))
theorem setLK_eq {β : Type} : ∀ (l : List SV) (d : Nat) (v : SV) (k : List SV → β), setLK l d v k = k (l.set d v)
  | [], d, v, k => rfl
  | x :: l, 0, v, k => rfl
  | x :: l, d + 1, v, k => by
    unfold setLK
    rw [setLK_eq l d v]
    rfl
def putK {β : Type} (τ : List SV) (dst : Option Tmp) (v : SV) (k : List SV → β) : β :=
  match dst with
  | some d => setLK τ d v k
  | none => k τ
theorem putK_eq {β : Type} (τ : List SV) (dst : Option Tmp) (v : SV) (k : List SV → β) : putK τ dst v k = k (putS τ dst v) := by
  cases dst with
  | none => rfl
  | some d => exact setLK_eq τ d v k

/-- which slot tells whether an operation is wanted -/
def guardSlot (all : List Oper) (o : Oper) : Option Nat :=
  match o.guard with
  | none => none
  | some (j, _) => (all[j]?).bind (·.dst)
def wantedS (all : List Oper) (o : Oper) (τ : List SV) : Bool :=
  match o.guard with
  | none => true
  | some (_, w) => match guardSlot all o with
    | some d => match τ[d]? with
      | some (.bool b) => b == w
      | _ => false
    | none => false
theorem wantedS_eq {E : Env} {ops : Array Oper} {o : Oper} {τ : List SV} {a : Act} (hT : RelL E τ a.tmps.toList) : Region.wanted o (yielded ops a.tmps) = wantedS ops.toList o τ := by
  unfold Region.wanted wantedS guardSlot
  cases hg : o.guard with
  | none => rfl
  | some gw =>
    obtain ⟨j, want⟩ := gw
    dsimp only
    unfold yielded
    rw [Array.getElem?_toList]
    cases hd : (ops[j]?).bind (·.dst) with
    | none => simp
    | some d =>
      simp only [Option.bind_some]
      rw [← Array.getElem?_toList]
      cases hq : τ[d]? with
      | none =>
        have : a.tmps.toList[d]? = none := by
          have := hT.length
          rw [List.getElem?_eq_none_iff] at hq ⊢
          omega
        rw [this]; rfl
      | some v =>
        obtain ⟨V, h1, h2⟩ := hT.get d v hq
        rw [h1]
        cases h2 <;> simp

/-- one behind the other -/
def stepOps (op : Oper → List SV → M SV) (all : List Oper) : List Oper → List SV → M (List SV)
  | [], τ => .ret τ
  | o :: r, τ => if wantedS all o τ then (op o τ).bind fun v => putK τ o.dst v (stepOps op all r) else putK τ o.dst uns (stepOps op all r)

/-- what an operation must come to -/
def OpOk (P : Program) (base : Nat) (w0 : World) (op : Oper → List SV → M SV) : Prop :=
  ∀ (o : Oper) (τ : List SV) (a : Act) (E : Env) (h : Tr) (w : World) (n : Nat) (v : SV) (n' : Nat) (h' : Tr) (F : Ft), (op o τ).run n h = some (v, n', h', F) → RelL E τ a.tmps.toList → Inv base w0 E h w → Free E n n' →
    ∀ (K : Act → World → Prop) (Q : Exit → Act → World → Prop), (∀ E' w' V, Rel E' v V → Inv base w0 E' h' w' → Grew E E' n n' → K (a.put o.dst V) w') → o.wp P a w K Q

theorem wpOps_step {P : Program} {ops : Array Oper} {Q : Exit → Act → World → Prop} {i : Nat} {rest : List Nat} {a : Act} {w : World} {o : Oper} (ho : ops[i]? = some o) :
    (if Region.wanted o (yielded ops a.tmps) = true then o.wp P a w (wpOps P ops Q rest) Q else wpOps P ops Q rest (a.put o.dst undef) w) → wpOps P ops Q (i :: rest) a w := by
  intro h
  simp only [wpOps, ho]
  split at h
  · rename_i hw; simp only [hw, if_true]; exact .inl h
  · rename_i hw; simp only [hw, if_false, Bool.false_eq_true]; exact h

theorem stepOps_ok {P : Program} {base : Nat} {w0 : World} {op : Oper → List SV → M SV} (hop : OpOk P base w0 op) {ops : Array Oper} {Q : Exit → Act → World → Prop} :
    ∀ (l : List Oper) (k : Nat), (∀ j, l[j]? = ops[k + j]?) → ∀ (τ : List SV) (a : Act) (E : Env) (h : Tr) (w : World) (n : Nat) (τ' : List SV) (n' : Nat) (h' : Tr) (F : Ft),
      (stepOps op ops.toList l τ).run n h = some (τ', n', h', F) → RelL E τ a.tmps.toList → Inv base w0 E h w → Free E n n' →
      (∀ E' a' w', RelL E' τ' a'.tmps.toList → a'.defers = a.defers → Inv base w0 E' h' w' → Grew E E' n n' → Q .normal a' w') →
      n ≤ n' ∧ wpOps P ops Q (List.range' k l.length) a w
  | [], k, hk, τ, a, E, h, w, n, τ', n', h', F, hr, hT, I, hf, q => by
    obtain ⟨rfl, rfl, rfl⟩ := M.ret_some hr
    exact ⟨Nat.le_refl _, q E a w hT rfl I (Grew.refl _ _)⟩
  | o :: l, k, hk, τ, a, E, h, w, n, τ', n', h', F, hr, hT, I, hf, q => by
    have ho : ops[k]? = some o := by have := hk 0; simpa using this.symm
    have hk' : ∀ j, l[j]? = ops[k + 1 + j]? := fun j => by have := hk (j + 1); simpa [Nat.add_assoc, Nat.add_comm 1 j] using this
    rw [List.length_cons, List.range'_succ]
    unfold stepOps at hr
    simp only [putK_eq] at hr
    by_cases hw : wantedS ops.toList o τ = true
    · rw [if_pos hw] at hr
      obtain ⟨v, n1, h1, F1, F2, e1, e2, -⟩ := M.bind_some hr
      have hle1 := ((op o τ).ok _ _ _ _ _ _ e1).1
      have hle2 := ((stepOps op ops.toList l (putS τ o.dst v)).ok _ _ _ _ _ _ e2).1
      refine ⟨by omega, wpOps_step ho ?_⟩
      rw [if_pos (by rw [wantedS_eq hT]; exact hw)]
      refine hop o τ a E h w n v n1 h1 F1 e1 hT I (hf.less hle2) _ _ fun E' w' V hV I' G => ?_
      exact (stepOps_ok hop l (k + 1) hk' (putS τ o.dst v) (a.put o.dst V) E' h1 w' n1 τ' n' h' F2 e2 (putS_rel (hT.mono G.1) hV) I' (hf.next G hle1)
        (fun E'' a'' w'' q1 q2 q3 q4 => q E'' a'' w'' q1 (by rw [q2, put_defers]) q3 (G.trans q4 hle1 hle2))).2
    · have hw' : wantedS ops.toList o τ = false := by simpa using hw
      rw [if_neg hw] at hr
      have := stepOps_ok (Q := Q) hop l (k + 1) hk' (putS τ o.dst uns) (a.put o.dst undef) E h w n τ' n' h' F hr (putS_rel hT (rel_uns E)) I hf
        (fun E'' a'' w'' q1 q2 q3 q4 => q E'' a'' w'' q1 (by rw [q2, put_defers]) q3 q4)
      refine ⟨this.1, wpOps_step ho ?_⟩
      rw [if_neg (by rw [wantedS_eq hT, hw']; simp)]
      exact this.2

/-! ### an order that is open -/

structure Rc where
  n : Nat
  n' : Nat
  F : Ft

def opStep (op : Oper → List SV → M SV) (all : List Oper) (o : Oper) (τ : List SV) : Step (SV × Rc) := fun n h =>
  if wantedS all o τ then
    match (op o τ).run n h with
    | none => none
    | some (v, n1, h1, F1) => some ((v, ⟨n, n1, F1⟩), n1, h1, F1)
  else some ((uns, ⟨n, n, .z⟩), n, h, .z)
theorem framed_ret {α : Type} (a : α) : Framed (fun n h => some (a, n, h, Ft.z)) := (M.ret a).ok
theorem opStep_some {op : Oper → List SV → M SV} {all : List Oper} {o : Oper} {τ : List SV} {n : Nat} {h : Tr} {v : SV} {rc : Rc} {n' : Nat} {h' : Tr} {F : Ft} (e : opStep op all o τ n h = some ((v, rc), n', h', F)) :
    rc = ⟨n, n', F⟩ ∧ (if wantedS all o τ then (op o τ).run n h = some (v, n', h', F) else v = uns ∧ n' = n ∧ h' = h ∧ F = .z) := by
  unfold opStep at e
  by_cases hw : wantedS all o τ = true
  · rw [if_pos hw] at e ⊢
    split at e
    · cases e
    · rename_i v1 n1 h1 F1 hr
      simp only [Option.some.injEq, Prod.mk.injEq] at e
      obtain ⟨⟨rfl, rfl⟩, rfl, rfl, rfl⟩ := e
      exact ⟨rfl, hr⟩
  · rw [if_neg hw] at e ⊢
    simp only [Option.some.injEq, Prod.mk.injEq] at e
    obtain ⟨⟨rfl, rfl⟩, rfl, rfl, rfl⟩ := e
    exact ⟨rfl, rfl, rfl, rfl, rfl⟩
theorem opStep_framed (op : Oper → List SV → M SV) (all : List Oper) (o : Oper) (τ : List SV) : Framed (opStep op all o τ) := by
  by_cases hw : wantedS all o τ = true
  · intro n h x n' h' F e
    obtain ⟨v, rc⟩ := x
    obtain ⟨rfl, e1⟩ := opStep_some e
    rw [if_pos hw] at e1
    obtain ⟨g1, g2, g3, g4⟩ := (op o τ).ok _ _ _ _ _ _ e1
    refine ⟨g1, g2, g3, fun g hg => ?_⟩
    obtain ⟨g', r1, r2, r3⟩ := g4 g hg
    refine ⟨g', ?_, r2, r3⟩
    unfold opStep
    rw [if_pos hw, r1]
  · intro n h x n' h' F e
    unfold opStep at e
    rw [if_neg hw] at e
    obtain ⟨g1, g2, g3, g4⟩ := framed_ret (uns, (⟨n, n, .z⟩ : Rc)) n h x n' h' F e
    refine ⟨g1, g2, g3, fun g hg => ?_⟩
    obtain ⟨g', r1, r2, r3⟩ := g4 g hg
    refine ⟨g', ?_, r2, r3⟩
    unfold opStep
    rw [if_neg hw]
    exact r1

def parRun (op : Oper → List SV → M SV) (all : List Oper) : List Oper → List SV → Step (List SV × List Rc)
  | [], τ => fun n h => some ((τ, []), n, h, .z)
  | o :: r, τ => M.bindRun (opStep op all o τ) fun x => M.bindRun (putK τ o.dst x.1 (parRun op all r)) fun y => fun n h => some ((y.1, x.2 :: y.2), n, h, .z)
theorem parRun_framed (op : Oper → List SV → M SV) (all : List Oper) : ∀ (l : List Oper) (τ : List SV), Framed (parRun op all l τ)
  | [], τ => framed_ret _
  | o :: r, τ => M.framed_bind (opStep_framed op all o τ) fun x => M.framed_bind (by rw [putK_eq]; exact parRun_framed op all r _) fun y => framed_ret _

/-- the slots that an operation looks at -/
def usesS (all : List Oper) (o : Oper) : List Nat := (o.op.operands.toList.filterMap fun | .tmp t => some t | _ => none) ++ (guardSlot all o).toList
def evR (us : List Nat) (τ : List SV) : Operand → Option SV
  | .tmp t => if us.contains t then some (τ.getD t uns) else none
  | .const v => ofV 4 v
  | .global _ => none
  | .func f => some (.fn (.func f) [] [])
theorem evR_le {us : List Nat} {τ : List SV} {x : Operand} {v : SV} (h : evR us τ x = some v) : evS τ x = some v := by
  cases x with
  | tmp t =>
    simp only [evR] at h
    split at h
    · exact h
    · cases h
  | _ => exact h
theorem evR_congr {us : List Nat} {τ τ' : List SV} (h : ∀ t ∈ us, τ[t]? = τ'[t]?) : evR us τ = evR us τ' := by
  funext x
  cases x with
  | tmp t =>
    simp only [evR]
    by_cases ht : us.contains t = true
    · rw [if_pos ht, if_pos ht]
      have := h t (by simpa using ht)
      rw [List.getD_eq_getElem?_getD, List.getD_eq_getElem?_getD, this]
    · rw [if_neg ht, if_neg ht]
  | _ => rfl
theorem wantedS_congr {all : List Oper} {o : Oper} {τ τ' : List SV} (h : ∀ t ∈ usesS all o, τ[t]? = τ'[t]?) : wantedS all o τ = wantedS all o τ' := by
  unfold wantedS
  cases o.guard with
  | none => rfl
  | some gw =>
    dsimp only
    cases hg : guardSlot all o with
    | none => rfl
    | some d =>
      dsimp only
      rw [h d (by simp [usesS, hg])]

def Ft.rs : Ft → List Nat
  | .z => []
  | .r b => [b]
  | .w _ => []
  | .n2 p q => p.rs ++ q.rs
def Ft.ws : Ft → List Nat
  | .z => []
  | .r _ => []
  | .w b => [b]
  | .n2 p q => p.ws ++ q.ws
theorem Ft.mem_rs : ∀ {F : Ft} {b : Nat}, F.rd b = true → b ∈ F.rs
  | .z, b, h => by simp [Ft.rd] at h
  | .r c, b, h => by simp [Ft.rd] at h; simp [Ft.rs, h]
  | .w c, b, h => by simp [Ft.rd] at h
  | .n2 p q, b, h => by
    simp only [Ft.rd, Bool.or_eq_true] at h
    simp only [Ft.rs, List.mem_append]
    exact h.imp Ft.mem_rs Ft.mem_rs
theorem Ft.mem_ws : ∀ {F : Ft} {b : Nat}, F.wr b = true → b ∈ F.ws
  | .z, b, h => by simp [Ft.wr] at h
  | .r c, b, h => by simp [Ft.wr] at h
  | .w c, b, h => by simp [Ft.wr] at h; simp [Ft.ws, h]
  | .n2 p q, b, h => by
    simp only [Ft.wr, Bool.or_eq_true] at h
    simp only [Ft.ws, List.mem_append]
    exact h.imp Ft.mem_ws Ft.mem_ws

/-- two operations have nothing to do with each other; the first one's text stands ahead -/
def indepB (all : List Oper) (ox : Oper) (rx : Rc) (oy : Oper) (ry : Rc) : Bool :=
  (match ox.dst with
    | none => true
    | some d => !(usesS all oy).contains d && oy.dst != some d) &&
  (match oy.dst with
    | none => true
    | some d => !(usesS all ox).contains d) &&
  rx.F.ws.all (fun b => !ry.F.rd b && !ry.F.wr b) &&
  ry.F.ws.all (fun b => !rx.F.rd b && !rx.F.wr b) &&
  ry.F.rs.all (fun b => decide (b < rx.n) || decide (rx.n' ≤ b)) &&
  ry.F.ws.all (fun b => decide (b < rx.n) || decide (rx.n' ≤ b))

def maskE (acc : List Nat) (j : Nat) : List Edge → Option Nat
  | [] => some 0
  | e :: es => match maskE acc j es with
    | none => none
    | some s => if Region.binds .any e then (if e.on < j then some (s ||| 2 ^ e.on ||| acc.getD e.on 0) else none) else some s
def masks : List Oper → List Nat → Option (List Nat)
  | [], acc => some acc
  | o :: r, acc => match maskE acc acc.length o.after.toList with
    | none => none
    | some m => masks r (acc ++ [m])

/-- an edge, and a way of edges -/
def Edg (ops : List Oper) (i j : Nat) : Prop := ∃ o e, ops[j]? = some o ∧ e ∈ o.after.toList ∧ Region.binds .any e = true ∧ e.on = i
inductive Way (ops : List Oper) : Nat → Nat → Prop
  | one {i j : Nat} : Edg ops i j → Way ops i j
  | more {i k j : Nat} : Way ops i k → Edg ops k j → Way ops i j

theorem maskE_ok {acc : List Nat} {j : Nat} : ∀ {es : List Edge} {m : Nat}, maskE acc j es = some m →
    (∀ e ∈ es, Region.binds .any e = true → e.on < j) ∧ ∀ i, m.testBit i = true → ∃ e ∈ es, Region.binds .any e = true ∧ (e.on = i ∨ (acc.getD e.on 0).testBit i = true)
  | [], m, h => by
    simp only [maskE, Option.some.injEq] at h
    subst h
    exact ⟨fun e he => absurd he (by simp), fun i hi => absurd hi (by simp)⟩
  | e :: es, m, h => by
    unfold maskE at h
    cases hs : maskE acc j es with
    | none => simp [hs] at h
    | some s =>
      obtain ⟨g1, g2⟩ := maskE_ok hs
      simp only [hs] at h
      by_cases hb : Region.binds .any e = true
      · rw [if_pos hb] at h
        by_cases hlt : e.on < j
        · rw [if_pos hlt] at h
          simp only [Option.some.injEq] at h
          subst h
          refine ⟨fun e' he' hb' => ?_, fun i hi => ?_⟩
          · rcases List.mem_cons.1 he' with rfl | he'
            · exact hlt
            · exact g1 e' he' hb'
          · simp only [Nat.testBit_or, Bool.or_eq_true, Nat.testBit_two_pow, decide_eq_true_eq] at hi
            rcases hi with (hi | hi) | hi
            · obtain ⟨e', q1, q2⟩ := g2 i hi
              exact ⟨e', by simp [q1], q2⟩
            · exact ⟨e, by simp, hb, .inl hi⟩
            · exact ⟨e, by simp, hb, .inr hi⟩
        · rw [if_neg hlt] at h; cases h
      · rw [if_neg hb] at h
        simp only [Option.some.injEq] at h
        subst h
        refine ⟨fun e' he' hb' => ?_, fun i hi => ?_⟩
        · rcases List.mem_cons.1 he' with rfl | he'
          · exact absurd hb' hb
          · exact g1 e' he' hb'
        · obtain ⟨e', q1, q2⟩ := g2 i hi
          exact ⟨e', by simp [q1], q2⟩

structure MasksOk (ops : List Oper) (k : Nat) (acc : List Nat) : Prop where
  len : acc.length = k
  way : ∀ j m, acc[j]? = some m → ∀ i, m.testBit i = true → Way ops i j
  lt : ∀ j i, j < k → Edg ops i j → i < j
theorem masks_ok {ops : List Oper} : ∀ {r : List Oper} {acc l : List Nat}, MasksOk ops acc.length acc → (∀ j, r[j]? = ops[acc.length + j]?) → masks r acc = some l → MasksOk ops (acc.length + r.length) l
  | [], acc, l, hm, hk, h => by
    simp only [masks, Option.some.injEq] at h
    subst h
    simpa using hm
  | o :: r, acc, l, hm, hk, h => by
    unfold masks at h
    cases hq : maskE acc acc.length o.after.toList with
    | none => simp [hq] at h
    | some m =>
      simp only [hq] at h
      obtain ⟨g1, g2⟩ := maskE_ok hq
      have ho : ops[acc.length]? = some o := by have := hk 0; simpa using this.symm
      have hm' : MasksOk ops (acc ++ [m]).length (acc ++ [m]) := by
        refine ⟨rfl, fun j q hj i hi => ?_, fun j i hj he => ?_⟩
        · rw [List.getElem?_append] at hj
          split at hj
          · exact hm.way j q hj i hi
          · rename_i hge
            have hj0 : j - acc.length = 0 := by
              rcases Nat.eq_zero_or_pos (j - acc.length) with e | e
              · exact e
              · rw [List.getElem?_eq_none (by simp; omega)] at hj; cases hj
            have hj1 : j = acc.length := by omega
            subst hj1
            simp at hj
            subst hj
            obtain ⟨e, q1, q2, q3⟩ := g2 i hi
            rcases q3 with q3 | q3
            · exact .one ⟨o, e, ho, q1, q2, q3⟩
            · have hlt := g1 e q1 q2
              rw [List.getD_eq_getElem?_getD, List.getElem?_eq_getElem hlt, Option.getD_some] at q3
              exact .more (hm.way e.on _ (List.getElem?_eq_getElem hlt) i q3) ⟨o, e, ho, q1, q2, rfl⟩
        · simp at hj
          rcases Nat.lt_or_ge j acc.length with hlt | hge
          · exact hm.lt j i hlt he
          · have hj1 : j = acc.length := by omega
            subst hj1
            obtain ⟨o', e, q1, q2, q3, q4⟩ := he
            rw [ho] at q1
            cases q1
            rw [← q4]
            exact g1 e q2 q3
      have := masks_ok (r := r) (acc := acc ++ [m]) hm' (fun j => by have := hk (j + 1); simpa [Nat.add_assoc, Nat.add_comm 1 j] using this) h
      simpa [Nat.add_assoc, Nat.add_comm 1] using this

def chk (all : List Oper) : Nat → List (Oper × Rc × Nat) → Bool
  | _, [] => true
  | i, x :: r => r.all (fun y => y.2.2.testBit i || indepB all x.1 x.2.1 y.1 y.2.1) && chk all (i + 1) r
theorem chk_ok {all : List Oper} : ∀ {l : List (Oper × Rc × Nat)} {i0 : Nat}, chk all i0 l = true → ∀ (i j : Nat) (x y : Oper × Rc × Nat), l[i]? = some x → l[j]? = some y → i < j → y.2.2.testBit (i0 + i) = true ∨ indepB all x.1 x.2.1 y.1 y.2.1 = true
  | [], i0, h, i, j, x, y, hx, hy, hij => by simp at hx
  | z :: r, i0, h, i, j, x, y, hx, hy, hij => by
    simp only [chk, Bool.and_eq_true] at h
    cases j with
    | zero => omega
    | succ j =>
      simp only [List.getElem?_cons_succ] at hy
      cases i with
      | zero =>
        simp at hx
        subst hx
        have := List.all_eq_true.1 h.1 y (List.mem_of_getElem? hy)
        simpa using this
      | succ i =>
        simp only [List.getElem?_cons_succ] at hx
        have := chk_ok h.2 i j x y hx hy (by omega)
        rw [show i0 + 1 + i = i0 + (i + 1) by omega] at this
        exact this

def checkP (all : List Oper) (rs : List Rc) : Bool :=
  match masks all [] with
  | none => false
  | some ms => rs.length == all.length && chk all 0 (all.zip (rs.zip ms))

def parM (op : Oper → List SV → M SV) (all : List Oper) (τ : List SV) : M (List SV) :=
  M.bind ⟨parRun op all all τ, parRun_framed op all all τ⟩ fun y => .want (checkP all y.2) (.ret y.1)
end Go.Proofs.YtcoagfnkcbfbaaaGreatDoor
