/-
  The runner, eighth part: whatever order is drawn, it comes to what the text's order comes to.
-/
import Derived.Test.YtcoagfnkcbfbaaaGreatDoorSx7
namespace Go.Proofs.YtcoagfnkcbfbaaaGreatDoor
open Go.RowKit

structure Rk where
  n : Nat
  n' : Nat
  F : Ft
  v : SV
  h : Tr
  h' : Tr
  τ : List SV
def Rk.rc (k : Rk) : Rc := ⟨k.n, k.n', k.F⟩
def Rk.touch (k : Rk) (b : Nat) : Bool := k.F.wr b || (decide (k.n ≤ b) && decide (b < k.n'))

inductive Trace (op : Oper → List SV → M SV) (all : List Oper) : List Oper → List Rk → Nat → Tr → List SV → Nat → Tr → List SV → Prop
  | nil {n : Nat} {h : Tr} {τ : List SV} : Trace op all [] [] n h τ n h τ
  | cons {o : Oper} {r : List Oper} {k : Rk} {ks : List Rk} {n2 : Nat} {h2 : Tr} {τ2 : List SV} :
    (if wantedS all o k.τ then (op o k.τ).run k.n k.h = some (k.v, k.n', k.h', k.F) else k.v = uns ∧ k.n' = k.n ∧ k.h' = k.h ∧ k.F = .z) →
    Trace op all r ks k.n' k.h' (putS k.τ o.dst k.v) n2 h2 τ2 → Trace op all (o :: r) (k :: ks) k.n k.h k.τ n2 h2 τ2

section
variable {op : Oper → List SV → M SV} {all : List Oper}

theorem trace_of : ∀ {r : List Oper} {τ : List SV} {n : Nat} {h : Tr} {τ' : List SV} {rs : List Rc} {n' : Nat} {h' : Tr} {F : Ft}, parRun op all r τ n h = some ((τ', rs), n', h', F) →
    ∃ ks, ks.map Rk.rc = rs ∧ Trace op all r ks n h τ n' h' τ'
  | [], τ, n, h, τ', rs, n', h', F, e => by
    simp only [parRun, Option.some.injEq, Prod.mk.injEq] at e
    obtain ⟨⟨rfl, rfl⟩, rfl, rfl, -⟩ := e
    exact ⟨[], rfl, .nil⟩
  | o :: r, τ, n, h, τ', rs, n', h', F, e => by
    unfold parRun at e
    obtain ⟨x, n1, h1, F1, F2, e1, e2, -⟩ := M.bindRun_some e
    obtain ⟨y, n2, h2, F3, F4, e3, e4, -⟩ := M.bindRun_some e2
    rw [putK_eq] at e3
    obtain ⟨v, rc⟩ := x
    obtain ⟨τ2, rs2⟩ := y
    simp only [Option.some.injEq, Prod.mk.injEq] at e4
    obtain ⟨⟨rfl, rfl⟩, rfl, rfl, -⟩ := e4
    obtain ⟨rfl, g⟩ := opStep_some e1
    obtain ⟨ks, hk, ht⟩ := trace_of e3
    refine ⟨⟨n, n1, F1, v, h, h1, τ⟩ :: ks, by simp [hk, Rk.rc], ?_⟩
    exact Trace.cons (k := ⟨n, n1, F1, v, h, h1, τ⟩) g ht

/-- a step's frame -/
structure Fr (k : Rk) : Prop where
  le : k.n ≤ k.n'
  lt : ∀ b, k.F.rd b = true ∨ k.F.wr b = true → b < k.n'
  keep : ∀ b, k.touch b = false → k.h'.get b = k.h.get b
theorem fr_of {o : Oper} {k : Rk} (g : if wantedS all o k.τ then (op o k.τ).run k.n k.h = some (k.v, k.n', k.h', k.F) else k.v = uns ∧ k.n' = k.n ∧ k.h' = k.h ∧ k.F = .z) : Fr k := by
  split at g
  · obtain ⟨g1, g2, g3, -⟩ := (op o k.τ).ok _ _ _ _ _ _ g
    refine ⟨g1, g2, fun b hb => ?_⟩
    simp only [Rk.touch, Bool.or_eq_false_iff, Bool.and_eq_false_iff, decide_eq_false_iff_not] at hb
    exact g3 b hb.1 (by omega)
  · obtain ⟨-, g1, g2, g3⟩ := g
    refine ⟨by omega, fun b hb => ?_, fun b _ => by rw [g2]⟩
    rw [g3] at hb
    simp [Ft.rd, Ft.wr] at hb

theorem Trace.length : ∀ {r : List Oper} {ks : List Rk} {n : Nat} {h : Tr} {τ : List SV} {n' : Nat} {h' : Tr} {τ' : List SV}, Trace op all r ks n h τ n' h' τ' → ks.length = r.length
  | _, _, _, _, _, _, _, _, .nil => rfl
  | _, _, _, _, _, _, _, _, .cons _ t => by simp [Trace.length t]
theorem Trace.le : ∀ {r : List Oper} {ks : List Rk} {n : Nat} {h : Tr} {τ : List SV} {n' : Nat} {h' : Tr} {τ' : List SV}, Trace op all r ks n h τ n' h' τ' → n ≤ n' ∧ ∀ k ∈ ks, n ≤ k.n ∧ k.n' ≤ n'
  | _, _, _, _, _, _, _, _, .nil => ⟨Nat.le_refl _, fun k hk => by cases hk⟩
  | _, _, _, _, _, _, _, _, .cons g t => by
    obtain ⟨h1, h2⟩ := Trace.le t
    have f := (fr_of g).le
    refine ⟨by omega, fun k hk => ?_⟩
    rcases List.mem_cons.1 hk with rfl | hk
    · exact ⟨Nat.le_refl _, h1⟩
    · have := h2 k hk; omega
theorem Trace.at_ : ∀ {r : List Oper} {ks : List Rk} {n : Nat} {h : Tr} {τ : List SV} {n' : Nat} {h' : Tr} {τ' : List SV}, Trace op all r ks n h τ n' h' τ' → ∀ (i : Nat) (o : Oper) (k : Rk), r[i]? = some o → ks[i]? = some k →
    Fr k ∧ (if wantedS all o k.τ then (op o k.τ).run k.n k.h = some (k.v, k.n', k.h', k.F) else k.v = uns ∧ k.n' = k.n ∧ k.h' = k.h ∧ k.F = .z)
  | _, _, _, _, _, _, _, _, .nil, i, o, k, ho, hk => by simp at ho
  | _, _, _, _, _, _, _, _, .cons g t, 0, o, k, ho, hk => by
    simp at ho hk
    subst ho
    subst hk
    exact ⟨fr_of g, g⟩
  | _, _, _, _, _, _, _, _, .cons g t, i + 1, o, k, ho, hk => Trace.at_ t i o k (by simpa using ho) (by simpa using hk)
theorem Trace.mono : ∀ {r : List Oper} {ks : List Rk} {n : Nat} {h : Tr} {τ : List SV} {n' : Nat} {h' : Tr} {τ' : List SV}, Trace op all r ks n h τ n' h' τ' → ∀ (i j : Nat) (x y : Rk), i < j → ks[i]? = some x → ks[j]? = some y → x.n' ≤ y.n
  | _, _, _, _, _, _, _, _, .nil, i, j, x, y, _, hx, _ => by simp at hx
  | _, _, _, _, _, _, _, _, .cons g t, i, j + 1, x, y, hij, hx, hy => by
    have hy' := hy
    simp only [List.getElem?_cons_succ] at hy'
    cases i with
    | zero =>
      simp at hx
      subst hx
      exact ((Trace.le t).2 y (List.mem_of_getElem? hy')).1
    | succ i => exact Trace.mono t i j x y (by omega) (by simpa using hx) hy'
  | _, _, _, _, _, _, _, _, .cons g t, i, 0, x, y, hij, hx, hy => by omega

/-- what a block holds when those of S have been carried out -/
def val (S : Nat → Bool) : Nat → List Rk → Option Bk → Nat → Option Bk
  | _, [], d, _ => d
  | i, k :: ks, d, b => val S (i + 1) ks (if S i && k.touch b then k.h'.get b else d) b
theorem val_congr {S T : Nat → Bool} {b : Nat} : ∀ {ks : List Rk} {i0 : Nat} {d : Option Bk}, (∀ j k, ks[j]? = some k → k.touch b = true → S (i0 + j) = T (i0 + j)) → val S i0 ks d b = val T i0 ks d b
  | [], i0, d, _ => rfl
  | k :: ks, i0, d, h => by
    have h0 : (S i0 && k.touch b) = (T i0 && k.touch b) := by
      cases hq : k.touch b with
      | false => simp
      | true => have := h 0 k rfl hq; simp at this; simp [this]
    simp only [val, h0]
    exact val_congr fun j k' hj ht => by
      have := h (j + 1) k' (by simpa using hj) ht
      rw [show i0 + 1 + j = i0 + (j + 1) by omega]
      exact this
theorem val_false {S : Nat → Bool} {b : Nat} : ∀ {ks : List Rk} {i0 : Nat} {d : Option Bk}, (∀ j k, ks[j]? = some k → k.touch b = true → S (i0 + j) = false) → val S i0 ks d b = d
  | [], i0, d, _ => rfl
  | k :: ks, i0, d, h => by
    have h0 : (S i0 && k.touch b) = false := by
      cases hq : k.touch b with
      | false => simp
      | true => have := h 0 k rfl hq; simp at this; simp [this]
    simp only [val, h0, Bool.false_eq_true, if_false]
    exact val_false fun j k' hj ht => by
      have := h (j + 1) k' (by simpa using hj) ht
      rw [show i0 + 1 + j = i0 + (j + 1) by omega]
      exact this
theorem val_last {S : Nat → Bool} {b : Nat} : ∀ {ks : List Rk} {i0 : Nat} {d : Option Bk} {j : Nat} {k : Rk}, ks[j]? = some k → k.touch b = true → S (i0 + j) = true →
    (∀ m k', j < m → ks[m]? = some k' → k'.touch b = true → S (i0 + m) = false) → val S i0 ks d b = k.h'.get b
  | [], i0, d, j, k, hk, _, _, _ => by simp at hk
  | x :: ks, i0, d, 0, k, hk, ht, hS, hr => by
    simp at hk
    subst hk
    simp only [Nat.add_zero] at hS
    simp only [val, hS, ht, Bool.and_self, if_true]
    exact val_false fun j k' hj ht' => by
      have := hr (j + 1) k' (by omega) (by simpa using hj) ht'
      rw [show i0 + 1 + j = i0 + (j + 1) by omega]
      exact this
  | x :: ks, i0, d, j + 1, k, hk, ht, hS, hr => by
    simp only [val]
    exact val_last (j := j) (by simpa using hk) ht (by rw [show i0 + 1 + j = i0 + (j + 1) by omega]; exact hS) fun m k' hm hk' ht' => by
      have := hr (m + 1) k' (by omega) (by simpa using hk') ht'
      rw [show i0 + 1 + m = i0 + (m + 1) by omega]
      exact this

theorem Trace.end_get : ∀ {r : List Oper} {ks : List Rk} {n : Nat} {h : Tr} {τ : List SV} {n' : Nat} {h' : Tr} {τ' : List SV}, Trace op all r ks n h τ n' h' τ' → ∀ i0 b, h'.get b = val (fun _ => true) i0 ks (h.get b) b
  | _, _, _, _, _, _, _, _, .nil, i0, b => rfl
  | _, _, _, _, _, _, _, _, .cons (k := k) g t, i0, b => by
    rw [Trace.end_get t (i0 + 1) b]
    simp only [val, Bool.true_and]
    congr 1
    cases hq : k.touch b with
    | true => simp
    | false => simp [(fr_of g).keep b hq]
theorem Trace.at_get : ∀ {r : List Oper} {ks : List Rk} {n : Nat} {h : Tr} {τ : List SV} {n' : Nat} {h' : Tr} {τ' : List SV}, Trace op all r ks n h τ n' h' τ' → ∀ i0 j x, ks[j]? = some x → ∀ b, x.h.get b = val (fun i => decide (i < i0 + j)) i0 ks (h.get b) b
  | _, _, _, _, _, _, _, _, .nil, i0, j, x, hx, b => by simp at hx
  | _, _, _, _, _, _, _, _, .cons (k := k) g t, i0, 0, x, hx, b => by
    simp at hx
    subst hx
    rw [val_false fun j k' hj ht => by simp]
  | _, _, _, _, _, _, _, _, .cons (k := k) g t, i0, j + 1, x, hx, b => by
    rw [Trace.at_get t (i0 + 1) j x (by simpa using hx) b]
    have hS : decide (i0 < i0 + (j + 1)) = true := by simp
    simp only [val, hS, Bool.true_and]
    have hd : (if k.touch b then k.h'.get b else k.h.get b) = k.h'.get b := by
      cases hq : k.touch b with
      | true => simp
      | false => simp [(fr_of g).keep b hq]
    rw [hd]
    exact val_congr fun m k' _ _ => by congr 1; simp only [eq_iff_iff]; omega

/-- what a slot holds -/
def valT (S : Nat → Bool) : Nat → List Oper → List Rk → Option SV → Nat → Option SV
  | i, o :: os, k :: ks, d, t => valT S (i + 1) os ks (if S i && (o.dst == some t) then d.map (fun _ => k.v) else d) t
  | _, _, _, d, _ => d
theorem putS_get (τ : List SV) (dst : Option Tmp) (v : SV) (t : Nat) : (putS τ dst v)[t]? = if (dst == some t) = true then (τ[t]?).map (fun _ => v) else τ[t]? := by
  cases dst with
  | none => simp [putS]
  | some d =>
    simp only [putS, List.getElem?_set]
    by_cases hd : d = t
    · subst hd
      by_cases hlt : d < τ.length
      · simp [hlt]
      · simp [hlt]
    · have : ¬ (some d == some t) = true := by simpa using hd
      simp [hd]
theorem valT_congr {S T : Nat → Bool} {t : Nat} : ∀ {os : List Oper} {ks : List Rk} {i0 : Nat} {d : Option SV}, (∀ j o, os[j]? = some o → o.dst = some t → S (i0 + j) = T (i0 + j)) → valT S i0 os ks d t = valT T i0 os ks d t
  | [], ks, i0, d, _ => by cases ks <;> rfl
  | o :: os, [], i0, d, _ => rfl
  | o :: os, k :: ks, i0, d, h => by
    have h0 : (S i0 && (o.dst == some t)) = (T i0 && (o.dst == some t)) := by
      cases hq : (o.dst == some t) with
      | false => simp
      | true => have := h 0 o rfl (by simpa using hq); simp at this; simp [this]
    simp only [valT, h0]
    exact valT_congr fun j o' hj ht => by
      have := h (j + 1) o' (by simpa using hj) ht
      rw [show i0 + 1 + j = i0 + (j + 1) by omega]
      exact this
theorem valT_false {S : Nat → Bool} {t : Nat} : ∀ {os : List Oper} {ks : List Rk} {i0 : Nat} {d : Option SV}, (∀ j o, os[j]? = some o → o.dst = some t → S (i0 + j) = false) → valT S i0 os ks d t = d
  | [], ks, i0, d, _ => by cases ks <;> rfl
  | o :: os, [], i0, d, _ => rfl
  | o :: os, k :: ks, i0, d, h => by
    have h0 : (S i0 && (o.dst == some t)) = false := by
      cases hq : (o.dst == some t) with
      | false => simp
      | true => have := h 0 o rfl (by simpa using hq); simp at this; simp [this]
    simp only [valT, h0, Bool.false_eq_true, if_false]
    exact valT_false fun j o' hj ht => by
      have := h (j + 1) o' (by simpa using hj) ht
      rw [show i0 + 1 + j = i0 + (j + 1) by omega]
      exact this
theorem valT_last {S : Nat → Bool} {t : Nat} : ∀ {os : List Oper} {ks : List Rk} {i0 : Nat} {d : Option SV} {j : Nat} {o : Oper} {k : Rk}, os[j]? = some o → ks[j]? = some k → o.dst = some t → S (i0 + j) = true →
    (∀ m o', j < m → os[m]? = some o' → o'.dst = some t → S (i0 + m) = false) → valT S i0 os ks d t = d.map (fun _ => k.v)
  | [], ks, i0, d, j, o, k, ho, _, _, _, _ => by simp at ho
  | x :: os, [], i0, d, j, o, k, ho, hk, _, _, _ => by simp at hk
  | x :: os, y :: ks, i0, d, 0, o, k, ho, hk, ht, hS, hr => by
    simp at ho hk
    subst ho
    subst hk
    simp only [Nat.add_zero] at hS
    have hb : (x.dst == some t) = true := by simpa using ht
    simp only [valT, hS, hb, Bool.and_self, if_true]
    exact valT_false fun j o' hj ht' => by
      have := hr (j + 1) o' (by omega) (by simpa using hj) ht'
      rw [show i0 + 1 + j = i0 + (j + 1) by omega]
      exact this
  | x :: os, y :: ks, i0, d, j + 1, o, k, ho, hk, ht, hS, hr => by
    simp only [valT]
    rw [valT_last (j := j) (by simpa using ho) (by simpa using hk) ht (by rw [show i0 + 1 + j = i0 + (j + 1) by omega]; exact hS) fun m o' hm ho' ht' => by
      have := hr (m + 1) o' (by omega) (by simpa using ho') ht'
      rw [show i0 + 1 + m = i0 + (m + 1) by omega]
      exact this]
    split
    · cases d <;> rfl
    · rfl

theorem Trace.end_tau : ∀ {r : List Oper} {ks : List Rk} {n : Nat} {h : Tr} {τ : List SV} {n' : Nat} {h' : Tr} {τ' : List SV}, Trace op all r ks n h τ n' h' τ' → ∀ i0 t, τ'[t]? = valT (fun _ => true) i0 r ks τ[t]? t
  | _, _, _, _, _, _, _, _, .nil, i0, t => rfl
  | _, _, _, _, _, _, _, _, .cons (k := k) g tr, i0, t => by
    rw [Trace.end_tau tr (i0 + 1) t]
    simp only [valT, Bool.true_and]
    congr 1
    exact putS_get _ _ _ _
theorem Trace.at_tau : ∀ {r : List Oper} {ks : List Rk} {n : Nat} {h : Tr} {τ : List SV} {n' : Nat} {h' : Tr} {τ' : List SV}, Trace op all r ks n h τ n' h' τ' → ∀ i0 j x, ks[j]? = some x → ∀ t, x.τ[t]? = valT (fun i => decide (i < i0 + j)) i0 r ks τ[t]? t
  | _, _, _, _, _, _, _, _, .nil, i0, j, x, hx, t => by simp at hx
  | _, _, _, _, _, _, _, _, .cons (k := k) g tr, i0, 0, x, hx, t => by
    simp at hx
    subst hx
    rw [valT_false fun j k' hj ht => by simp]
  | _, _, _, _, _, _, _, _, .cons (k := k) g tr, i0, j + 1, x, hx, t => by
    rw [Trace.at_tau tr (i0 + 1) j x (by simpa using hx) t]
    have hS : decide (i0 < i0 + (j + 1)) = true := by simp
    simp only [valT, hS, Bool.true_and]
    rw [putS_get]
    exact valT_congr fun m o' _ _ => by congr 1; simp only [eq_iff_iff]; omega
theorem Trace.len_tau : ∀ {r : List Oper} {ks : List Rk} {n : Nat} {h : Tr} {τ : List SV} {n' : Nat} {h' : Tr} {τ' : List SV}, Trace op all r ks n h τ n' h' τ' → τ'.length = τ.length
  | _, _, _, _, _, _, _, _, .nil => rfl
  | _, _, _, _, _, _, _, _, .cons g tr => by rw [Trace.len_tau tr, length_putS]
end

theorem countP_less {α : Type} {p q : α → Bool} : ∀ {l : List α}, (∀ x ∈ l, q x = true → p x = true) → (∃ x ∈ l, p x = true ∧ q x = false) → l.countP q < l.countP p
  | [], _, ⟨x, hx, _⟩ => by cases hx
  | y :: l, h, ⟨x, hx, hp, hq⟩ => by
    rw [List.countP_cons, List.countP_cons]
    have hle : l.countP q ≤ l.countP p := List.countP_mono_left fun x hx => h x (by simp [hx])
    rcases List.mem_cons.1 hx with rfl | hx
    · simp [hp, hq]; omega
    · have := countP_less (l := l) (fun x hx => h x (by simp [hx])) ⟨x, hx, hp, hq⟩
      by_cases hy : q y = true
      · simp [hy, h y (by simp) hy]; omega
      · have : q y = false := by simpa using hy
        simp [this]; omega

/-- those that have been carried out -/
def listedIn (listed : Array Bool) (i : Nat) : Bool := listed.getD i false

theorem way_down {ops : List Oper} {S : Nat → Bool} (hd : ∀ i j, S j = true → Edg ops i j → S i = true) : ∀ {i j : Nat}, Way ops i j → S j = true → S i = true := by
  intro i j w
  induction w with
  | one e => exact fun h => hd _ _ h e
  | more _ e ih => exact fun h => ih (hd _ _ h e)
theorem way_ready {ops : List Oper} {S : Nat → Bool} (hd : ∀ i j, S j = true → Edg ops i j → S i = true) {j : Nat} (hj : ∀ i, Edg ops i j → S i = true) : ∀ {i : Nat}, Way ops i j → S i = true
  | _, .one e => hj _ e
  | _, .more w e => way_down hd w (hj _ e)
theorem way_lt {ops : List Oper} (hl : ∀ i j, Edg ops i j → i < j) : ∀ {i j : Nat}, Way ops i j → i < j := by
  intro i j w
  induction w with
  | one e => exact hl _ _ e
  | more _ e ih => exact Nat.lt_trans ih (hl _ _ e)

structure St (base : Nat) (w0 : World) (ops : Array Oper) (ks : List Rk) (E0 : Env) (h0 : Tr) (τ0 : List SV) (d0 : List Deferred) (S : Nat → Bool) (E : Env) (h : Tr) (τ : List SV) (a : Act) (w : World) : Prop where
  len : τ.length = τ0.length
  mem : ∀ b, h.get b = val S 0 ks (h0.get b) b
  tau : ∀ t, τ[t]? = valT S 0 ops.toList ks τ0[t]? t
  inv : Inv base w0 E h w
  rel : RelL E τ a.tmps.toList
  le : E0.le E
  dom : ∀ b, E0 b = none → E b ≠ none → ∃ i k, ks[i]? = some k ∧ S i = true ∧ k.n ≤ b ∧ b < k.n'
  dfs : a.defers = d0
  down : ∀ i j, S j = true → Edg ops.toList i j → S i = true

theorem par_ok {P : Program} {base : Nat} {w0 : World} (hm : P.follows .mixedOrders = true) {op : Oper → List SV → M SV} (hop : OpOk P base w0 op) {ops : Array Oper} {Q : Exit → Act → World → Prop}
    (hloc : ∀ o τ τ', (∀ t ∈ usesS ops.toList o, τ[t]? = τ'[t]?) → op o τ = op o τ') {id : Nat} {τ : List SV} {a : Act} {E : Env} {h : Tr} {w : World} {n : Nat} {τ' : List SV} {n' : Nat} {h' : Tr} {F : Ft}
    (hr : (parM op ops.toList τ).run n h = some (τ', n', h', F)) (hT : RelL E τ a.tmps.toList) (I : Inv base w0 E h w) (hf : Free E n n')
    (q : ∀ E' a' w', RelL E' τ' a'.tmps.toList → a'.defers = a.defers → Inv base w0 E' h' w' → Grew E E' n n' → Q .normal a' w') : n ≤ n' ∧ (Code.region id ops true).wp P Q a w := by
  unfold parM at hr
  obtain ⟨y, n1, h1, F1, F2, e1, e2, -⟩ := M.bind_some hr
  obtain ⟨hchk, e2⟩ := M.want_some e2
  obtain ⟨rfl, rfl, rfl⟩ := M.ret_some e2
  obtain ⟨τf, rs⟩ := y
  obtain ⟨ks, hks, tr⟩ := trace_of e1
  dsimp only at hchk
  subst hks
  have hlen := tr.length
  -- what was checked
  unfold checkP at hchk
  cases hms : masks ops.toList [] with
  | none => simp [hms] at hchk
  | some ms =>
  simp only [hms, Bool.and_eq_true, beq_iff_eq] at hchk
  have hMo := masks_ok (ops := ops.toList) (r := ops.toList) (acc := []) (l := ms) ⟨rfl, fun j m hj => by simp at hj, fun j i hj => by simp at hj⟩ (fun j => by simp) hms
  simp only [List.length_nil, Nat.zero_add] at hMo
  have hlt : ∀ i j, Edg ops.toList i j → i < j := fun i j he => by
    have he' := he
    obtain ⟨o, e, ho, -⟩ := he
    exact hMo.lt j i (List.getElem?_eq_some_iff.1 ho).1 he'
  have ind : ∀ i j ox oy x y, ops.toList[i]? = some ox → ops.toList[j]? = some oy → ks[i]? = some x → ks[j]? = some y → i < j → Way ops.toList i j ∨ indepB ops.toList ox x.rc oy y.rc = true := by
    intro i j ox oy x y hox hoy hx hy hij
    have hjl : j < ms.length := by rw [hMo.len]; exact (List.getElem?_eq_some_iff.1 hoy).1
    have hil : i < ms.length := by omega
    have g1 : (ops.toList.zip ((ks.map Rk.rc).zip ms))[i]? = some (ox, x.rc, ms[i]) := by
      rw [List.getElem?_zip_eq_some]
      refine ⟨hox, ?_⟩
      rw [List.getElem?_zip_eq_some]
      exact ⟨by simp [hx], List.getElem?_eq_getElem hil⟩
    have g2 : (ops.toList.zip ((ks.map Rk.rc).zip ms))[j]? = some (oy, y.rc, ms[j]) := by
      rw [List.getElem?_zip_eq_some]
      refine ⟨hoy, ?_⟩
      rw [List.getElem?_zip_eq_some]
      exact ⟨by simp [hy], List.getElem?_eq_getElem hjl⟩
    rcases chk_ok hchk.2 i j _ _ g1 g2 hij with g | g
    · rw [Nat.zero_add] at g
      exact .inl (hMo.way j ms[j] (List.getElem?_eq_getElem hjl) i g)
    · exact .inr g
  have hle := tr.le
  refine ⟨hle.1, wp_region_any hm ?_⟩
  -- whatever has been carried out
  have key : ∀ (fuel : Nat) (listed : Array Bool) (E1 : Env) (h1' : Tr) (τ1 : List SV) (a1 : Act) (w1 : World), listed.size = ops.size → (List.range ops.size).countP (fun i => !listedIn listed i) ≤ fuel →
      St base w0 ops ks E h τ a.defers (listedIn listed) E1 h1' τ1 a1 w1 → wpAny P .any ops Q fuel listed a1 w1 := by
    intro fuel
    -- the end
    have fin : ∀ (listed : Array Bool) (E1 : Env) (h1' : Tr) (τ1 : List SV) (a1 : Act) (w1 : World), listed.size = ops.size → Region.ready .any ops listed = [] →
        St base w0 ops ks E h τ a.defers (listedIn listed) E1 h1' τ1 a1 w1 → Q .normal a1 w1 := by
      intro listed E1 h1' τ1 a1 w1 hsz hrd st
      have hall : ∀ i, i < ops.size → listedIn listed i = true := by
        intro i
        induction i using Nat.strongRecOn with
        | _ i ih =>
          intro hi
          cases hq : listedIn listed i with
          | true => rfl
          | false =>
            exfalso
            have : i ∈ Region.ready .any ops listed := by
              rw [mem_ready]
              refine ⟨?_, ops[i], by simp [hi], fun e he hb => ?_⟩
              · unfold listedIn at hq
                have hil : i < listed.size := by omega
                simpa [hil] using hq
              · have hed : Edg ops.toList e.on i := ⟨ops[i], e, by simp [hi], by simpa using he, hb, rfl⟩
                have := hlt _ _ hed
                exact ih e.on this (by omega)
            rw [hrd] at this
            cases this
      have hS : ∀ j k, ks[j]? = some k → listedIn listed (0 + j) = true := fun j k hk => by
        rw [Nat.zero_add]
        exact hall j (by have := (List.getElem?_eq_some_iff.1 hk).1; rw [hlen] at this; simpa using this)
      have hSo : ∀ j o, ops.toList[j]? = some o → listedIn listed (0 + j) = true := fun j o ho => by
        rw [Nat.zero_add]
        exact hall j (by simpa using (List.getElem?_eq_some_iff.1 ho).1)
      have hτ : τ1 = τf := by
        apply List.ext_getElem?
        intro t
        rw [st.tau, tr.end_tau 0 t]
        exact valT_congr fun j o ho _ => by rw [hSo j o ho]
      subst hτ
      refine q E1 a1 w1 st.rel st.dfs (st.inv.same fun b => ?_) ⟨st.le, fun b hb hb' => ?_⟩
      · rw [st.mem, tr.end_get 0 b]
        exact (val_congr fun j k hk _ => by rw [hS j k hk]).symm
      · obtain ⟨i, k, hk, -, g1, g2⟩ := st.dom b hb hb'
        have := hle.2 k (List.mem_of_getElem? hk)
        omega
    induction fuel with
    | zero =>
      intro listed E1 h1' τ1 a1 w1 hsz hcnt st
      have hnil : Region.ready .any ops listed = [] := by
        cases hrd : Region.ready .any ops listed with
        | nil => rfl
        | cons i r =>
          exfalso
          have hi : i ∈ Region.ready .any ops listed := by rw [hrd]; simp
          rw [mem_ready] at hi
          obtain ⟨h0, o, ho, -⟩ := hi
          have hlt' : i < ops.size := (Array.getElem?_eq_some_iff.1 ho).1
          have hil : i < listed.size := by omega
          have : 0 < (List.range ops.size).countP (fun i => !listedIn listed i) := by
            rw [List.countP_pos_iff]
            refine ⟨i, by simpa using hlt', ?_⟩
            unfold listedIn
            simp [hil] at h0 ⊢
            exact h0
          omega
      exact ⟨hnil, fin listed E1 h1' τ1 a1 w1 hsz hnil st⟩
    | succ fuel ih =>
      intro listed E1 h1' τ1 a1 w1 hsz hcnt st
      refine ⟨fun hnil => fin listed E1 h1' τ1 a1 w1 hsz hnil st, fun i hi => ?_⟩
      rw [mem_ready] at hi
      obtain ⟨hi0, o, ho, hpre⟩ := hi
      have hio : i < ops.size := (Array.getElem?_eq_some_iff.1 ho).1
      have hil : i < listed.size := by omega
      have hoL : ops.toList[i]? = some o := by simpa using ho
      obtain ⟨k, hk⟩ : ∃ k, ks[i]? = some k := ⟨ks[i]'(by rw [hlen]; simpa using hio), List.getElem?_eq_getElem _⟩
      have hnot : listedIn listed i = false := by unfold listedIn; simpa [hil] using hi0
      have hpre' : ∀ j, Edg ops.toList j i → listedIn listed j = true := by
        intro j he
        obtain ⟨o', e, q1, q2, q3, q4⟩ := he
        rw [hoL] at q1
        cases q1
        rw [← q4]
        exact hpre e (by simpa using q2) q3
      have hbefore : ∀ j, Way ops.toList j i → listedIn listed j = true := fun j hw => way_ready st.down hpre' hw
      have hbehind : ∀ j, Way ops.toList i j → listedIn listed j = false := fun j hw => by
        cases hq : listedIn listed j with
        | false => rfl
        | true => have := way_down st.down hw hq; rw [hnot] at this; cases this
      obtain ⟨fr, hrun⟩ := tr.at_ i o k hoL hk
      -- the slots that it looks at are what they are in the text's order
      have hslots : ∀ t ∈ usesS ops.toList o, τ1[t]? = k.τ[t]? := by
        intro t ht
        rw [st.tau, tr.at_tau 0 i k hk t]
        refine valT_congr fun j oj hoj hdj => ?_
        rw [Nat.zero_add, Nat.zero_add]
        obtain ⟨y, hy⟩ : ∃ y, ks[j]? = some y := ⟨ks[j]'(by rw [hlen]; exact (List.getElem?_eq_some_iff.1 hoj).1), List.getElem?_eq_getElem _⟩
        rcases Nat.lt_trichotomy j i with hji | hji | hji
        · have : decide (j < i) = true := by simpa using hji
          rw [this]
          rcases ind j i oj o y k hoj hoL hy hk hji with g | g
          · exact hbefore j g
          · exfalso
            unfold indepB at g
            simp only [hdj, Bool.and_eq_true, Bool.not_eq_true'] at g
            have := g.1.1.1.1.1.1
            simp [ht] at this
        · subst hji
          rw [hnot]
          simp
        · have : decide (j < i) = false := by simp; omega
          rw [this]
          rcases ind i j o oj k y hoL hoj hk hy hji with g | g
          · exact hbehind j g
          · exfalso
            unfold indepB at g
            simp only [hdj, Bool.and_eq_true, Bool.not_eq_true'] at g
            have := g.1.1.1.1.2
            simp [ht] at this
      -- the blocks that it looks at, too
      have hblocks : ∀ b, k.F.rd b = true ∨ k.F.wr b = true → ¬ (k.n ≤ b ∧ b < k.n') → h1'.get b = k.h.get b := by
        intro b hb hnr
        rw [st.mem, tr.at_get 0 i k hk b]
        refine val_congr fun j y hy hty => ?_
        rw [Nat.zero_add, Nat.zero_add]
        obtain ⟨oj, hoj⟩ : ∃ oj, ops.toList[j]? = some oj := ⟨ops.toList[j]'(by rw [← hlen]; exact (List.getElem?_eq_some_iff.1 hy).1), List.getElem?_eq_getElem _⟩
        simp only [Rk.touch, Bool.or_eq_true, Bool.and_eq_true, decide_eq_true_eq] at hty
        rcases Nat.lt_trichotomy j i with hji | hji | hji
        · have : decide (j < i) = true := by simpa using hji
          rw [this]
          rcases ind j i oj o y k hoj hoL hy hk hji with g | g
          · exact hbefore j g
          · exfalso
            unfold indepB at g
            simp only [Bool.and_eq_true] at g
            obtain ⟨⟨⟨⟨⟨-, -⟩, g3⟩, g4⟩, g5⟩, g6⟩ := g
            rcases hty with hty | hty
            · have := List.all_eq_true.1 g3 b (Ft.mem_ws hty)
              simp only [Rk.rc, Bool.and_eq_true, Bool.not_eq_true'] at this
              rcases hb with hb | hb
              · rw [hb] at this; exact absurd this.1 (by simp)
              · rw [hb] at this; exact absurd this.2 (by simp)
            · rcases hb with hb | hb
              · have := List.all_eq_true.1 g5 b (Ft.mem_rs hb)
                simp only [Bool.or_eq_true, decide_eq_true_eq] at this
                simp only [Rk.rc] at this
                omega
              · have := List.all_eq_true.1 g6 b (Ft.mem_ws hb)
                simp only [Bool.or_eq_true, decide_eq_true_eq] at this
                simp only [Rk.rc] at this
                omega
        · subst hji
          rw [hnot]
          simp
        · have : decide (j < i) = false := by simp; omega
          rw [this]
          have hmono := tr.mono i j k y hji hk hy
          have hbl := fr.lt b hb
          rcases ind i j o oj k y hoL hoj hk hy hji with g | g
          · exact hbehind j g
          · exfalso
            unfold indepB at g
            simp only [Bool.and_eq_true] at g
            obtain ⟨⟨⟨⟨⟨-, -⟩, g3⟩, g4⟩, g5⟩, g6⟩ := g
            rcases hty with hty | hty
            · have := List.all_eq_true.1 g4 b (Ft.mem_ws hty)
              simp only [Rk.rc, Bool.and_eq_true, Bool.not_eq_true'] at this
              rcases hb with hb | hb
              · rw [hb] at this; exact absurd this.1 (by simp)
              · rw [hb] at this; exact absurd this.2 (by simp)
            · omega
      -- how things stand behind it
      have hS' : ∀ j, listedIn (listed.setIfInBounds i true) j = (decide (j = i) || listedIn listed j) := by
        intro j
        unfold listedIn
        by_cases hji : j = i
        · subst hji; simp [hil]
        · rw [getD_set_ne false (Ne.symm hji)]; simp [hji]
      have hcnt' : (List.range ops.size).countP (fun i_1 => !listedIn (listed.setIfInBounds i true) i_1) ≤ fuel := by
        have := countP_less (l := List.range ops.size) (p := fun j => !listedIn listed j) (q := fun j => !listedIn (listed.setIfInBounds i true) j)
          (fun j _ hj => by simp only [hS', Bool.not_or, Bool.and_eq_true] at hj; exact hj.2) ⟨i, by simpa using hio, by simp [hnot], by simp [hS']⟩
        omega
      have hdown' : ∀ p j, listedIn (listed.setIfInBounds i true) j = true → Edg ops.toList p j → listedIn (listed.setIfInBounds i true) p = true := by
        intro p j hj he
        rw [hS'] at hj ⊢
        simp only [Bool.or_eq_true, decide_eq_true_eq] at hj ⊢
        rcases hj with rfl | hj
        · exact .inr (hpre' p he)
        · exact .inr (st.down p j hj he)
      have htau' : ∀ t, (putS τ1 o.dst k.v)[t]? = valT (listedIn (listed.setIfInBounds i true)) 0 ops.toList ks τ[t]? t := by
        intro t
        rw [putS_get]
        by_cases hd : o.dst = some t
        · have hd' : (o.dst == some t) = true := by simpa using hd
          rw [if_pos hd']
          rw [valT_last (j := i) hoL hk hd (by simp [hS']) (fun m o' hm ho' hdm => by
            rw [Nat.zero_add, hS']
            have hmi : ¬ m = i := by omega
            simp only [hmi, decide_false, Bool.false_or]
            obtain ⟨y, hy⟩ : ∃ y, ks[m]? = some y := ⟨ks[m]'(by rw [hlen]; exact (List.getElem?_eq_some_iff.1 ho').1), List.getElem?_eq_getElem _⟩
            rcases ind i m o o' k y hoL ho' hk hy hm with g | g
            · exact hbehind m g
            · exfalso
              unfold indepB at g
              simp only [hd, hdm, Bool.and_eq_true] at g
              have := g.1.1.1.1.1.2
              simp at this)]
          have hl1 : (τ1[t]?).isSome = (τ[t]?).isSome := by
            rw [Bool.eq_iff_iff]
            simp only [Option.isSome_iff_exists, ← List.getElem?_eq_some_iff]
            constructor
            · rintro ⟨x, hx⟩
              exact ⟨_, List.getElem?_eq_getElem (by have := (List.getElem?_eq_some_iff.1 hx).1; rw [st.len] at this; exact this)⟩
            · rintro ⟨x, hx⟩
              exact ⟨_, List.getElem?_eq_getElem (by have := (List.getElem?_eq_some_iff.1 hx).1; rw [st.len]; exact this)⟩
          cases h1q : τ1[t]? <;> cases h2q : τ[t]? <;> simp [h1q, h2q] at hl1 ⊢
        · have hd' : ¬ (o.dst == some t) = true := by simpa using hd
          rw [if_neg hd', st.tau]
          refine valT_congr fun j oj hoj hdj => ?_
          rw [Nat.zero_add, hS']
          have : ¬ j = i := fun e => by subst e; rw [hoL] at hoj; cases hoj; exact hd hdj
          simp [this]
      have hdom' : ∀ (E2 : Env), Grew E1 E2 k.n k.n' → ∀ b, E b = none → E2 b ≠ none → ∃ j x, ks[j]? = some x ∧ listedIn (listed.setIfInBounds i true) j = true ∧ x.n ≤ b ∧ b < x.n' := by
        intro E2 G b hb hb'
        by_cases h1q : E1 b = none
        · have := G.2 b h1q hb'
          exact ⟨i, k, hk, by simp [hS'], this.1, this.2⟩
        · obtain ⟨j, x, g1, g2, g3, g4⟩ := st.dom b hb h1q
          exact ⟨j, x, g1, by simp [hS', g2], g3, g4⟩
      have hwant : wantedS ops.toList o τ1 = wantedS ops.toList o k.τ := wantedS_congr hslots
      unfold wpOp
      simp only [ho]
      rw [wantedS_eq st.rel]
      by_cases hw : wantedS ops.toList o τ1 = true
      · rw [if_pos hw]
        rw [← hwant, if_pos hw] at hrun
        obtain ⟨-, -, -, fr4⟩ := (op o k.τ).ok _ _ _ _ _ _ hrun
        obtain ⟨h2, r1, r2, r3⟩ := fr4 h1' hblocks
        have hfree : Free E1 k.n k.n' := by
          intro b g1 g2
          cases hq : E1 b with
          | none => rfl
          | some x =>
            exfalso
            by_cases h0q : E b = none
            · obtain ⟨j, y, f1, f2, f3, f4⟩ := st.dom b h0q (by simp [hq])
              rcases Nat.lt_trichotomy j i with hji | hji | hji
              · have := tr.mono j i y k hji f1 hk; omega
              · subst hji; rw [hnot] at f2; cases f2
              · have := tr.mono i j k y hji hk f1; omega
            · have hkk := hle.2 k (List.mem_of_getElem? hk)
              have := hf b (by omega) (by omega)
              exact h0q this
        have hsame : op o τ1 = op o k.τ := hloc o τ1 k.τ hslots
        rw [← hsame] at r1
        refine .inl (hop o τ1 a1 E1 h1' w1 k.n k.v k.n' h2 k.F r1 st.rel st.inv hfree _ Q fun E2 w2 V hV I2 G2 => ?_)
        refine ih (listed.setIfInBounds i true) E2 h2 (putS τ1 o.dst k.v) (a1.put o.dst V) w2 (by simpa using hsz) hcnt' ⟨by rw [length_putS]; exact st.len, fun b => ?_, htau', I2, putS_rel (st.rel.mono G2.1) hV, Env.le_trans st.le G2.1, hdom' E2 G2, by rw [put_defers]; exact st.dfs, hdown'⟩
        by_cases htb : k.touch b = true
        · have htb' := htb
          simp only [Rk.touch, Bool.or_eq_true, Bool.and_eq_true, decide_eq_true_eq] at htb'
          rw [r2 b htb']
          refine (val_last (j := i) hk htb (by simp [hS']) fun m y hm hy hty => ?_).symm
          rw [Nat.zero_add, hS']
          have hmi : ¬ m = i := by omega
          simp only [hmi, decide_false, Bool.false_or]
          obtain ⟨om, hom⟩ : ∃ om, ops.toList[m]? = some om := ⟨ops.toList[m]'(by rw [← hlen]; exact (List.getElem?_eq_some_iff.1 hy).1), List.getElem?_eq_getElem _⟩
          rcases ind i m o om k y hoL hom hk hy hm with g | g
          · exact hbehind m g
          · exfalso
            have hmono := tr.mono i m k y hm hk hy
            have hbl : b < k.n' := by
              rcases htb' with h' | h'
              · exact fr.lt b (.inr h')
              · exact h'.2
            unfold indepB at g
            simp only [Bool.and_eq_true] at g
            obtain ⟨⟨⟨⟨⟨-, -⟩, g3⟩, g4⟩, g5⟩, g6⟩ := g
            simp only [Rk.touch, Bool.or_eq_true, Bool.and_eq_true, decide_eq_true_eq] at hty
            rcases hty with hty | hty
            · rcases htb' with h' | h'
              · have := List.all_eq_true.1 g3 b (Ft.mem_ws h')
                simp only [Rk.rc, Bool.and_eq_true, Bool.not_eq_true'] at this
                rw [hty] at this
                exact absurd this.2 (by simp)
              · have := List.all_eq_true.1 g6 b (Ft.mem_ws hty)
                simp only [Bool.or_eq_true, decide_eq_true_eq] at this
                simp only [Rk.rc] at this
                omega
            · omega
        · have htb0 : k.touch b = false := by simpa using htb
          have htb' := htb0
          simp only [Rk.touch, Bool.or_eq_false_iff, Bool.and_eq_false_iff, decide_eq_false_iff_not] at htb'
          rw [r3 b htb'.1 (by omega), st.mem]
          refine val_congr fun j y hy hty => ?_
          rw [Nat.zero_add, hS']
          have : ¬ j = i := fun e => by subst e; rw [hk] at hy; cases hy; rw [htb0] at hty; cases hty
          simp [this]
      · rw [if_neg hw]
        rw [← hwant, if_neg hw] at hrun
        obtain ⟨g1, g2, g3, g4⟩ := hrun
        refine ih (listed.setIfInBounds i true) E1 h1' (putS τ1 o.dst k.v) (a1.put o.dst undef) w1 (by simpa using hsz) hcnt' ⟨by rw [length_putS]; exact st.len, fun b => ?_, htau', st.inv, ?_, st.le, ?_, by rw [put_defers]; exact st.dfs, hdown'⟩
        · rw [st.mem]
          refine val_congr fun j y hy hty => ?_
          rw [Nat.zero_add, hS']
          have : ¬ j = i := fun e => by
            subst e
            rw [hk] at hy
            cases hy
            simp only [Rk.touch, g4, Ft.wr, g2, Bool.false_or, Bool.and_eq_true, decide_eq_true_eq] at hty
            omega
          simp [this]
        · rw [g1]; exact putS_rel st.rel (rel_uns E1)
        · intro b hb hb'
          obtain ⟨j, x, f1, f2, f3, f4⟩ := st.dom b hb hb'
          exact ⟨j, x, f1, by simp [hS', f2], f3, f4⟩
  -- at first
  refine key ops.size (Array.replicate ops.size false) E h τ a w.drew (by simp) (by simpa using List.countP_le_length (l := List.range ops.size) (p := fun i => !listedIn (Array.replicate ops.size false) i)) ?_
  have hnone : ∀ i, listedIn (Array.replicate ops.size false) i = false := fun i => by
    unfold listedIn
    by_cases hi : i < ops.size <;> simp [hi]
  exact ⟨rfl, fun b => (val_false fun j k _ _ => hnone _).symm, fun t => (valT_false fun j o _ _ => hnone _).symm, I.drew, hT, E.le_refl, fun b hb hb' => absurd hb hb', rfl, fun i j hj => by rw [hnone] at hj; cases hj⟩
end Go.Proofs.YtcoagfnkcbfbaaaGreatDoor
