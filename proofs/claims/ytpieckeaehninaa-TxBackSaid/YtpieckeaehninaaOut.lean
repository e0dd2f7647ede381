/-
  Bytes that a call collects: the word 'Out', and append onto it.
-/
import Derived.Test.YtpieckeaehninaaNum
import Derived.Test.YtpieckeaehninaaOf
import Derived.Deep.RegionLaw
import Derived.Deep.RegionHeld3
namespace Go.Proofs.Ytpieckeaehninaa
open Go.RowKit

/-- u is a slice of the call's own (its blocks lie from wb's on) that holds the bytes xs; what was there in wb is as it was -/
structure Out (wb w : World) (u : Value) (xs : List Int) : Prop where
  own : w.ownsRow wb.heap.size 5 1 u xs.length (u8s xs)
  bel : Below wb.heap.size wb w

section
variable {wb w w' : World} {u : Value} {xs : List Int}
theorem Out.drew (h : Out wb w u xs) : Out wb w.drew u xs := ⟨h.own, h.bel.drew⟩
theorem Out.drewN (h : Out wb w u xs) (n : Nat) : Out wb (w.drewN n) u xs := ⟨h.own, below_drewN h.bel n⟩
theorem Out.alloc (h : Out wb w u xs) (o : Obj) : Out wb (w.alloc o) u xs := ⟨h.own.alloc o, h.bel.alloc h.bel.size o⟩
theorem Out.lit (wb : World) (k : Int) : Out wb (wb.alloc (.cells #[.int .u8 k] 5)) (.slice (some ⟨wb.heap.size, 0, none⟩) 1 1) [k] :=
  ⟨World.ownsRow_lit (base := wb.heap.size) (e := 5) (size := 1) wb #[.int .u8 k] 1 (Nat.le_refl _) (by decide) rfl, (Below.refl _ _).alloc (Nat.le_refl _) _⟩
theorem Out.kept (h : Out wb w u xs) (hb : Below w.heap.size w w') : Out wb w' u xs := by
  refine ⟨h.own.kept (only_of_below hb none) ?_, h.bel.trans (hb.mono h.bel.size)⟩
  cases hu : u.ownBlock with
  | none => exact .inl rfl
  | some k => exact .inr (by simp)
theorem Out.grown (h : Out wb w u xs) {v' : Value} {ys : List Int} (hown : w'.ownsRow wb.heap.size 5 1 v' ys.length (u8s ys)) (hg : w.grownBy w' u.ownBlock) : Out wb w' v' ys :=
  ⟨hown, h.bel.grown hg h.bel.size (fun k hk => (h.own.lt k hk).1)⟩
theorem Out.reads {n c : Nat} {A : Option Addr} (h : Out wb w (.slice A n c) xs) : Reads w w.heap.size 1 A n (u8s xs) := by
  have hn : n = xs.length := by
    rcases h.own.2 with ⟨e, h0⟩ | ⟨g, cap, cur, e, _⟩
    · injection e with _ e2 _; omega
    · injection e
  subst hn
  exact Reads.of_own h.own
theorem Out.form (h : Out wb w u xs) : ∃ A c, u = .slice A xs.length c ∧ xs.length ≤ c := by
  rcases h.own.2 with ⟨rfl, h0⟩ | ⟨g, cap, cur, rfl, _, _, hc, _⟩
  · exact ⟨none, 0, by rw [h0], by omega⟩
  · exact ⟨_, cap, rfl, hc⟩
end

theorem ownsRow_lower {w : World} {base base' : Nat} {e : TypeId} {size n : Nat} {v : Value} {xs : List Value} (h : w.ownsRow base e size v n xs) (hle : base' ≤ base) : w.ownsRow base' e size v n xs := by
  refine ⟨h.1, h.2.imp id ?_⟩
  rintro ⟨g, cap, cur, hv, hb, hrest⟩
  exact ⟨g, cap, cur, hv, Nat.le_trans hle hb, hrest⟩
theorem Out.lower {w wb w' : World} {u : Value} {xs : List Int} (h : Out wb w' u xs) (hb : Below w.heap.size w wb) : Out w w' u xs :=
  ⟨ownsRow_lower h.own hb.size, hb.trans (h.bel.mono hb.size)⟩

theorem Reads.of_row {w : World} {base n : Nat} {u : Value} {xs : List Int} (h : w.ownsRow base 5 1 u n (u8s xs)) : ∃ A c, u = .slice A n c ∧ n ≤ c ∧ Reads w w.heap.size 1 A n (u8s xs) := by
  rcases h.2 with ⟨rfl, h0⟩ | ⟨g, cap, cur, rfl, _, _, hc, _⟩
  · subst h0
    have hx : u8s xs = [] := List.eq_nil_of_length_eq_zero (by simpa using h.1)
    exact ⟨none, 0, rfl, Nat.le_refl _, by rw [hx]; exact Reads.none_⟩
  · exact ⟨_, cap, rfl, hc, Reads.of_own h⟩

theorem wp_app {wb w : World} {o : Oper} {a : Act} {K : Act → World → Prop} {Q : Exit → Act → World → Prop} (s x : Operand)
    (ho : o.op = .call { callee := .builtin .append, args := #[s, x], argTypes := #[25, 25] })
    {u : Value} {xs ys : List Int} (hs : a.eval s = u) (out : Out wb w u xs) {B m c : Nat} {A : Option Addr} (hx : a.eval x = .slice A m c) (hr : Reads w B 1 A m (u8s ys))
    (hlen : xs.length + m ≤ 1000000)
    (h : ∀ v' w', Out wb w' v' (xs ++ ys) → w.grownBy w' u.ownBlock → K (a.put o.dst v') w') : o.wp Try.prog a w K Q := by
  obtain ⟨i0, hi, hz0, hz1, hz2⟩ := info_parts info5
  have hm : m = ys.length := by have := hr.1; rw [u8s_length] at this; omega
  refine wp_append_any w s x 25 ho wb.heap.size 5 i0 (.int .u8 0) 1 1 Try.underlying25 hi hz0 hz1 hz2 rfl (by decide) u xs.length (u8s xs) hs out.own B A m c (u8s ys) hx hr (u8s_one ys)
    (by unfold maxLen; omega) (by omega) out.bel.size ?_
  intro v' w' hown hg _
  refine h v' w' (out.grown (by rw [List.length_append, u8s_append, ← hm]; exact hown) hg) hg

theorem wpList_app {wb w : World} {ops : Array Oper} {rest : List Oper} {o : Oper} {a : Act} {Q : Exit → Act → World → Prop} (hgd : o.guard = none) (s x : Operand)
    (ho : o.op = .call { callee := .builtin .append, args := #[s, x], argTypes := #[25, 25] })
    {u : Value} {xs ys : List Int} (hs : a.eval s = u) (out : Out wb w u xs) {B m c : Nat} {A : Option Addr} (hx : a.eval x = .slice A m c) (hr : Reads w B 1 A m (u8s ys))
    (hlen : xs.length + m ≤ 1000000)
    (h : ∀ v' w', Out wb w' v' (xs ++ ys) → w.grownBy w' u.ownBlock → wpList Try.prog ops Q rest (a.put o.dst v') w') : wpList Try.prog ops Q (o :: rest) a w :=
  wpList_plain hgd fun _ hK => wp_app s x ho hs out hx hr hlen fun v' w' h2 h3 => hK _ _ (h v' w' h2 h3)

theorem step_app {wb w : World} {ops : Array Oper} {o : Oper} {a : Act} {K : Act → World → Prop} {Q : Exit → Act → World → Prop} {E : Prop} (hgd : o.guard = none) (s x : Operand)
    (ho : o.op = .call { callee := .builtin .append, args := #[s, x], argTypes := #[25, 25] })
    {u : Value} {xs ys : List Int} (hs : a.eval s = u) (out : Out wb w u xs) {B m c : Nat} {A : Option Addr} (hx : a.eval x = .slice A m c) (hr : Reads w B 1 A m (u8s ys))
    (hlen : xs.length + m ≤ 1000000)
    (h : ∀ v' w', Out wb w' v' (xs ++ ys) → w.grownBy w' u.ownBlock → K (a.put o.dst v') w') : if Region.wanted o (yielded ops a.tmps) = true then Oper.wp Try.prog o a w K Q else E := by
  have hw : Region.wanted o (yielded ops a.tmps) = true := by simp [Region.wanted, hgd]
  rw [if_pos hw]
  exact wp_app s x ho hs out hx hr hlen h

/-- the eight bytes of an address -/
def Txn.fs (t : Txn) : List Int := [t.f0, t.f1, t.f2, t.f3, t.f4, t.f5, t.f6, t.f7]
def Txn.ts (t : Txn) : List Int := [t.t0, t.t1, t.t2, t.t3, t.t4, t.t5, t.t6, t.t7]
/-- the bytes ahead of the data -/
def Txn.head (t : Txn) : List Int := [t.k] ++ t.fs ++ t.ts
def Txn.bytes (t : Txn) (d : List Int) : List Int := t.head ++ bes t.n 8 ++ bes t.v 8 ++ bes t.g 8 ++ bes t.p 8 ++ bes t.len 4 ++ d

/-- a boxed transaction's cells, block g -/
def Boxed (w : World) (g : Nat) (t : Txn) : Prop := Blk w g 27 t.cells
theorem Boxed.fs {w : World} {g : Nat} {t : Txn} (h : Boxed w g t) {B : Nat} (hB : g < B) : Reads w B 1 (some ⟨g, 1, none⟩) 8 (u8s t.fs) := by
  refine ⟨rfl, fun _ => ⟨_, rfl, hB, fun j u hu => ?_⟩⟩
  have hj : j < 8 := by
    rcases Nat.lt_or_ge j 8 with hj | hj
    · exact hj
    · rw [List.getElem?_eq_none (by simp [u8s, Txn.fs]; omega)] at hu; cases hu
  have hc := fun i => Blk.cell h i
  match j, hj with
  | 0, _ | 1, _ | 2, _ | 3, _ | 4, _ | 5, _ | 6, _ | 7, _ => exact (hc _).trans hu
theorem Boxed.ts {w : World} {g : Nat} {t : Txn} (h : Boxed w g t) {B : Nat} (hB : g < B) : Reads w B 1 (some ⟨g, 9, none⟩) 8 (u8s t.ts) := by
  refine ⟨rfl, fun _ => ⟨_, rfl, hB, fun j u hu => ?_⟩⟩
  have hj : j < 8 := by
    rcases Nat.lt_or_ge j 8 with hj | hj
    · exact hj
    · rw [List.getElem?_eq_none (by simp [u8s, Txn.ts]; omega)] at hu; cases hu
  have hc := fun i => Blk.cell h i
  match j, hj with
  | 0, _ | 1, _ | 2, _ | 3, _ | 4, _ | 5, _ | 6, _ | 7, _ => exact (hc _).trans hu

theorem at_dst {P : Program} {ops : Array Oper} {rest : List Oper} {o : Oper} {a : Act} {w : World} {Q : Exit → Act → World → Prop} (N : Nat) (_h : o.dst = some N)
    (h : wpList P ops Q (o :: rest) a w) : wpList P ops Q (o :: rest) a w := h

theorem at_none {P : Program} {ops : Array Oper} {rest : List Oper} {o : Oper} {a : Act} {w : World} {Q : Exit → Act → World → Prop} (_h : o.dst = none)
    (h : wpList P ops Q (o :: rest) a w) : wpList P ops Q (o :: rest) a w := h

theorem wpList_loadTx {w : World} {ops : Array Oper} {rest : List Oper} {o : Oper} {a : Act} {Q : Exit → Act → World → Prop} (hgd : o.guard = none) (x : Operand) (ho : o.op = .load 27 x)
    (g : Nat) (hx : a.eval x = .pointer (some ⟨g, 0, none⟩)) (t : Txn) (hb : Boxed w g t) (h : wpList Try.prog ops Q rest (a.put o.dst (.agg t.cells)) w) : wpList Try.prog ops Q (o :: rest) a w :=
  wpList_load_row hgd 27 x ho g hx 27 t.cells (0, 0) _ hb Try.underlying27 rfl (by kernel_rfl) h

theorem Boxed.new (w : World) (t : Txn) : Boxed (w.alloc (.cells t.cells 27)) w.heap.size t := Blk.new w 27 t.cells

end Go.Proofs.Ytpieckeaehninaa
