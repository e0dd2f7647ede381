/-
  Maps whose keys are arrays of bytes: what a look-up, a store, a deletion, a range over them does, entry by entry; no condition but that the keys are bytes.
-/
import Derived.Maps.OwnOps
import Derived.Maps.RangeWalk
import Derived.DeepKeys4
import Derived.RangeFuncSeq
import Derived.Maps.OwnIn
import Derived.WalkKit
namespace Go.Proofs.YtcoagfnkcbfbaaaGreatDoor
open Go.RowKit
open Go.Maps (Keyed)
open Go.ChangeMaps (setBlock)

def u8s (l : List Int) : List Value := l.map (Value.int .u8)
def arr (l : List Int) : Value := .agg (u8s l).toArray
def Okb (l : List Int) : Prop := ∀ x ∈ l, 0 ≤ x ∧ x ≤ 255

theorem u8s_inj : ∀ {x y : List Int}, u8s x = u8s y → x = y
  | [], [], _ => rfl
  | [], _ :: _, h => by simp [u8s] at h
  | _ :: _, [], h => by simp [u8s] at h
  | a :: x, b :: y, h => by
    simp only [u8s, List.map_cons, List.cons.injEq, Value.int.injEq, true_and] at h
    rw [h.1, u8s_inj h.2]
theorem arr_inj {x y : List Int} (h : arr x = arr y) : x = y := by
  unfold arr at h
  injection h with h
  exact u8s_inj (by simpa using congrArg Array.toList h)

/-- the keys of type t are arrays of n bytes -/
structure KeyArr (P : Program) (t : TypeId) (n : Nat) : Prop where
  K : Keyed P t
  has : ∀ x : List Int, x.length = n → Okb x → ∃ L, keyOf P t (arr x) = some L

theorem mapM_all {α β : Type} {f : α → Option β} : ∀ {l : List α}, (∀ a ∈ l, ∃ b, f a = some b) → ∃ bs, l.mapM f = some bs
  | [], _ => ⟨[], rfl⟩
  | a :: l, h => by
    obtain ⟨b, hb⟩ := h a (by simp)
    obtain ⟨bs, hbs⟩ := mapM_all (l := l) fun c hc => h c (by simp [hc])
    exact ⟨b :: bs, by simp [List.mapM_cons, hb, hbs]⟩

theorem KeyArr.of {P : Program} {t e : TypeId} {n : Nat} (K : Go.Maps.Keyed P t) (ht : P.underlying t = some (.array n e)) (he : P.underlying e = some (.int .u8)) (hce : P.cellsOf e = 1) (hct : P.cellsOf t = n)
    (hk : P.keyType t = true) (hs : 1 ≤ P.types.size) : KeyArr P t n where
  K := K
  has x hx ho := by
    unfold keyOf
    rw [ht]
    have hf : (arr x).formed P t = true := by simp [arr, Value.formed, ht, u8s, hct, hx]
    simp only [hk, hf, Bool.and_self, if_true]
    obtain ⟨d, hd⟩ : ∃ d, P.types.size = d + 1 := ⟨P.types.size - 1, by omega⟩
    rw [hd]
    conv => enter [1, L, 1, 2]; unfold Program.keyLits
    simp only [ht]
    have hl : (arr x).cells.toList = u8s x := by simp [arr, Value.cells]
    rw [hl]
    have hlen : (u8s x).length = P.cellsOf t := by simp [u8s, hct, hx]
    simp only [hlen, if_true, hce, Nat.mul_one]
    obtain ⟨bs, hbs⟩ := mapM_all (f := fun i => P.keyLits (d + 1) e (((u8s x).drop i).take 1)) (l := List.range n) (by
      intro i hi
      have hi' : i < x.length := by rw [hx]; simpa using hi
      have hd1 : ((u8s x).drop i).take 1 = [.int .u8 x[i]] := by
        rw [List.drop_eq_getElem_cons (by simpa [u8s] using hi')]
        simp [u8s]
      have := ho x[i] (List.getElem_mem hi')
      refine ⟨[.int .u8 x[i]], ?_⟩
      rw [hd1]
      unfold Program.keyLits
      simp [he, Lit.wf, IntKind.min, IntKind.max, IntKind.signed, IntKind.bits, this])
    rw [hbs]
    exact ⟨_, rfl⟩

abbrev Es := List (List Int × Value)
def Es.get (l : Es) (k : List Int) : Option Value := (l.find? (fun x => x.1 == k)).map (·.2)
def Es.put : Es → List Int → Value → Es
  | [], k, v => [(k, v)]
  | x :: r, k, v => if x.1 = k then (k, v) :: r else x :: Es.put r k v
def Es.del (l : Es) (k : List Int) : Es := l.filter (fun x => !(x.1 == k))

structure Ents (n : Nat) (es : Array MapEntry) (clock : Nat) (l : Es) : Prop where
  same : es.toList.map (fun e => (e.key, e.val)) = l.map (fun x => (arr x.1, x.2))
  born : ∀ e ∈ es.toList, e.born < clock
  once : (es.toList.map (·.born)).Nodup
  keys : (l.map (·.1)).Nodup
  good : ∀ x ∈ l, x.1.length = n ∧ Okb x.1

theorem Es.get_none {l : Es} {k : List Int} (h : ∀ y ∈ l, y.1 ≠ k) : l.get k = none := by
  unfold Es.get
  rw [List.find?_eq_none.2 (by intro y hy; simpa using h y hy)]
  rfl
theorem Es.get_mem {l : Es} {k : List Int} {v : Value} (hn : (l.map (·.1)).Nodup) (h : (k, v) ∈ l) : l.get k = some v := by
  induction l with
  | nil => cases h
  | cons y r ih =>
    simp only [List.map_cons, List.nodup_cons, List.mem_map, not_exists, not_and] at hn
    unfold Es.get
    rw [List.find?_cons]
    by_cases e : y.1 = k
    · rcases List.mem_cons.1 h with h | h
      · subst h; simp
      · exact absurd e.symm (hn.1 _ h)
    · have : (y.1 == k) = false := by simpa using e
      rw [this]
      rcases List.mem_cons.1 h with h | h
      · subst h; exact absurd rfl e
      · exact ih hn.2 h

theorem Es.put_none : ∀ {l : Es} {k : List Int} {v : Value}, (∀ y ∈ l, y.1 ≠ k) → l.put k v = l ++ [(k, v)]
  | [], _, _, _ => rfl
  | x :: r, k, v, h => by
    rw [Es.put, if_neg (h x (by simp)), Es.put_none (fun y hy => h y (by simp [hy]))]
    rfl
theorem Es.put_at : ∀ {l : Es} {k : List Int} {v u : Value} {j : Nat}, (l.map (·.1)).Nodup → l[j]? = some (k, u) → l.put k v = l.set j (k, v)
  | [], _, _, _, _, _, h => by simp at h
  | x :: r, k, v, u, 0, _, h => by
    simp at h
    subst h
    simp [Es.put]
  | x :: r, k, v, u, j + 1, hn, h => by
    simp only [List.map_cons, List.nodup_cons, List.mem_map, not_exists, not_and] at hn
    simp at h
    have : x.1 ≠ k := fun e => hn.1 _ (List.mem_of_getElem? h) e.symm
    rw [Es.put, if_neg this, Es.put_at hn.2 h]
    rfl
theorem Es.put_keys : ∀ {l : Es} {k : List Int} {v : Value} {y : List Int}, y ∈ (l.put k v).map (·.1) → y = k ∨ y ∈ l.map (·.1)
  | [], k, v, y, h => by simp [Es.put] at h; exact .inl h
  | x :: r, k, v, y, h => by
    rw [Es.put] at h
    split at h
    · rename_i e
      simp only [List.map_cons, List.mem_cons] at h ⊢
      rcases h with h | h
      · exact .inl h
      · exact .inr (.inr h)
    · simp only [List.map_cons, List.mem_cons] at h ⊢
      rcases h with h | h
      · exact .inr (.inl h)
      · rcases Es.put_keys h with h | h
        · exact .inl h
        · exact .inr (.inr h)
theorem Es.put_nodup : ∀ {l : Es} {k : List Int} {v : Value}, (l.map (·.1)).Nodup → ((l.put k v).map (·.1)).Nodup
  | [], _, _, _ => by simp [Es.put]
  | x :: r, k, v, h => by
    simp only [List.map_cons, List.nodup_cons] at h
    rw [Es.put]
    split
    · rename_i e
      subst e
      simpa using h
    · rename_i e
      simp only [List.map_cons, List.nodup_cons]
      exact ⟨fun hm => by
        rcases Es.put_keys hm with hm | hm
        · exact e hm
        · exact h.1 hm, Es.put_nodup h.2⟩
theorem Es.put_good {n : Nat} {l : Es} {k : List Int} {v : Value} (h : ∀ x ∈ l, x.1.length = n ∧ Okb x.1) (hk : k.length = n) (ho : Okb k) : ∀ x ∈ l.put k v, x.1.length = n ∧ Okb x.1 := by
  intro x hx
  rcases Es.put_keys (List.mem_map_of_mem hx) with e | e
  · rw [e]; exact ⟨hk, ho⟩
  · obtain ⟨y, hy, e⟩ := List.mem_map.1 e
    rw [← e]; exact h y hy

section
variable {P : Program} {t k e ty : TypeId} {n b : Nat} {es : Array MapEntry} {clock : Nat} {l : Es} {w : World}

theorem Ents.mem (E : Ents n es clock l) {x : MapEntry} (h : x ∈ es.toList) : ∃ y ∈ l, x.key = arr y.1 ∧ x.val = y.2 := by
  have : (x.key, x.val) ∈ es.toList.map (fun e => (e.key, e.val)) := List.mem_map.2 ⟨x, h, rfl⟩
  rw [E.same] at this
  obtain ⟨y, hy, e⟩ := List.mem_map.1 this
  simp only [Prod.mk.injEq] at e
  exact ⟨y, hy, e.1.symm, e.2.symm⟩
theorem Ents.mem' (E : Ents n es clock l) {y : List Int × Value} (h : y ∈ l) : ∃ x ∈ es.toList, x.key = arr y.1 ∧ x.val = y.2 := by
  have : (arr y.1, y.2) ∈ l.map (fun x => (arr x.1, x.2)) := List.mem_map.2 ⟨y, h, rfl⟩
  rw [← E.same] at this
  obtain ⟨x, hx, e⟩ := List.mem_map.1 this
  simp only [Prod.mk.injEq] at e
  exact ⟨x, hx, e.1, e.2⟩
theorem Ents.len (E : Ents n es clock l) : es.toList.length = l.length := by
  have := congrArg List.length E.same
  simpa using this
theorem Ents.at_ (E : Ents n es clock l) {j : Nat} {x : MapEntry} (h : es.toList[j]? = some x) : ∃ y, l[j]? = some y ∧ x.key = arr y.1 ∧ x.val = y.2 := by
  have : (es.toList.map (fun e => (e.key, e.val)))[j]? = some (x.key, x.val) := by simp [List.getElem?_map, h]
  rw [E.same, List.getElem?_map, Option.map_eq_some_iff] at this
  obtain ⟨y, hy, e⟩ := this
  simp only [Prod.mk.injEq] at e
  exact ⟨y, hy, e.1.symm, e.2.symm⟩

theorem Ents.find (A : KeyArr P k n) (E : Ents n es clock l) {x : List Int} (hx : x.length = n) (ho : Okb x) (w : World) :
    (l.get x = none ∧ (∀ y ∈ l, y.1 ≠ x) ∧ (∀ y ∈ es.toList, y.key ≠ arr x) ∧ (Instr.findKey k (arr x) es.toList).run P w = .ok none w) ∨
    ∃ j v, l[j]? = some (x, v) ∧ l.get x = some v ∧ (Instr.findKey k (arr x) es.toList).run P w = .ok (some (j, v)) w := by
  obtain ⟨L, hL⟩ := A.has x hx ho
  rcases A.K.find w hL es.toList (fun e he => by
    obtain ⟨y, hy, e1, _⟩ := E.mem he
    rw [e1]
    exact A.has _ (E.good y hy).1 (E.good y hy).2) with ⟨h1, h2⟩ | ⟨j, e, h1, h2, h3⟩
  · have hne : ∀ y ∈ l, y.1 ≠ x := fun y hy e => by
      obtain ⟨z, hz, e1, _⟩ := E.mem' hy
      exact h2 z hz (by rw [e1, e])
    exact .inl ⟨Es.get_none hne, hne, h2, h1⟩
  · obtain ⟨y, hy, e1, e2⟩ := E.at_ h2
    have : y.1 = x := arr_inj (by rw [← e1, h3])
    obtain rfl : y = (x, e.val) := by rw [← this, e2]
    exact .inr ⟨j, e.val, hy, Es.get_mem E.keys (List.mem_of_getElem? hy), h1⟩

theorem run_lookup_arr (A : KeyArr P k n) (ht : P.underlying t = some (.map k e)) (hb : w.heap[b]? = some (.map es clock)) (E : Ents n es clock l) {z : Value} (hz : (zeroValue e).run P w = .ok z w)
    {x : List Int} (hx : x.length = n) (ho : Okb x) (c : Bool) :
    (Instr.lookup t (.map (some b)) (arr x) c).run P w = .ok (if c then .tuple #[(l.get x).getD z, .bool (l.get x).isSome] else (l.get x).getD z) w := by
  obtain ⟨L, hL⟩ := A.has x hx ho
  rcases E.find A hx ho w with ⟨h0, _, _, h1⟩ | ⟨j, v, _, h0, h1⟩
  · simp [Instr.lookup, run_underlying ht, MapKept.run_getObj_map hb, A.K.check w _ hL, h1, hz, Result.andThen, h0]
  · simp [Instr.lookup, run_underlying ht, MapKept.run_getObj_map hb, A.K.check w _ hL, h1, Result.andThen, h0]

theorem run_update_arr (A : KeyArr P k n) (ht : P.underlying t = some (.map k e)) (hb : w.heap[b]? = some (.map es clock)) (E : Ents n es clock l)
    {x : List Int} (hx : x.length = n) (ho : Okb x) (v : Value) :
    ∃ es' clock', (Instr.mapUpdate t (.map (some b)) (arr x) v).run P w = .ok () (setBlock w b (.map es' clock')) ∧ Ents n es' clock' (l.put x v) := by
  obtain ⟨L, hL⟩ := A.has x hx ho
  rcases E.find A hx ho w with ⟨h0, hne, hne', h1⟩ | ⟨j, u, hj, h0, h1⟩
  · refine ⟨es.push ⟨arr x, v, clock⟩, clock + 1, ?_, ?_⟩
    · simp [Instr.mapUpdate, run_underlying ht, MapKept.run_getObj_map hb, A.K.check w false hL, h1, MapKept.run_setObj_map _ hb, Result.andThen, setBlock]
    · refine ⟨?_, ?_, ?_, Es.put_nodup E.keys, Es.put_good E.good hx ho⟩
      · rw [Es.put_none hne, Array.toList_push, List.map_append, List.map_append, E.same]
        rfl
      · intro y hy
        simp only [Array.toList_push, List.mem_append, List.mem_singleton] at hy
        rcases hy with hy | rfl
        · exact Nat.lt_succ_of_lt (E.born y hy)
        · exact Nat.lt_succ_self _
      · rw [Array.toList_push, List.map_append, List.map_singleton, List.nodup_append]
        refine ⟨E.once, by simp, fun a ha c hc => ?_⟩
        obtain ⟨y, hy, rfl⟩ := List.mem_map.1 ha
        simp at hc
        subst hc
        have := E.born y hy
        omega
  · obtain ⟨e0, he0, hk0⟩ : ∃ e0, es.toList[j]? = some e0 ∧ e0.key = arr x := by
      have hl : j < es.toList.length := by rw [E.len]; exact (List.getElem?_eq_some_iff.1 hj).1
      obtain ⟨y, hy, e1, _⟩ := E.at_ (List.getElem?_eq_getElem hl)
      rw [hj] at hy
      cases hy
      exact ⟨_, List.getElem?_eq_getElem hl, e1⟩
    have hj' : es[j]? = some e0 := by simpa using he0
    have hlist : (es.modify j (fun e' => { e' with key := arr x, val := v })).toList = es.toList.set j { e0 with key := arr x, val := v } := by rw [Array.toList_modify, ChangeMaps.modify_eq_set _ _ _ _ he0]
    refine ⟨es.modify j (fun e' => { e' with key := arr x, val := v }), clock, ?_, ?_⟩
    · simp [Instr.mapUpdate, run_underlying ht, MapKept.run_getObj_map hb, A.K.check w false hL, h1, MapKept.run_setObj_map _ hb, Result.andThen, setBlock, hj', hk0, A.K.stays w hL]
    · refine ⟨?_, ?_, ?_, Es.put_nodup E.keys, Es.put_good E.good hx ho⟩
      · rw [hlist, Es.put_at E.keys hj, List.map_set, List.map_set, E.same]
      · intro y hy
        rw [hlist] at hy
        rcases List.mem_or_eq_of_mem_set hy with hy | rfl
        · exact E.born y hy
        · exact E.born e0 (List.mem_of_getElem? he0)
      · have : (es.toList.set j { e0 with key := arr x, val := v }).map (·.born) = es.toList.map (·.born) := by
          rw [List.map_set]
          apply List.ext_getElem?
          intro i
          rw [List.getElem?_set]
          split
          · rename_i e
            subst e
            have hlt := (List.getElem?_eq_some_iff.1 he0).1
            simp at hlt
            have hb' : es[j].born = e0.born := by
              have := (Array.getElem?_eq_some_iff.1 hj').2
              rw [this]
            simp [hlt, hb']
          · rfl
        rw [hlist, this]
        exact E.once

theorem run_delete_arr (A : KeyArr P k n) (ht : P.underlying t = some (.map k e)) (hb : w.heap[b]? = some (.map es clock)) (E : Ents n es clock l)
    {x : List Int} (hx : x.length = n) (ho : Okb x) :
    ∃ es', (Builtin.delete_ #[t, k] ty #[.map (some b), arr x]).run P w = .ok (.tuple #[]) (setBlock w b (.map es' clock)) ∧ Ents n es' clock (l.del x) := by
  obtain ⟨L, hL⟩ := A.has x hx ho
  rcases E.find A hx ho w with ⟨h0, hne, hne', h1⟩ | ⟨j, u, hj, h0, h1⟩
  · refine ⟨es, ?_, ?_⟩
    · simp [Builtin.delete_, run_underlying ht, MapKept.run_getObj_map hb, A.K.check w _ hL, h1, MapKept.run_setObj_map _ hb, Result.andThen, setBlock]
    · have : l.del x = l := List.filter_eq_self.2 (fun y hy => by simpa using hne y hy)
      rw [this]
      exact E
  · have hl : j < es.toList.length := by rw [E.len]; exact (List.getElem?_eq_some_iff.1 hj).1
    have hjs : j < es.size := by simpa using hl
    have hsub : (es.eraseIdxIfInBounds j).toList = es.toList.eraseIdx j := by
      unfold Array.eraseIdxIfInBounds
      rw [dif_pos hjs]
      simp
    have hdel : l.del x = l.eraseIdx j := by
      clear h0 h1 hsub hjs hl hb
      have hk := E.keys
      clear E
      induction l generalizing j with
      | nil => simp at hj
      | cons y r ih =>
        simp only [List.map_cons, List.nodup_cons, List.mem_map, not_exists, not_and] at hk
        cases j with
        | zero =>
          simp at hj
          subst hj
          simp only [Es.del, List.filter_cons, beq_self_eq_true, Bool.not_true, Bool.false_eq_true, if_false, List.eraseIdx_cons_zero]
          exact List.filter_eq_self.2 (fun z hz => by simpa using hk.1 z hz)
        | succ j =>
          simp at hj
          have hne : y.1 ≠ x := fun e => hk.1 _ (List.mem_of_getElem? hj) e.symm
          have : (y.1 == x) = false := by simpa using hne
          simp only [Es.del, List.filter_cons, this, Bool.not_false, if_true, List.eraseIdx_cons_succ]
          rw [← ih _ hj hk.2]
          rfl
    refine ⟨es.eraseIdxIfInBounds j, ?_, ?_⟩
    · simp [Builtin.delete_, run_underlying ht, MapKept.run_getObj_map hb, A.K.check w _ hL, h1, MapKept.run_setObj_map _ hb, Result.andThen, setBlock]
    · refine ⟨?_, ?_, ?_, ?_, ?_⟩
      · rw [hsub, hdel, ChangeMaps.map_eraseIdx, ChangeMaps.map_eraseIdx, E.same]
      · intro y hy
        rw [hsub] at hy
        exact E.born y ((List.eraseIdx_sublist _ _).subset hy)
      · rw [hsub]
        exact E.once.sublist ((List.eraseIdx_sublist _ _).map _)
      · exact E.keys.sublist ((List.filter_sublist).map _)
      · exact fun y hy => E.good y (List.mem_filter.1 hy).1

/-! ### a range over such a map -/

theorem perm_of_same {α : Type} : ∀ {l m : List α}, l.Nodup → m.Nodup → (∀ a, a ∈ l ↔ a ∈ m) → l.Perm m
  | [], m, _, _, h => by
    cases m with
    | nil => exact List.Perm.refl _
    | cons b r => exact absurd ((h b).2 (by simp)) (by simp)
  | a :: l, m, hl, hm, h => by
    obtain ⟨s, r, rfl⟩ := List.append_of_mem ((h a).1 (by simp))
    have hl' := List.nodup_cons.1 hl
    have hp : (s ++ a :: r).Perm (a :: (s ++ r)) := List.perm_middle
    have hm' := List.nodup_cons.1 (hp.nodup_iff.1 hm)
    refine ((perm_of_same hl'.2 hm'.2 fun b => ?_).cons a).trans hp.symm
    constructor
    · intro hb
      have := hp.mem_iff.1 ((h b).1 (by simp [hb]))
      rcases List.mem_cons.1 this with e | e
      · subst e; exact absurd hb hl'.1
      · exact e
    · intro hb
      have := (h b).2 (hp.mem_iff.2 (by simp [hb]))
      rcases List.mem_cons.1 this with e | e
      · subst e; exact absurd hb hm'.1
      · exact e

theorem nodup_of_map {α β : Type} (f : α → β) : ∀ {l : List α}, (l.map f).Nodup → l.Nodup
  | [], _ => List.nodup_nil
  | a :: l, h => by
    simp only [List.map_cons, List.nodup_cons] at h
    exact List.nodup_cons.2 ⟨fun hm => h.1 (List.mem_map_of_mem hm), nodup_of_map f h.2⟩
theorem length_of_nodup_sub {α : Type} : ∀ {l m : List α}, l.Nodup → (∀ a ∈ l, a ∈ m) → l.length ≤ m.length
  | [], _, _, _ => by simp
  | a :: l, m, hl, h => by
    obtain ⟨s, r, rfl⟩ := List.append_of_mem (h a (by simp))
    have hl' := List.nodup_cons.1 hl
    have := length_of_nodup_sub (m := s ++ r) hl'.2 fun b hb => by
      have := h b (by simp [hb])
      simp only [List.mem_append, List.mem_cons] at this ⊢
      rcases this with e | e | e
      · exact .inl e
      · subst e; exact absurd hb hl'.1
      · exact .inr e
    simp only [List.length_append, List.length_cons] at this ⊢
    omega
theorem index_of_nodup {α : Type} : ∀ {l : List α}, l.Nodup → ∀ {i j : Nat} {a : α}, l[i]? = some a → l[j]? = some a → i = j
  | [], _, _, _, _, h, _ => by simp at h
  | b :: l, hn, i, j, a, hi, hj => by
    have hn' := List.nodup_cons.1 hn
    cases i with
    | zero =>
      simp at hi
      subst hi
      cases j with
      | zero => rfl
      | succ j => simp at hj; exact absurd (List.mem_of_getElem? hj) hn'.1
    | succ i =>
      simp at hi
      cases j with
      | zero => simp at hj; subst hj; exact absurd (List.mem_of_getElem? hi) hn'.1
      | succ j => simp at hj; rw [index_of_nodup hn'.2 hi hj]
theorem setBlock_same {w : World} {r : Nat} {o : Obj} (h : w.heap[r]? = some o) (o' : Obj) : (setBlock w r o').heap[r]? = some o' := by
  have := (Array.getElem?_eq_some_iff.1 h).1
  simp [setBlock, this]
theorem setBlock_other {w : World} {r i : Nat} (o' : Obj) (h : i ≠ r) : (setBlock w r o').heap[i]? = w.heap[i]? := by
  simp only [setBlock]
  rw [Array.getElem?_setIfInBounds_ne (Ne.symm h)]

/-- what a range over a map has handed out: the entries vis, which read as ys -/
structure Walks (w : World) (b r : Nat) (es : Array MapEntry) (clock : Nat) (l : Es) (ys : Es) : Prop where
  map_ : w.heap[b]? = some (.map es clock)
  it : ∃ (seen : Array Nat) (c0 : Nat) (vis : List MapEntry), w.heap[r]? = some (.mapIter (some b) clock seen c0) ∧ clock ≤ c0 ∧ seen.toList = vis.map (·.born) ∧
    (∀ v ∈ vis, v ∈ es.toList) ∧ vis.map (fun e => (e.key, e.val)) = ys.map (fun x => (arr x.1, x.2))
  once : (ys.map (·.1)).Nodup
  sub : ∀ y ∈ ys, y ∈ l

theorem Walks.ne {r : Nat} {ys : Es} (h : Walks w b r es clock l ys) : r ≠ b := by
  rintro rfl
  obtain ⟨seen, c0, vis, hr, _⟩ := h.it
  rw [h.map_] at hr
  cases hr
theorem Walks.lt {r : Nat} {ys : Es} (h : Walks w b r es clock l ys) : r < w.heap.size := by
  obtain ⟨seen, c0, vis, hr, _⟩ := h.it
  exact (Array.getElem?_eq_some_iff.1 hr).1
theorem Walks.ltb {r : Nat} {ys : Es} (h : Walks w b r es clock l ys) : b < w.heap.size := (Array.getElem?_eq_some_iff.1 h.map_).1
theorem Walks.kept {r : Nat} {ys : Es} {w' : World} {row : Option Nat} (h : Walks w b r es clock l ys) (hg : w.grownBy w' row) (hb : some b ≠ row) (hr : some r ≠ row) : Walks w' b r es clock l ys := by
  obtain ⟨seen, c0, vis, h1, h2⟩ := h.it
  exact ⟨(hg.block b h.ltb hb).trans h.map_, ⟨seen, c0, vis, (hg.block r h.lt hr).trans h1, h2⟩, h.once, h.sub⟩
theorem Walks.walks {r : Nat} {ys : Es} {w' : World} (h : Walks w b r es clock l ys) (hk : KeepsWalks w w') : Walks w' b r es clock l ys := by
  obtain ⟨seen, c0, vis, h1, h2⟩ := h.it
  exact ⟨hk.same b _ h.map_ rfl, ⟨seen, c0, vis, hk.same r _ h1 rfl, h2⟩, h.once, h.sub⟩
theorem Walks.len {r : Nat} {ys : Es} (h : Walks w b r es clock l ys) : ys.length ≤ l.length := by
  exact length_of_nodup_sub (nodup_of_map _ h.once) h.sub

theorem run_range_arr (ht : P.underlying t = some (.map k e)) (hb : w.heap[b]? = some (.map es clock)) :
    (Instr.range t (.map (some b))).run P w = .ok (.pointer (some ⟨w.heap.size, 0, none⟩)) (w.alloc (.mapIter (some b) clock #[] clock)) := run_range_map w t k e b es clock ht hb

theorem Walks.start (hb : w.heap[b]? = some (.map es clock)) : Walks (w.alloc (.mapIter (some b) clock #[] clock)) b w.heap.size es clock l [] :=
  ⟨((MapKept.heap_alloc w _).2 b (Array.getElem?_eq_some_iff.1 hb).1).trans hb, ⟨#[], clock, [], (MapKept.heap_alloc w _).1, Nat.le_refl _, rfl, by simp, rfl⟩, by simp, by simp⟩

theorem Walks.next {r : Nat} {ys : Es} (E : Ents n es clock l) (h : Walks w b r es clock l ys) (ty : TypeId) :
    (ys.Perm l ∧ (Instr.next (.pointer (some ⟨r, 0, none⟩)) false ty).run P w = .ok (.tuple #[.bool false]) w) ∨
    ∃ y w', y ∈ l ∧ (Instr.next (.pointer (some ⟨r, 0, none⟩)) false ty).run P w = .ok (.tuple #[.bool true, arr y.1, y.2]) w' ∧ Walks w' b r es clock l (ys ++ [y]) ∧ ys.length < l.length ∧ w.grownBy w' (some r) ∧ w'.heap.size = w.heap.size ∧
      (Instr.entry (.pointer (some ⟨r, 0, none⟩))).run P w' = .ok (.tuple #[arr y.1, y.2]) w' := by
  obtain ⟨seen, c0, vis, hr, hc0, hseen, hvis, hys⟩ := h.it
  have hdec : ∀ {v : MapEntry} {y : List Int × Value}, v ∈ es.toList → v.key = arr y.1 → y ∈ l → v.val = y.2 := by
    intro v y hv hk hy
    obtain ⟨z, hz, e1, e2⟩ := E.mem hv
    have : z.1 = y.1 := arr_inj (by rw [← e1, hk])
    have e3 : l.get y.1 = some z.2 := Es.get_mem E.keys (by rw [← this]; exact hz)
    have e4 : l.get y.1 = some y.2 := Es.get_mem E.keys hy
    rw [e3] at e4
    rw [e2]
    exact Option.some.inj e4
  rcases run_next_at w ty r b clock c0 seen es clock hr h.map_ E.born hc0 with ⟨h0, hrun⟩ | ⟨v, hv, w1, hw1, hrun⟩
  · refine .inl ⟨?_, hrun⟩
    have hall : ∀ v ∈ es.toList, v ∈ vis := by
      intro v hv
      have : (leftOf es seen) = #[] := Array.eq_empty_of_size_eq_zero h0
      unfold leftOf at this
      rw [Array.filter_eq_empty_iff] at this
      have := this v (by simpa using hv)
      simp at this
      have : v.born ∈ seen.toList := by simpa using this
      rw [hseen] at this
      obtain ⟨u, hu, e⟩ := List.mem_map.1 this
      have : u = v := by
        have hu' := hvis u hu
        have f1 := find_born v es.toList E.once hv
        have f2 := find_born u es.toList E.once hu'
        rw [e, f1] at f2
        exact (Option.some.inj f2).symm
      rw [← this]; exact hu
    refine perm_of_same (nodup_of_map _ h.once) (nodup_of_map _ E.keys) fun y => ⟨h.sub y, fun hy => ?_⟩
    obtain ⟨v, hv, e1, e2⟩ := E.mem' hy
    have : (v.key, v.val) ∈ vis.map (fun e => (e.key, e.val)) := List.mem_map.2 ⟨v, hall v hv, rfl⟩
    rw [hys] at this
    obtain ⟨z, hz, e⟩ := List.mem_map.1 this
    simp only [Prod.mk.injEq] at e
    have : z = y := by
      have q1 : z.1 = y.1 := arr_inj (by rw [e.1, e1])
      have q2 : z.2 = y.2 := by rw [e.2, e2]
      cases z; cases y; simp_all
    rw [← this]; exact hz
  · have hvm : v ∈ es.toList ∧ v.born ∉ seen.toList := by
      unfold leftOf at hv
      simp at hv
      exact ⟨by simpa using hv.1, by simpa using hv.2⟩
    obtain ⟨y, hy, e1, e2⟩ := E.mem hvm.1
    have hw1' : w1.heap = w.heap := by rcases hw1 with rfl | rfl <;> rfl
    have hr1 : w1.heap[r]? = some (.mapIter (some b) clock seen c0) := by rw [hw1']; exact hr
    have hb1 : w1.heap[b]? = some (.map es clock) := by rw [hw1']; exact h.map_
    have hnew : y.1 ∉ ys.map (·.1) := by
      intro hm
      obtain ⟨z, hz, e⟩ := List.mem_map.1 hm
      have : (arr z.1, z.2) ∈ ys.map (fun x => (arr x.1, x.2)) := List.mem_map.2 ⟨z, hz, rfl⟩
      rw [← hys] at this
      obtain ⟨u, hu, eu⟩ := List.mem_map.1 this
      simp only [Prod.mk.injEq] at eu
      have huv : u.key = v.key := by rw [eu.1, e1, e]
      obtain ⟨i, hi⟩ := List.getElem?_of_mem (hvis u hu)
      obtain ⟨j, hj⟩ := List.getElem?_of_mem hvm.1
      obtain ⟨yi, hyi, ei, _⟩ := E.at_ hi
      obtain ⟨yj, hyj, ej, _⟩ := E.at_ hj
      have q : yi.1 = yj.1 := arr_inj (by rw [← ei, ← ej, huv])
      have hi' : (l.map (·.1))[i]? = some yi.1 := by simp [List.getElem?_map, hyi]
      have hj' : (l.map (·.1))[j]? = some yi.1 := by simp [List.getElem?_map, hyj, q]
      have hij : i = j := index_of_nodup E.keys hi' hj'
      subst hij
      rw [hi] at hj
      have : u = v := Option.some.inj hj
      subst this
      apply hvm.2
      rw [hseen]
      exact List.mem_map.2 ⟨u, hu, rfl⟩
    have hW : Walks (setBlock w1 r (.mapIter (some b) clock (seen.push v.born) clock)) b r es clock l (ys ++ [y]) := by
      refine ⟨(setBlock_other _ h.ne.symm).trans hb1, ⟨seen.push v.born, clock, vis ++ [v], setBlock_same hr1 _, Nat.le_refl _, by simp [hseen], ?_, ?_⟩, ?_, ?_⟩
      · intro u hu
        rcases List.mem_append.1 hu with hu | hu
        · exact hvis u hu
        · simp at hu; subst hu; exact hvm.1
      · simp [hys, e1, e2]
      · rw [List.map_append, List.nodup_append]
        refine ⟨h.once, by simp, fun a ha c hc => ?_⟩
        simp at hc
        subst hc
        rintro rfl
        exact hnew ha
      · intro u hu
        rcases List.mem_append.1 hu with hu | hu
        · exact h.sub u hu
        · simp at hu; subst hu; exact hy
    refine .inr ⟨y, _, hy, by rw [hrun, e1, e2], hW, ?_, ?_, by simp [setBlock, hw1'], ?_⟩
    · have := hW.len
      simp at this
      omega
    · rcases hw1 with rfl | rfl
      · exact ⟨rfl, rfl, rfl, by simp [setBlock], fun i _ hi => setBlock_other _ (fun e => hi (by rw [e]))⟩
      · exact ⟨rfl, rfl, rfl, by simp [setBlock], fun i _ hi => setBlock_other _ (fun e => hi (by rw [e]))⟩
    · rw [← e1, ← e2]
      exact run_entry_at _ r b clock seen es clock v (setBlock_same hr1 _) hW.map_ hvm.1 E.once

/-! ### the operations, for the walk: plain, and within a fence -/
def MapIs (w : World) (b n : Nat) (l : Es) : Prop := ∃ es clock, w.heap[b]? = some (.map es clock) ∧ Ents n es clock l

theorem MapIs.lt (h : MapIs w b n l) : b < w.heap.size := by
  obtain ⟨es, clock, hb, _⟩ := h
  exact (Array.getElem?_eq_some_iff.1 hb).1
theorem MapIs.same {w' : World} (h : MapIs w b n l) (hb : w'.heap[b]? = w.heap[b]?) : MapIs w' b n l := by
  obtain ⟨es, clock, h1, h2⟩ := h
  exact ⟨es, clock, hb.trans h1, h2⟩
theorem MapIs.kept {w' : World} {row : Option Nat} (h : MapIs w b n l) (hg : w.grownBy w' row) (hr : some b ≠ row) : MapIs w' b n l := h.same (hg.block b h.lt hr)
theorem MapIs.alloc (h : MapIs w b n l) (o : Obj) : MapIs (w.alloc o) b n l := h.same (Below.heap_alloc w o b h.lt)
theorem MapIs.setCell (h : MapIs w b n l) {p : Addr} (hp : b ≠ p.block) (u : Value) : MapIs (w.setCell p u) b n l := h.same (Below.heap_setCell w p u b hp)
theorem MapIs.below {w' : World} {B : Nat} (h : MapIs w b n l) (hb : Below B w w') (hlt : b < B) : MapIs w' b n l := h.same (hb.block b hlt)
theorem MapIs.new (w : World) (n : Nat) : MapIs (w.alloc (.map #[] 0)) w.heap.size n [] :=
  ⟨#[], 0, (MapKept.heap_alloc w _).1, ⟨rfl, by simp, by simp, by simp, by simp⟩⟩

theorem MapIs.look (A : KeyArr P k n) (ht : P.underlying t = some (.map k e)) (h : MapIs w b n l) {z : Value} (hz : (zeroValue e).run P w = .ok z w) {x : List Int} (hx : x.length = n) (ho : Okb x) (c : Bool) :
    (Instr.lookup t (.map (some b)) (arr x) c).run P w = .ok (if c then .tuple #[(l.get x).getD z, .bool (l.get x).isSome] else (l.get x).getD z) w := by
  obtain ⟨es, clock, hb, E⟩ := h
  exact run_lookup_arr A ht hb E hz hx ho c
theorem MapIs.update (A : KeyArr P k n) (ht : P.underlying t = some (.map k e)) (h : MapIs w b n l) {x : List Int} (hx : x.length = n) (ho : Okb x) (v : Value) :
    ∃ w', (Instr.mapUpdate t (.map (some b)) (arr x) v).run P w = .ok () w' ∧ MapIs w' b n (l.put x v) ∧ w.grownBy w' (some b) ∧ w'.heap.size = w.heap.size := by
  obtain ⟨es, clock, hb, E⟩ := h
  obtain ⟨es', clock', hrun, E'⟩ := run_update_arr A ht hb E hx ho v
  exact ⟨_, hrun, ⟨es', clock', setBlock_same hb _, E'⟩, ⟨rfl, rfl, rfl, by simp [setBlock], fun i _ hi => setBlock_other _ (fun e => hi (by rw [e]))⟩, by simp [setBlock]⟩
theorem MapIs.drop (A : KeyArr P k n) (ht : P.underlying t = some (.map k e)) (h : MapIs w b n l) {x : List Int} (hx : x.length = n) (ho : Okb x) (ty : TypeId) :
    ∃ w', (Builtin.delete_ #[t, k] ty #[.map (some b), arr x]).run P w = .ok (.tuple #[]) w' ∧ MapIs w' b n (l.del x) ∧ w.grownBy w' (some b) ∧ w'.heap.size = w.heap.size := by
  obtain ⟨es, clock, hb, E⟩ := h
  obtain ⟨es', hrun, E'⟩ := run_delete_arr (ty := ty) A ht hb E hx ho
  exact ⟨_, hrun, ⟨es', clock, setBlock_same hb _, E'⟩, ⟨rfl, rfl, rfl, by simp [setBlock], fun i _ hi => setBlock_other _ (fun e => hi (by rw [e]))⟩, by simp [setBlock]⟩

section
variable {ops : Array Oper} {rest : List Oper} {o : Oper} {a : Act} {Q : Exit → Act → World → Prop} {F : Fence} {nF : Nat}

theorem wpList_lookup_arr (hg : o.guard = none) (m xo : Operand) (t : TypeId) (c : Bool) (hop : o.op = Op.lookup t m xo c) (k e : TypeId) (n : Nat) (A : KeyArr P k n) (ht : P.underlying t = some (.map k e)) (z : Value) (hz : (zeroValue e).run P w = .ok z w)
    (b : Nat) (l : Es) (hm : a.eval m = .map (some b)) (h : MapIs w b n l) (x : List Int) (hx : a.eval xo = arr x) (hlx : x.length = n) (hox : Okb x)
    (hK : wpList P ops Q rest (a.put o.dst (if c then .tuple #[(l.get x).getD z, .bool (l.get x).isSome] else (l.get x).getD z)) w) :
    wpList P ops Q (o :: rest) a w := by
  refine wpList_plain hg fun K' hK' => ?_
  have hrun := h.look A ht hz hlx hox c
  unfold Oper.wp
  simp [execOp, hop, hm, hx, hrun, Result.andThen]
  exact hK' _ _ hK
theorem wpListIn_lookup_arr (hg : o.guard = none) (m xo : Operand) (t : TypeId) (c : Bool) (hop : o.op = Op.lookup t m xo c) (k e : TypeId) (n : Nat) (A : KeyArr P k n) (ht : P.underlying t = some (.map k e)) (z : Value) (hz : (zeroValue e).run P w = .ok z w)
    (b : Nat) (l : Es) (hm : a.eval m = .map (some b)) (h : MapIs w b n l) (x : List Int) (hx : a.eval xo = arr x) (hlx : x.length = n) (hox : Okb x)
    (hK : wpListIn F nF P ops Q rest (a.put o.dst (if c then .tuple #[(l.get x).getD z, .bool (l.get x).isSome] else (l.get x).getD z)) w) :
    wpListIn F nF P ops Q (o :: rest) a w := by
  refine wpListIn_plain hg fun K' hK' => ?_
  have hrun := h.look A ht hz hlx hox c
  unfold Oper.wpIn
  refine ⟨by simp [Oper.about, hop], ?_⟩
  rw [Oper.semAt_plain F _ _ (by rw [hop]; intro c hc'; cases hc')]
  simp [execOp, hop, hm, hx, hrun, Result.andThen]
  exact hK' _ _ hK

theorem wpList_update_arr (hg : o.guard = none) (m xo vo : Operand) (t : TypeId) (hop : o.op = Op.mapUpdate t m xo vo) (k e : TypeId) (n : Nat) (A : KeyArr P k n) (ht : P.underlying t = some (.map k e))
    (b : Nat) (l : Es) (hm : a.eval m = .map (some b)) (h : MapIs w b n l) (x : List Int) (hx : a.eval xo = arr x) (hlx : x.length = n) (hox : Okb x) (v : Value) (hv : a.eval vo = v)
    (hK : ∀ w', MapIs w' b n (l.put x v) → w.grownBy w' (some b) → w'.heap.size = w.heap.size → wpList P ops Q rest (a.put o.dst undef) w') :
    wpList P ops Q (o :: rest) a w := by
  refine wpList_plain hg fun K' hK' => ?_
  obtain ⟨w', hrun, r1, r2, r3⟩ := h.update A ht hlx hox v
  unfold Oper.wp
  simp [execOp, hop, hm, hx, hv, hrun, Result.andThen]
  exact hK' _ _ (hK w' r1 r2 r3)

theorem wpList_delete_arr (hg : o.guard = none) (m xo : Operand) (t k : TypeId) (hop : o.op = Op.call { callee := Callee.builtin Builtin.delete, args := #[m, xo], argTypes := #[t, k] }) (e : TypeId) (n : Nat) (A : KeyArr P k n) (ht : P.underlying t = some (.map k e))
    (b : Nat) (l : Es) (hm : a.eval m = .map (some b)) (h : MapIs w b n l) (x : List Int) (hx : a.eval xo = arr x) (hlx : x.length = n) (hox : Okb x)
    (hK : ∀ w', MapIs w' b n (l.del x) → w.grownBy w' (some b) → w'.heap.size = w.heap.size → wpList P ops Q rest (a.put o.dst (.tuple #[])) w') :
    wpList P ops Q (o :: rest) a w := by
  refine wpList_plain hg fun K' hK' => ?_
  obtain ⟨w', hrun, r1, r2, r3⟩ := h.drop A ht hlx hox o.type
  unfold Oper.wp
  simp [execOp, hop, resolve, invoke, builtin, hm, hx, hrun, Result.andThen]
  exact hK' _ _ (hK w' r1 r2 r3)

theorem wpList_range_arr (hg : o.guard = none) (m : Operand) (t : TypeId) (hop : o.op = Op.range t m) (k e : TypeId) (ht : P.underlying t = some (.map k e)) (b : Nat) (l : Es) (hm : a.eval m = .map (some b)) (hb : w.heap[b]? = some (.map es clock))
    (hK : ∀ w', Walks w' b w.heap.size es clock l [] → w.grownBy w' none → w'.heap.size = w.heap.size + 1 → wpList P ops Q rest (a.put o.dst (.pointer (some ⟨w.heap.size, 0, none⟩))) w') :
    wpList P ops Q (o :: rest) a w := by
  refine wpList_plain hg fun K' hK' => ?_
  have hrun := run_range_arr ht hb
  unfold Oper.wp
  simp [execOp, hop, hm, hrun, Result.andThen]
  exact hK' _ _ (hK _ (Walks.start hb) (World.grownBy_alloc w _ none) (by simp))
theorem wpListIn_range_arr (hg : o.guard = none) (m : Operand) (t : TypeId) (hop : o.op = Op.range t m) (k e : TypeId) (ht : P.underlying t = some (.map k e)) (b : Nat) (l : Es) (hm : a.eval m = .map (some b)) (hb : w.heap[b]? = some (.map es clock))
    (hK : ∀ w', Walks w' b w.heap.size es clock l [] → w.grownBy w' none → w'.heap.size = w.heap.size + 1 → wpListIn F nF P ops Q rest (a.put o.dst (.pointer (some ⟨w.heap.size, 0, none⟩))) w') :
    wpListIn F nF P ops Q (o :: rest) a w := by
  refine wpListIn_plain hg fun K' hK' => ?_
  have hrun := run_range_arr ht hb
  unfold Oper.wpIn
  refine ⟨by simp [Oper.about, hop], ?_⟩
  rw [Oper.semAt_plain F _ _ (by rw [hop]; intro c hc'; cases hc')]
  simp [execOp, hop, hm, hrun, Result.andThen]
  exact hK' _ _ (hK _ (Walks.start hb) (World.grownBy_alloc w _ none) (by simp))

theorem wpList_next_arr (hg : o.guard = none) (it : Operand) (hop : o.op = Op.next it false) (b r : Nat) (ys : Es) (n : Nat) (hit : a.eval it = .pointer (some ⟨r, 0, none⟩)) (E : Ents n es clock l) (h : Walks w b r es clock l ys)
    (hDone : ys.Perm l → wpList P ops Q rest (a.put o.dst (.tuple #[.bool false])) w)
    (hMore : ∀ y w', y ∈ l → Walks w' b r es clock l (ys ++ [y]) → ys.length < l.length → w.grownBy w' (some r) → w'.heap.size = w.heap.size → (Instr.entry (.pointer (some ⟨r, 0, none⟩))).run P w' = .ok (.tuple #[arr y.1, y.2]) w' →
      wpList P ops Q rest (a.put o.dst (.tuple #[.bool true, arr y.1, y.2])) w') :
    wpList P ops Q (o :: rest) a w := by
  refine wpList_plain hg fun K' hK' => ?_
  unfold Oper.wp
  rcases h.next (P := P) E o.type with ⟨h0, hrun⟩ | ⟨y, w', hy, hrun, h1, h2, h3, h4, h5⟩
  · simp [execOp, hop, hit, hrun, Result.andThen]
    exact hK' _ _ (hDone h0)
  · simp [execOp, hop, hit, hrun, Result.andThen]
    exact hK' _ _ (hMore y w' hy h1 h2 h3 h4 h5)
theorem wpListIn_next_arr (hg : o.guard = none) (it : Operand) (hop : o.op = Op.next it false) (b r : Nat) (ys : Es) (n : Nat) (hit : a.eval it = .pointer (some ⟨r, 0, none⟩)) (E : Ents n es clock l) (h : Walks w b r es clock l ys)
    (hDone : ys.Perm l → wpListIn F nF P ops Q rest (a.put o.dst (.tuple #[.bool false])) w)
    (hMore : ∀ y w', y ∈ l → Walks w' b r es clock l (ys ++ [y]) → ys.length < l.length → w.grownBy w' (some r) → w'.heap.size = w.heap.size → (Instr.entry (.pointer (some ⟨r, 0, none⟩))).run P w' = .ok (.tuple #[arr y.1, y.2]) w' →
      wpListIn F nF P ops Q rest (a.put o.dst (.tuple #[.bool true, arr y.1, y.2])) w') :
    wpListIn F nF P ops Q (o :: rest) a w := by
  refine wpListIn_plain hg fun K' hK' => ?_
  unfold Oper.wpIn
  refine ⟨by simp [Oper.about, hop], ?_⟩
  rw [Oper.semAt_plain F _ _ (by rw [hop]; intro c hc'; cases hc')]
  rcases h.next (P := P) E o.type with ⟨h0, hrun⟩ | ⟨y, w', hy, hrun, h1, h2, h3, h4, h5⟩
  · simp [execOp, hop, hit, hrun, Result.andThen]
    exact hK' _ _ (hDone h0)
  · simp [execOp, hop, hit, hrun, Result.andThen]
    exact hK' _ _ (hMore y w' hy h1 h2 h3 h4 h5)
end
end
end Go.Proofs.YtcoagfnkcbfbaaaGreatDoor
