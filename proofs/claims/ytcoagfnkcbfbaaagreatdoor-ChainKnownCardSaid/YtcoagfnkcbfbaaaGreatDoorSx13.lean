/-
  The runner, on: the keys of a map, sorted. Whatever the order in which the map gives them, what is sorted is one and the same: each order is run.
-/
import Derived.Test.YtcoagfnkcbfbaaaGreatDoorSx10
import Derived.Test.YtcoagfnkcbfbaaaGreatDoorMaps
namespace Go.Proofs.YtcoagfnkcbfbaaaGreatDoor
open Go.RowKit

/-! ### all the orders of a list -/
def insAll {α : Type} (x : α) : List α → List (List α)
  | [] => [[x]]
  | y :: l => (x :: y :: l) :: (insAll x l).map (y :: ·)
def perms {α : Type} : List α → List (List α)
  | [] => [[]]
  | x :: l => (perms l).flatMap (insAll x)
theorem mem_insAll {α : Type} (x : α) : ∀ (s t : List α), s ++ x :: t ∈ insAll x (s ++ t)
  | [], [] => by simp [insAll]
  | [], y :: t => by simp [insAll]
  | y :: s, t => by
    simp only [List.cons_append, insAll, List.mem_cons, List.mem_map]
    exact .inr ⟨_, mem_insAll x s t, rfl⟩
theorem mem_perms {α : Type} : ∀ {L ss : List α}, ss.Perm L → ss ∈ perms L
  | [], ss, h => by rw [List.Perm.eq_nil h]; simp [perms]
  | x :: L, ss, h => by
    obtain ⟨s, t, rfl⟩ := List.append_of_mem (h.mem_iff.2 (List.mem_cons_self : x ∈ x :: L))
    have : (s ++ t).Perm L := (List.perm_cons x).1 (List.perm_middle.symm.trans h)
    simp only [perms, List.mem_flatMap]
    exact ⟨s ++ t, mem_perms this, mem_insAll x s t⟩

/-! ### a map's keys -/
def keyS : SV → Option (List Int)
  | .agg l => optAll byteS l
  | _ => none
def okKey (n : Nat) (k : List Int) : Bool := k.length == n && k.all (fun z => decide (0 ≤ z) && decide (z ≤ 255))
def keysS (n : Nat) (es : List (SV × SV)) : Option (List (List Int)) :=
  match optAll (fun e => keyS e.1) es with
  | some ks => if ks.all (okKey n) && decide ks.Nodup then some ks else none
  | none => none

theorem keyS_ok {E : Env} {v : SV} {V : Value} {k : List Int} (h : Rel E v V) (hk : keyS v = some k) : V = arr k := by
  cases h with
  | agg a =>
    have := bytes_all a hk
    unfold arr u8s
    rw [← this]
  | _ => simp [keyS] at hk
theorem keys_same {E : Env} : ∀ {es : List (SV × SV)} {L : List MapEntry} {ks : List (List Int)}, RelE E es L → optAll (fun e => keyS e.1) es = some ks →
    ks.length = L.length ∧ L.map (fun e => (e.key, e.val)) = (ks.zip (L.map (·.val))).map (fun x => (arr x.1, x.2))
  | _, _, ks, .nil, h => by cases h; exact ⟨rfl, rfl⟩
  | _, _, ks, .cons a b c, h => by
    obtain ⟨k, r, h1, h2, rfl⟩ := optAll_cons h
    obtain ⟨g1, g2⟩ := keys_same c h2
    refine ⟨by simp [g1], ?_⟩
    simp only [List.map_cons, List.zip_cons_cons, g2, keyS_ok a h1]
theorem keysS_ents {E : Env} {n : Nat} {es : List (SV × SV)} {L : Array MapEntry} {clock : Nat} {ks : List (List Int)} (h : RelE E es L.toList) (hn : (L.toList.map (·.born)).Nodup) (hc : ∀ e ∈ L.toList, e.born < clock) (hk : keysS n es = some ks) :
    ∃ l : Es, Ents n L clock l ∧ l.map (·.1) = ks := by
  unfold keysS at hk
  split at hk
  · rename_i ks' hk'
    split at hk
    · rename_i hw
      cases hk
      simp only [Bool.and_eq_true, decide_eq_true_eq] at hw
      obtain ⟨g1, g2⟩ := keys_same h hk'
      have hl : (ks.zip (L.toList.map (·.val))).map (·.1) = ks := List.map_fst_zip (by simp [g1])
      refine ⟨ks.zip (L.toList.map (·.val)), ⟨g2, hc, hn, by rw [hl]; exact hw.2, fun x hx => ?_⟩, hl⟩
      have hx' : x.1 ∈ ks := by rw [← hl]; exact List.mem_map_of_mem hx
      have := List.all_eq_true.1 hw.1 _ hx'
      simp only [okKey, Bool.and_eq_true, beq_iff_eq, List.all_eq_true, decide_eq_true_eq] at this
      exact this
    · cases hk
  · cases hk

/-! ### the world behind a call that left what was there -/
section
variable {base : Nat} {w0 : World} {E : Env} {h h' : Tr} {w w' : World} {n : Nat}
theorem Inv.later (I : Inv base w0 E h w) (hb : Below w.heap.size w w') : Inv base w0 E h w' := by
  refine ⟨fun b s hs => ?_, I.inj, fun b B m hE => ?_, I.bel.trans (hb.mono I.big), Nat.le_trans I.big hb.size⟩
  · obtain ⟨B, m, h1, h2⟩ := I.blk b s hs
    refine ⟨B, m, h1, ?_⟩
    rw [hb.block B (I.lo b B m h1).2]
    exact h2
  · have := I.lo b B m hE
    exact ⟨this.1, Nat.lt_of_lt_of_le this.2 hb.size⟩
theorem Inv.laterNew (I : Inv base w0 E h w) (hb : Below w.heap.size w w') (hE : E n = none) {B m : Nat} {s : Bk} (hB : w.heap.size ≤ B) (hB' : B < w'.heap.size) (e : ∀ c, h'.get c = if c = n then some s else h.get c)
    (hs : BRel (fun b => if b = n then some (B, m) else E b) m s w'.heap[B]?) :
    Inv base w0 (fun b => if b = n then some (B, m) else E b) h' w' ∧ Grew E (fun b => if b = n then some (B, m) else E b) n (n + 1) := by
  have I' := I.later hb
  have hle : E.le (fun b => if b = n then some (B, m) else E b) := fun b x hx => by
    by_cases hbn : b = n
    · subst hbn; rw [hE] at hx; cases hx
    · simp [hbn, hx]
  refine ⟨⟨fun c t hc => ?_, fun b c s t B1 m' k hs1 hc hB1 hC => ?_, fun c B1 m' hc => ?_, I'.bel, I'.big⟩, hle, fun b hb1 hb2 => ?_⟩
  · rw [e] at hc
    split at hc
    · rename_i hcn
      subst hcn
      cases hc
      exact ⟨B, m, by simp, hs⟩
    · rename_i hcn
      obtain ⟨B1, m', h1, h2⟩ := I'.blk c t hc
      exact ⟨B1, m', by simp [hcn, h1], h2.mono hle⟩
  · rw [e] at hs1 hc
    by_cases hbn : b = n <;> by_cases hcn : c = n
    · rw [hbn, hcn]
    · simp only [hbn, if_true, Option.some.injEq, Prod.mk.injEq] at hB1
      simp only [hcn, if_false] at hC
      have := (I.lo c B1 k hC).2
      omega
    · simp only [hbn, if_false] at hB1
      simp only [hcn, if_true, Option.some.injEq, Prod.mk.injEq] at hC
      have := (I.lo b B1 m' hB1).2
      omega
    · simp only [hbn, if_false] at hs1 hB1
      simp only [hcn, if_false] at hc hC
      exact I'.inj b c s t B1 m' k hs1 hc hB1 hC
  · by_cases hcn : c = n
    · simp only [hcn, if_true, Option.some.injEq, Prod.mk.injEq] at hc
      have := I.big
      omega
    · simp only [hcn, if_false] at hc
      exact I'.lo c B1 m' hc
  · by_cases hbn : b = n
    · omega
    · simp [hbn, hb1] at hb2
end

/-- the cells of keys -/
def cellsK (ks : List (List Int)) : List SV := ks.flatMap fun k => k.map (SV.int .u8)
theorem cellsK_rel (E : Env) (ks : List (List Int)) : RelL E (cellsK ks) (ks.flatMap u8s) := by
  induction ks with
  | nil => exact .nil
  | cons k ks ih =>
    simp only [cellsK, List.flatMap_cons] at ih ⊢
    refine RelL.append ?_ ih
    unfold u8s
    induction k with
    | nil => exact .nil
    | cons z k ihk => exact .cons (.int _ _) ihk

theorem RelL.plain_eq {E : Env} : ∀ {l : List SV} {V W : List Value}, RelL E l V → RelL E l W → (∀ v ∈ l, ∃ x, v.toV = some x) → V = W
  | _, _, _, .nil, .nil, _ => rfl
  | _, _, _, .cons (v := v) a b, .cons c d, h => by
    obtain ⟨x, hx⟩ := h v (by simp)
    rw [Rel.toV_eq a hx, Rel.toV_eq c hx, RelL.plain_eq b d (fun v hv => h v (by simp [hv]))]
theorem bytesK_all {E : Env} {L : List (List Int)} {V : List Value} (hr : RelL E (cellsK L) V) : V = L.flatMap u8s :=
  RelL.plain_eq hr (cellsK_rel E L) (fun v hv => by
    obtain ⟨k, -, hk⟩ := List.mem_flatMap.1 hv
    obtain ⟨z, -, rfl⟩ := List.mem_map.1 hk
    exact ⟨_, rfl⟩)

/-- what the sorting of one order of the keys comes to: the runner's own word, asked of the kernel -/
def SortsTo (D : Dt) (ext : Nat → Option (List SV → M SV)) (f gs : Nat) (cmp : SV) (t : Nat) (ss L : List (List Int)) : Prop :=
  ∃ u n' h' F x, (callM D ext (exec D ext f) gs [.sl 0 0 ss.length 8 none, cmp]).run 1 (.nd .lf (some (.cells (cellsK ss) t false)) .lf) = some (u, n', h', F) ∧ h'.get 0 = some (.cells (cellsK L) t x)

/-- the sorting in the world: a slice of its own is sorted where it lies -/
theorem sorts_calls {D : Dt} (hD : D.Ok) (hN : FnOk D) {ext : Nat → Option (List SV → M SV)} {f gs : Nat} {cmp : SV} {Cmp : Value} {t : Nat} {ss L : List (List Int)} (hS : SortsTo D ext f gs cmp t ss L) (hgs : ext gs = none)
    {w0 w : World} (hext : ExtOk D.P w0.heap.size w0 ext) (hc : ∀ E, Rel E cmp Cmp) {B cap : Nat} {cur : Array Value} (hb : Below w0.heap.size w0 w) (hB : w0.heap.size ≤ B) (hw : w.heap[B]? = some (.cells cur t (0, 0)))
    (hn : ss.length ≤ cap) (hsz : cur.size = cap * 8) (htk : cur.toList.take (ss.length * 8) = ss.flatMap u8s) (h8 : (cellsK ss).length = ss.length * 8) :
    Calls D.P gs #[.slice (some ⟨B, 0, none⟩) ss.length cap, Cmp] w fun e w' => (∃ V, e = .returned V) ∧ Below w0.heap.size w0 w' ∧
      ∃ cur', w'.heap[B]? = some (.cells cur' t (0, 0)) ∧ cur'.size = cap * 8 ∧ (cellsK L).length ≤ cap * 8 ∧ cur'.toList.take (cellsK L).length = L.flatMap u8s := by
  obtain ⟨u, n', h', F, x, hrun, hget⟩ := hS
  let E : Env := fun b => if b = 0 then some (B, cap * 8) else none
  have hBlt : B < w.heap.size := (Array.getElem?_eq_some_iff.1 hw).1
  have hle : ss.length * 8 ≤ cap * 8 := Nat.mul_le_mul_right _ hn
  have hgt : ∀ b, (Tr.nd .lf (some (.cells (cellsK ss) t false)) .lf).get b = if b = 0 then some (.cells (cellsK ss) t false) else none := fun b => by
    simp only [Tr.get]
    split
    · rfl
    · simp
  have I : Inv w0.heap.size w0 E (.nd .lf (some (.cells (cellsK ss) t false)) .lf) w := by
    refine ⟨fun b s hs => ?_, fun b c s t' B' m k hs hc' _ _ => ?_, fun b B' m hE => ?_, hb, hb.size⟩
    · rw [hgt] at hs
      split at hs
      · rename_i h0
        subst h0
        cases hs
        refine ⟨B, cap * 8, rfl, ?_⟩
        rw [hw]
        refine .cells hsz (by rw [h8]; exact hle) (fun e => by cases e) ?_
        rw [h8, htk]
        exact cellsK_rel _ ss
      · cases hs
    · rw [hgt] at hs hc'
      split at hs
      · split at hc'
        · omega
        · cases hc'
      · cases hs
    · dsimp only [E] at hE
      split at hE
      · cases hE; exact ⟨hB, hBlt⟩
      · cases hE
  have hfree : Free E 1 n' := fun b h1 _ => by dsimp only [E]; rw [if_neg (by omega)]
  have hargs : RelL E [.sl 0 0 ss.length 8 none, cmp] (#[.slice (some ⟨B, 0, none⟩) ss.length cap, Cmp] : Array Value).toList :=
    .cons (.sl (m := cap * 8) rfl (fun k e => by cases e) hn (fun _ => by omega)) (.cons (hc _) .nil)
  have hcall := callM_ok hD hN hext (exec_ok hD hN hext f).1
  rcases hcall gs _ _ E _ w 1 u n' h' F hrun hargs I hfree with ⟨E', V, w', h1, h2, h3, h4⟩ | ⟨h1, h2⟩
  · exfalso
    unfold callM at hrun
    rw [hgs] at hrun
    dsimp only at hrun
    split at hrun
    · rename_i fn hfn
      split at hrun
      · rename_i c hcb
        rw [run_enter (hD.fn gs fn hfn) hcb (hN.name gs fn hfn)] at h1
        cases h1
      · simp [M.fail] at hrun
    · simp [M.fail] at hrun
  · refine h2.mono ?_
    rintro e w' ⟨E', V, rfl, g1, g2, g3⟩
    have hE0 : E' 0 = some (B, cap * 8) := g3.1 0 _ rfl
    obtain ⟨cs, c1, c2, c3, c4, c5⟩ := g2.cells hget hE0
    refine ⟨⟨V, rfl⟩, g2.bel, cs, c1, c2, c3, ?_⟩
    exact bytesK_all c5

/-- the same of nothing -/
def SortsNil (D : Dt) (ext : Nat → Option (List SV → M SV)) (f gs : Nat) (cmp : SV) : Prop :=
  ∃ u n' h' F, (callM D ext (exec D ext f) gs [.ns, cmp]).run 0 .lf = some (u, n', h', F)
theorem sortsNil_calls {D : Dt} (hD : D.Ok) (hN : FnOk D) {ext : Nat → Option (List SV → M SV)} {f gs : Nat} {cmp : SV} {Cmp : Value} (hS : SortsNil D ext f gs cmp) (hgs : ext gs = none)
    {w0 w : World} (hext : ExtOk D.P w0.heap.size w0 ext) (hc : ∀ E, Rel E cmp Cmp) (hb : Below w0.heap.size w0 w) :
    Calls D.P gs #[.slice none 0 0, Cmp] w fun e w' => (∃ V, e = .returned V) ∧ Below w0.heap.size w0 w' := by
  obtain ⟨u, n', h', F, hrun⟩ := hS
  have I : Inv w0.heap.size w0 (fun _ => none) .lf w := ⟨fun b s hs => absurd hs (by simp [Tr.get]), fun b c s t B m k hs => absurd hs (by simp [Tr.get]), fun b B m hE => absurd hE (by simp), hb, hb.size⟩
  have hargs : RelL (fun _ => none) [.ns, cmp] (#[.slice none 0 0, Cmp] : Array Value).toList := .cons .ns (.cons (hc _) .nil)
  have hcall := callM_ok hD hN hext (exec_ok hD hN hext f).1
  rcases hcall gs _ _ _ _ w 0 u n' h' F hrun hargs I (fun _ _ _ => rfl) with ⟨E', V, w', h1, h2, h3, h4⟩ | ⟨h1, h2⟩
  · exfalso
    unfold callM at hrun
    rw [hgs] at hrun
    dsimp only at hrun
    split at hrun
    · rename_i fn hfn
      split at hrun
      · rename_i c hcb
        rw [run_enter (hD.fn gs fn hfn) hcb (hN.name gs fn hfn)] at h1
        cases h1
      · simp [M.fail] at hrun
    · simp [M.fail] at hrun
  · refine h2.mono ?_
    rintro e w' ⟨E', V, rfl, g1, g2, g3⟩
    exact ⟨⟨V, rfl⟩, g2.bel⟩

/-- what slices.Collect of maps.Keys of a map tells -/
def CollectOk (P : Program) (gc gk t : Nat) : Prop :=
  ∀ (w : World) (Bm b : Nat) (es : Array MapEntry) (clock : Nat) (l : Es), w.cell? ⟨Bm, 0, none⟩ = some (.map (some b)) → w.heap[b]? = some (.map es clock) → Ents 8 es clock l → l.length ≤ 1000 →
    Calls P gc #[.func (.func gk) #[] #[.pointer (some ⟨Bm, 0, none⟩)]] w fun e w' => ∃ v, e = .returned v ∧ ∃ ss : List (List Int), ss.Perm (l.map (·.1)) ∧ w'.ownsRow w.heap.size t 8 v ss.length (ss.flatMap u8s) ∧ (v = .slice none 0 0 ↔ ss = []) ∧ Below w.heap.size w w'
/-- slices.SortedFunc is the one behind the other -/
def ChainOk (P : Program) (gf gc gs : Nat) : Prop :=
  ∀ (w : World) (Seq Cmp : Value) (R Q : Value → World → Prop), Calls P gc #[Seq] w (fun e w' => ∃ v, e = .returned v ∧ R v w') → (∀ v w1, R v w1 → Calls P gs #[v, Cmp] w1 fun e w' => (∃ V, e = .returned V) ∧ Q v w') →
    Calls P gf #[Seq, Cmp] w fun e w' => ∃ v, e = .returned v ∧ Q v w'

/-- the keys that a closure of maps.Keys has: its map's -/
def keysOfM (bm : Nat) : M (List (List Int)) :=
  (readM bm 0 1).bind fun l => match l with
    | [.map mb] => (M.get mb).bind fun s => match s with
      | .map es => .ofOpt (keysS 8 es)
      | _ => .fail
    | _ => .fail
theorem keysOfM_ok {base : Nat} {w0 : World} {E : Env} {h h' : Tr} {w : World} {n n' : Nat} {F : Ft} (I : Inv base w0 E h w) {bm Bm m : Nat} {ks : List (List Int)} (hE : E bm = some (Bm, m)) (hr : (keysOfM bm).run n h = some (ks, n', h', F)) :
    n' = n ∧ h' = h ∧ ∃ b es clock l, w.cell? ⟨Bm, 0, none⟩ = some (.map (some b)) ∧ w.heap[b]? = some (.map es clock) ∧ Ents 8 es clock l ∧ l.map (·.1) = ks := by
  obtain ⟨l, n1, h1, F1, F2, e1, e2, -⟩ := M.bind_some hr
  obtain ⟨rfl, rfl, g1, g2, L, g3, g4, g5⟩ := readM_ok I hE e1
  split at e2
  · rename_i mb
    obtain ⟨s, n2, h2, F3, F4, e3, e4, -⟩ := M.bind_some e2
    obtain ⟨-, hg, rfl, rfl⟩ := M.get_some e3
    split at e4
    · rename_i es
      obtain ⟨hk, rfl, rfl⟩ := M.ofOpt_some e4
      cases g3 with
      | cons a b =>
        cases a with
        | map hmb =>
        rename_i Bk mm
        obtain ⟨Le, clock, q1, q2, q3, q4⟩ := I.map hg hmb
        obtain ⟨l, hl, hlk⟩ := keysS_ents q2 q3 q4 hk
        have hc := g5 0 (.map (some Bk)) rfl
        rw [add_cell, Nat.add_zero] at hc
        exact ⟨rfl, rfl, Bk, Le, clock, l, hc, q1, hl, hlk⟩
    · simp [M.fail] at e4
  · simp [M.fail] at e2

/-- slices.SortedFunc of maps.Keys: gk: the closures' numbers; cs: the orders'; K: the sorted lists that are known, each with its order -/
def sortedX (gk cs : List Nat) (t : Nat) (K : List (Nat × List (List Int))) (vs : List SV) : M SV :=
  match vs with
  | [.fn (.func g) [] [.ptr bm 0], .fn (.func c) [] []] => .want (gk.contains g && cs.contains c) ((keysOfM bm).bind fun ks => match ks with
    | [] => .ret .ns
    | k :: r => match K.find? (fun x => x.1 == c && (k :: r).isPerm x.2) with
      | some x => .want (decide (x.2.length ≤ 1000) && x.2.all (okKey 8)) ((M.new (.cells (cellsK x.2) t false)).bind fun b => .ret (.sl b 0 x.2.length 8 none))
      | none => .fail)
  | _ => .fail

theorem cellsK_length : ∀ {ks : List (List Int)}, (∀ k ∈ ks, k.length = 8) → (cellsK ks).length = ks.length * 8
  | [], _ => rfl
  | k :: ks, h => by
    have := cellsK_length (ks := ks) fun k' hk => h k' (by simp [hk])
    simp only [cellsK, List.flatMap_cons, List.length_append, List.length_map, List.length_cons] at this ⊢
    rw [this, h k (by simp)]
    omega

theorem sortedX_ok {D : Dt} (hD : D.Ok) (hN : FnOk D) {ext : Nat → Option (List SV → M SV)} (hext : ∀ w, ExtOk D.P w.heap.size w ext) {f gf gc gs t : Nat} (hgs : ext gs = none) (henter : ∀ Vs w, (callFunc gf Vs).run D.P w = .ok (.enter gf Vs) w)
    {gk cs : List Nat} (hC : ∀ g ∈ gk, CollectOk D.P gc g t) (hF : ChainOk D.P gf gc gs) (hnil : ∀ c ∈ cs, SortsNil D ext f gs (.fn (.func c) [] [])) {K : List (Nat × List (List Int))}
    (hK : ∀ x ∈ K, ∀ ss ∈ perms x.2, SortsTo D ext f gs (.fn (.func x.1) [] []) t ss x.2) {base : Nat} {w0 : World} : RuleOk D.P base w0 gf (sortedX gk cs t K) := by
  intro vs Vs E h w n v n' h' F hr hargs I hf
  unfold sortedX at hr
  split at hr
  case h_2 => simp [M.fail] at hr
  rename_i g bm c
  have hw := (M.want_some hr).1
  replace hr := (M.want_some hr).2
  simp only [Bool.and_eq_true, List.contains_iff_mem] at hw
  obtain ⟨ks, n1, h1, F1, F2, e1, e2, -⟩ := M.bind_some hr
  clear hr
  obtain ⟨Bm, m, hEm, hVs⟩ : ∃ Bm m, E bm = some (Bm, m) ∧ Vs = #[.func (.func g) #[] #[.pointer (some ⟨Bm, 0, none⟩)], .func (.func c) #[] #[]] := by
    generalize hq : Vs.toList = L at hargs
    cases hargs with
    | cons p q =>
      cases q with
      | cons p' q' =>
        cases q'
        cases p with
        | fn a1 a2 =>
          cases p' with
          | fn b1 b2 =>
            rename_i v1 v2 v3 v4
            have e1 : v1 = #[] := by cases hv : v1.toList with | nil => simpa using hv | cons _ _ => rw [hv] at a1; cases a1
            have e3 : v3 = #[] := by cases hv : v3.toList with | nil => simpa using hv | cons _ _ => rw [hv] at b1; cases b1
            have e4 : v4 = #[] := by cases hv : v4.toList with | nil => simpa using hv | cons _ _ => rw [hv] at b2; cases b2
            generalize hv2 : v2.toList = L2 at a2
            cases a2 with
            | cons p2 q2 =>
              cases q2
              cases p2 with
              | ptr hE =>
                have e2 := toList_one hv2
                refine ⟨_, _, hE, ?_⟩
                rw [toList_two hq, e1, e2, e3, e4]
  obtain ⟨rfl, rfl, b, es, clock, l, hcell, hmap, hents, hlk⟩ := keysOfM_ok I hEm e1
  have hcmp : ∀ E, Rel E (.fn (.func c) [] []) (.func (.func c) #[] #[]) := fun E => .fn .nil .nil
  subst hVs
  refine .inr ⟨henter _ w, ?_⟩
  split at e2
  · -- no keys
    obtain ⟨rfl, rfl, rfl⟩ := M.ret_some e2
    have hl0 : l = [] := by simpa using hlk
    refine (hF w _ _ (fun v w1 => v = .slice none 0 0 ∧ Below w.heap.size w w1) (fun v w1 => v = .slice none 0 0 ∧ Below w.heap.size w w1) ?_ ?_).mono ?_
    · refine (hC g hw.1 w Bm b es clock l hcell hmap hents (by rw [hl0]; simp)).mono ?_
      rintro e w1 ⟨v, rfl, ss, r1, r2, r3, r4⟩
      rw [hl0] at r1
      exact ⟨v, rfl, r3.2 (List.Perm.eq_nil r1), r4⟩
    · rintro v w1 ⟨rfl, hb1⟩
      refine (sortsNil_calls hD hN (hnil c hw.2) hgs (hext w) hcmp hb1).mono ?_
      rintro e w2 ⟨h1, h2⟩
      exact ⟨h1, rfl, h2⟩
    · rintro e w2 ⟨v, rfl, rfl, hb2⟩
      exact ⟨E, _, rfl, .ns, I.later hb2, Grew.refl _ _⟩
  · rename_i k r
    split at e2
    case h_2 => simp [M.fail] at e2
    rename_i x hx
    have hxm := List.mem_of_find?_eq_some hx
    have hxp := List.find?_some hx
    simp only [Bool.and_eq_true, beq_iff_eq, List.isPerm_iff] at hxp
    have hw2 := (M.want_some e2).1
    replace e2 := (M.want_some e2).2
    simp only [Bool.and_eq_true, decide_eq_true_eq, List.all_eq_true] at hw2
    obtain ⟨nb, n2, h2, F3, F4, e3, e4, -⟩ := M.bind_some e2
    obtain ⟨rfl, rfl, hget⟩ := M.new_some e3
    obtain ⟨rfl, rfl, rfl⟩ := M.ret_some e4
    have h8 : ∀ y ∈ x.2, y.length = 8 := fun y hy => by
      have := hw2.2 y hy
      simp only [okKey, Bool.and_eq_true, beq_iff_eq] at this
      exact this.1
    have hlen : l.length = x.2.length := by
      have := hxp.2.length_eq
      rw [← hlk] at this
      simpa using this
    refine (hF w _ _ (fun v w1 => ∃ ss : List (List Int), ss.Perm x.2 ∧ w1.ownsRow w.heap.size t 8 v ss.length (ss.flatMap u8s) ∧ (v = .slice none 0 0 ↔ ss = []) ∧ Below w.heap.size w w1)
      (fun v w2 => Below w.heap.size w w2 ∧ ∃ B cap cur', v = .slice (some ⟨B, 0, none⟩) x.2.length cap ∧ w.heap.size ≤ B ∧ x.2.length ≤ cap ∧ w2.heap[B]? = some (.cells cur' t (0, 0)) ∧ cur'.size = cap * 8 ∧ cur'.toList.take (cellsK x.2).length = x.2.flatMap u8s) ?_ ?_).mono ?_
    · refine (hC g hw.1 w Bm b es clock l hcell hmap hents (by omega)).mono ?_
      rintro e w1 ⟨v, rfl, ss, r1, r2, r3, r4⟩
      rw [hlk] at r1
      exact ⟨v, rfl, ss, r1.trans hxp.2, r2, r3, r4⟩
    · rintro v w1 ⟨ss, r1, r2, r3, r4⟩
      have hss8 : ∀ y ∈ ss, y.length = 8 := fun y hy => h8 y (r1.mem_iff.1 hy)
      have hsl : ss.length = x.2.length := r1.length_eq
      have hne : ss ≠ [] := by
        intro e
        rw [e] at hsl
        have : x.2 = [] := List.eq_nil_of_length_eq_zero (by simpa using hsl.symm)
        rw [this] at hxp
        exact absurd (List.Perm.eq_nil hxp.2) (by simp)
      rcases r2.2 with ⟨hv, -⟩ | ⟨B, cap, cur, rfl, hB, hcur, hn, -, hsz, htk⟩
      · exact absurd (r3.1 hv) hne
      · have := hK x hxm ss (mem_perms r1)
        rw [hxp.1] at this
        refine (sorts_calls hD hN this hgs (hext w) hcmp r4 hB hcur hn hsz htk (cellsK_length hss8)).mono ?_
        rintro e w2 ⟨q1, q2, cur', q3, q4, q5, q6⟩
        exact ⟨q1, q2, B, cap, cur', by rw [hsl], hB, by omega, q3, q4, q6⟩
    · rintro e w2 ⟨v, rfl, hb2, B, cap, cur', rfl, hB, hn, hcur, hsz, htk⟩
      have hl8 := cellsK_length h8
      have hle : x.2.length * 8 ≤ cap * 8 := Nat.mul_le_mul_right _ hn
      obtain ⟨I', G⟩ := I.laterNew (B := B) (m := cap * 8) (s := .cells (cellsK x.2) t false) hb2 (hf _ (Nat.le_refl _) (by omega)) hB (Array.getElem?_eq_some_iff.1 hcur).1 hget (by
        rw [hcur]
        refine .cells hsz (by rw [hl8]; exact hle) (fun e => by cases e) ?_
        rw [htk]
        exact cellsK_rel _ _)
      exact ⟨_, _, rfl, .sl (m := cap * 8) (by simp) (fun k e => by cases e) hn (fun _ => by omega), I', G⟩

/-- (*kv.Store).All of a store whose map is empty -/
def AllNil (P : Program) (g : Nat) : Prop :=
  ∀ (w : World) (Sb b : Nat) (es : Array MapEntry) (clock : Nat), w.cell? ⟨Sb, 0, none⟩ = some (.map (some b)) → w.heap[b]? = some (.map es clock) → Ents 8 es clock [] →
    Calls P g #[.pointer (some ⟨Sb, 0, none⟩)] w fun e w' => e = .returned (.slice none 0 0) ∧ Below w.heap.size w w'
def allNilX (vs : List SV) : M SV :=
  match vs with
  | [.ptr sb 0] => (keysOfM sb).bind fun ks => match ks with
    | [] => .ret .ns
    | _ => .fail
  | _ => .fail
theorem allNilX_ok {P : Program} {g : Nat} (henter : ∀ Vs w, (callFunc g Vs).run P w = .ok (.enter g Vs) w) (hA : AllNil P g) {base : Nat} {w0 : World} : RuleOk P base w0 g allNilX := by
  intro vs Vs E h w n v n' h' F hr hargs I hf
  unfold allNilX at hr
  split at hr
  case h_2 => simp [M.fail] at hr
  rename_i sb
  obtain ⟨ks, n1, h1, F1, F2, e1, e2, -⟩ := M.bind_some hr
  clear hr
  obtain ⟨Sb, m, hE, hVs⟩ : ∃ Sb m, E sb = some (Sb, m) ∧ Vs = #[.pointer (some ⟨Sb, 0, none⟩)] := by
    generalize hq : Vs.toList = L at hargs
    cases hargs with
    | cons p q =>
      cases q
      cases p with
      | ptr hE => exact ⟨_, _, hE, toList_one hq⟩
  obtain ⟨rfl, rfl, b, es, clock, l, hcell, hmap, hents, hlk⟩ := keysOfM_ok I hE e1
  subst hVs
  split at e2
  · obtain ⟨rfl, rfl, rfl⟩ := M.ret_some e2
    have hl0 : l = [] := by simpa using hlk
    subst hl0
    refine .inr ⟨henter _ w, (hA w Sb b es clock hcell hmap hents).mono ?_⟩
    rintro e w1 ⟨rfl, hb⟩
    exact ⟨E, _, rfl, .ns, I.later hb, Grew.refl _ _⟩
  · simp [M.fail] at e2
end Go.Proofs.YtcoagfnkcbfbaaaGreatDoor
