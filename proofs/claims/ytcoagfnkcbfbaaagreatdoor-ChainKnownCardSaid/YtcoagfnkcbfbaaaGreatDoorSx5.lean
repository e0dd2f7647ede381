/-
  The runner, fifth part: append, copy, lengths; one operation.
-/
import Derived.Test.YtcoagfnkcbfbaaaGreatDoorSx4
namespace Go.Proofs.YtcoagfnkcbfbaaaGreatDoor
open Go.RowKit

section
variable {D : Dt} {ev : Operand → Option SV} {o : Oper} {a : Act} {base : Nat} {w0 : World} {E : Env} {h h' : Tr} {w w' : World} {n n' : Nat} {F : Ft} {v : SV}

/-- a block goes over to a new name, and is written -/
theorem Inv.alias (I : Inv base w0 E h w) {b c B m : Nat} {s s' : Bk} (hb : h.get b = some s) (hE : E b = some (B, m)) (hc : E c = none) (hne : c ≠ b)
    (e : ∀ k, h'.get k = if k = c then some s' else if k = b then none else h.get k)
    (hw : BRel (fun k => if k = c then some (B, m) else E k) m s' w'.heap[B]?) (ho : ∀ k, k ≠ B → w'.heap[k]? = w.heap[k]?) (hs : w'.heap.size = w.heap.size) (hos : w'.os = w.os) (ht : w'.tape = w.tape) (hout : w'.output = w.output) :
    Inv base w0 (fun k => if k = c then some (B, m) else E k) h' w' ∧ Grew E (fun k => if k = c then some (B, m) else E k) c (c + 1) := by
  have hle : E.le (fun k => if k = c then some (B, m) else E k) := fun k x hk => by
    by_cases hkc : k = c
    · subst hkc; rw [hc] at hk; cases hk
    · simp [hkc, hk]
  refine ⟨⟨fun k t hk => ?_, fun p q t u B' m' k' hp hq hP hQ => ?_, fun k B' m' hk => ?_, ?_, by rw [hs]; exact I.big⟩, hle, fun k hk hk' => ?_⟩
  · rw [e] at hk
    split at hk
    · rename_i hkc
      subst hkc
      cases hk
      exact ⟨B, m, by simp, hw⟩
    · rename_i hkc
      split at hk
      · cases hk
      · rename_i hkb
        obtain ⟨B', m', h1, h2⟩ := I.blk k t hk
        refine ⟨B', m', by simp [hkc, h1], ?_⟩
        rw [ho B' (fun e' => hkb (by subst e'; exact I.inj k b t s B' m' m hk hb h1 hE))]
        exact h2.mono hle
  · rw [e] at hp hq
    by_cases hpc : p = c <;> by_cases hqc : q = c
    · rw [hpc, hqc]
    · simp only [hpc, if_true, Option.some.injEq, Prod.mk.injEq] at hP
      simp only [hqc, if_false] at hQ hq
      split at hq
      · cases hq
      · rename_i hqb
        obtain ⟨rfl, rfl⟩ := hP
        exact absurd (I.inj q b u s B k' m hq hb hQ hE) hqb
    · simp only [hqc, if_true, Option.some.injEq, Prod.mk.injEq] at hQ
      simp only [hpc, if_false] at hP hp
      split at hp
      · cases hp
      · rename_i hpb
        obtain ⟨rfl, rfl⟩ := hQ
        exact absurd (I.inj p b t s B m' m hp hb hP hE) hpb
    · simp only [hpc, if_false] at hP hp
      simp only [hqc, if_false] at hQ hq
      split at hp
      · cases hp
      · split at hq
        · cases hq
        · exact I.inj p q t u B' m' k' hp hq hP hQ
  · by_cases hkc : k = c
    · simp only [hkc, if_true, Option.some.injEq, Prod.mk.injEq] at hk
      rw [hs, ← hk.1]
      exact I.lo b B m hE
    · simp only [hkc, if_false] at hk
      rw [hs]
      exact I.lo k B' m' hk
  · refine I.bel.trans ⟨hos, ht, hout, by omega, fun k hk => ho k ?_⟩
    have := (I.lo b B m hE).1
    omega
  · by_cases hkc : k = c
    · omega
    · simp [hkc, hk] at hk'

def srcM (size : Nat) (x : SV) : M (Nat × List SV) :=
  match x with
  | .sl b o n z _ => .want (z == size) ((readM b o (n * size)).bind fun l => .ret (n, l))
  | .ns => .ret (0, [])
  | .emp => .ret (0, [])
  | _ => .fail
theorem srcM_ok {P : Program} (I : Inv base w0 E h w) {size : Nat} {x : SV} {X : Value} {r : Nat × List SV} (hx : Rel E x X) (hr : (srcM size x).run n h = some (r, n', h', F)) :
    n' = n ∧ h' = h ∧ (Builtin.lenOf X).run P w = .ok r.1 w ∧ (∀ W, (Builtin.lenOf X).run P W = .ok r.1 W) ∧ ∃ C, RelL E r.2 C ∧ C.length = r.1 * size ∧ ∀ W : World, W.heap = w.heap → (Builtin.firstCells size r.1 X).run P W = .ok C.toArray W := by
  unfold srcM at hr
  split at hr
  · rename_i b o k z c
    obtain ⟨hz, hr⟩ := M.want_some hr
    obtain ⟨l, n1, h1, F1, F2, e1, e2, -⟩ := M.bind_some hr
    cases hx with
    | sl hE c1 c2 c3 =>
    rename_i B m c'
    obtain ⟨rfl, rfl, hl, hm, L, L1, L2, L3⟩ := readM_ok I hE e1
    obtain ⟨rfl, rfl, rfl⟩ := M.ret_some e2
    refine ⟨rfl, rfl, by simp [Builtin.lenOf], fun W => by simp [Builtin.lenOf], L, L1, L2, fun W hW => ?_⟩
    exact run_firstCells_some W size k _ _ _ L L2 (fun j u hj => by rw [← L3 j u hj]; simp only [World.cell?, hW])
  · cases hx with
    | ns =>
    obtain ⟨rfl, rfl, rfl⟩ := M.ret_some hr
    refine ⟨rfl, rfl, by simp [Builtin.lenOf], fun W => by simp [Builtin.lenOf], [], .nil, by simp, fun W hW => ?_⟩
    exact run_firstCells_none W size 0 0 0
  · cases hx with
    | emp =>
    obtain ⟨rfl, rfl, rfl⟩ := M.ret_some hr
    refine ⟨rfl, rfl, by simp [Builtin.lenOf], fun W => by simp [Builtin.lenOf], [], .nil, by simp, fun W hW => ?_⟩
    exact run_firstCells_some W size 0 _ _ _ [] (by simp) (fun j u hj => by simp at hj)
  · simp [M.fail] at hr

def isIntD : TypeDesc → Bool
  | .int _ => true
  | _ => false

def isSrcD : TypeDesc → Bool
  | .slice _ => true
  | .string => true
  | _ => false
theorem isSrcD_of {d : TypeDesc} (h : isSrcD d = true) : (∃ e, d = .slice e) ∨ d = .string := by
  cases d <;> simp [isSrcD] at h
  · exact .inr rfl
  · exact .inl ⟨_, rfl⟩

/-- append where there is room -/
theorem run_app_room {P : Program} {t u e : Nat} {ty : TypeId} {d : TypeDesc} {If : TypeInfo} (ht : P.underlying t = some (.slice e)) (hu : P.underlying u = some d) (hd : isSrcD d = true) (hi : P.info? e = some If)
    {ba : Option Addr} {len cap k : Nat} {X : Value} {C : List Value} (hlen : (Builtin.lenOf X).run P w = .ok k w) (hC : (Builtin.firstCells If.size k X).run P w = .ok C.toArray w) (hroom : len + k ≤ cap)
    (hst : match ba with
      | some A => (storeCells (A.add (len * If.size)) C).run P w = .ok () w'
      | none => w' = w) :
    (Builtin.append_ #[t, u] ty #[.slice ba len cap, X]).run P w = .ok (.slice ba (len + k) cap) w' := by
  cases ba with
  | none =>
    dsimp only at hst
    subst hst
    rcases isSrcD_of hd with ⟨x, rfl⟩ | rfl <;> simp [Builtin.append_, run_underlying ht, run_underlying hu, sizeOf, typeInfo, hi, hlen, hroom, hC]
  | some A =>
    dsimp only at hst
    rcases isSrcD_of hd with ⟨x, rfl⟩ | rfl <;> simp [Builtin.append_, run_underlying ht, run_underlying hu, sizeOf, typeInfo, hi, hlen, hroom, hC, hst]

/-- append where there is none -/
theorem run_app_grow {P : Program} {t u e : Nat} {ty : TypeId} {d : TypeDesc} {If : TypeInfo} {Z : Value} (ht : P.underlying t = some (.slice e)) (hu : P.underlying u = some d) (hd : isSrcD d = true) (hi : P.info? e = some If) (hz : If.zero = some Z)
    {ba : Option Addr} {len cap k : Nat} {X : Value} {O C : Array Value} (hlen : (Builtin.lenOf X).run P w = .ok k w) (hO : (Builtin.firstCells If.size len (.slice ba len cap)).run P w.drew = .ok O w.drew)
    (hC : (Builtin.firstCells If.size k X).run P w.drew = .ok C w.drew) (hroom : cap < len + k) (h63 : len + k ≤ 1099511627776) (hfit : (len + k) * If.bytes ≤ 140737488355328) :
    (Builtin.append_ #[t, u] ty #[.slice ba len cap, X]).run P w =
      .ok (.slice (some ⟨w.heap.size, 0, none⟩) (len + k) (grownCap w (len + k) cap e)) (w.drew.alloc (.cells (O ++ C ++ Builtin.zeroCells Z.cells (grownCap w (len + k) cap e - (len + k))) e)) := by
  have hn : ¬ (len + k ≤ cap) := by omega
  have h63' : ¬ (9223372036854775807 < ((len : Int) + (k : Int))) := by omega
  have h48 := growslice_fits (need := len + k) (old := cap) (bytes := If.bytes) hroom hfit
  have h48' : ¬ (281474976710656 < Builtin.nextslicecap (len + k) cap * If.bytes) := by omega
  rcases isSrcD_of hd with ⟨x, rfl⟩ | rfl <;> simp [Builtin.append_, run_underlying ht, run_underlying hu, sizeOf, typeInfo, zeroValue, hi, hz, hlen, hn, h63', h48', Question.forced, hO, hC, newRow, grownCap]

theorem run_app_zeros {P : Program} {t u e : Nat} {ty : TypeId} {q q' : IntKind} {If : TypeInfo} {Z : Value} (ht : P.underlying t = some (.slice e)) (hu : P.underlying u = some (.int q)) (hi : P.info? e = some If) (hz : If.zero = some Z)
    {k : Int} (h0 : 0 < k) (h63 : k ≤ 1099511627776) (hfit : k.toNat * If.bytes ≤ 140737488355328) (hs : 0 < If.size) :
    (Builtin.append_ #[t, u] ty #[.slice none 0 0, .int q' k]).run P w =
      .ok (.slice (some ⟨w.heap.size, 0, none⟩) k.toNat (grownCap w k.toNat 0 e)) (w.drew.alloc (.cells (Builtin.zeroCells Z.cells k.toNat ++ Builtin.zeroCells Z.cells (grownCap w k.toNat 0 e - k.toNat)) e)) := by
  have wl : IntKind.i64.wrap k = k := by rw [IntKind.wrap_i64]; omega
  obtain ⟨m, rfl⟩ : ∃ m : Nat, k = m := ⟨k.toNat, by omega⟩
  simp only [Int.toNat_natCast] at hfit ⊢
  have hm : 0 < m := by omega
  have hm0 : m ≠ 0 := by omega
  have n1 : ¬ ((m : Int) < 0) := by omega
  have n2 : ¬ (281474976710656 < (m : Int) * (If.bytes : Int)) := by
    have : (m : Int) * (If.bytes : Int) = ((m * If.bytes : Nat) : Int) := by simp
    rw [this]; omega
  have h63' : ¬ (9223372036854775807 < (m : Int)) := by omega
  have h48 := growslice_fits (need := m) (old := 0) (bytes := If.bytes) hm hfit
  have h48' : ¬ (281474976710656 < Builtin.nextslicecap m 0 * If.bytes) := by omega
  have hsz : m * If.size ≠ 0 := by
    have := Nat.mul_pos hm hs
    omega
  have hsz' : If.size ≠ 0 := by omega
  simp [Builtin.append_, run_underlying ht, run_underlying hu, sizeOf, typeInfo, zeroValue, asInt, asIntOf, hi, hz, wl, n1, n2, hm0, h63', h48', Question.forced, run_firstCells_none, newRow, grownCap]
  exact fun e => absurd e hsz

def appendM (D : Dt) (t u : Nat) (s x : SV) : M SV :=
  match D.ti t, D.ti u with
  | some i, some iu => match i.d with
    | .slice e => match D.ti e with
      | some j => .want (decide (0 < j.size)) (if isIntD iu.d then (match s, x with
          | .ns, .int _ k => .want (decide (0 < k) && decide (k ≤ 1099511627776) && decide (k.toNat * j.bytes ≤ 140737488355328)) ((M.new (.cells (zerosS (cellsS j.zero) (k.toNat * j.size)) e false)).bind fun b => .ret (.sl b 0 k.toNat j.size none))
          | _, _ => .fail)
        else .want (isSrcD iu.d) ((srcM j.size x).bind fun r => if r.1 = 0 then (match s with
          | .ns => .ret .ns
          | .sl b o len z c => .ret (.sl b o len z c)
          | .emp => .ret .emp
          | _ => .fail)
        else match s with
          | .ns => .want (decide (r.1 ≤ 1099511627776) && decide (r.1 * j.bytes ≤ 140737488355328)) ((M.new (.cells r.2 e false)).bind fun b => .ret (.sl b 0 r.1 j.size none))
          | .sl b o len z (some cap) => .want (z == j.size && decide (len + r.1 ≤ 1099511627776) && decide ((len + r.1) * j.bytes ≤ 140737488355328))
              (if len + r.1 ≤ cap then (writeM b (o + len * j.size) r.2).bind fun _ => .ret (.sl b o (len + r.1) z (some cap))
               else (readM b o (len * j.size)).bind fun old => (M.new (.cells (old ++ r.2) e false)).bind fun nb => .ret (.sl nb 0 (len + r.1) z none))
          | .sl b 0 len z none => .want (z == j.size && decide (len + r.1 ≤ 1099511627776) && decide ((len + r.1) * j.bytes ≤ 140737488355328) && r.2.all isCell)
              ((M.get b).bind fun bk => match bk with
                | .cells l tb _ => .want (tb == e && decide (len * j.size ≤ l.length)) ((M.put b none).bind fun _ => (M.new (.cells (l.take (len * j.size) ++ r.2) e false)).bind fun nb => .ret (.sl nb 0 (len + r.1) z none))
                | _ => .fail)
          | _ => .fail))
      | none => .fail
    | _ => .fail
  | _, _ => .fail

theorem grownCap_ge' (w : World) (need old : Nat) (e : TypeId) : need ≤ grownCap w need old e := grownCap_ge w need old e

theorem size_zeroCells' (z : Array Value) (n : Nat) : (Builtin.zeroCells z n).size = n * z.size := by simp [Builtin.zeroCells]
/-- a block that grows holds what it held and what came; its end is not known -/
theorem newGrown_ok (I : Inv base w0 E h w) {l : List SV} {C : List Value} {t sz need cap : Nat} {Z : Array Value} {b : Nat} (hr : (M.new (.cells l t false)).run n h = some (b, n', h', F)) (hf : Free E n n')
    (hl : RelL E l C) (hC : C.length = need * sz) (hZ : Z.size = sz) (hcap : need ≤ cap) :
    n' = n + 1 ∧ ∃ E', Inv base w0 E' h' (w.drew.alloc (.cells (C.toArray ++ Builtin.zeroCells Z (cap - need)) t)) ∧ Grew E E' n n' ∧ Rel E' (.sl b 0 need sz none) (.slice (some ⟨w.heap.size, 0, none⟩) need cap) := by
  have hlen := hl.length
  have hsz : (C.toArray ++ Builtin.zeroCells Z (cap - need)).size = cap * sz := by
    rw [Array.size_append, size_zeroCells', hZ]
    simp only [List.size_toArray, hC]
    rw [← Nat.add_mul]
    congr 1
    omega
  have hle : need * sz ≤ cap * sz := Nat.mul_le_mul_right _ hcap
  obtain ⟨rfl, rfl, E', I', G, hE'⟩ := newM_ok I.drew hr hf (C := C.toArray ++ Builtin.zeroCells Z (cap - need)) (by
    simp only [Array.toList_append]
    rw [hlen, List.take_append_of_le_length (by simp), List.take_of_length_le (by simp)]
    exact hl) (by rw [hsz]; omega) (fun e => by cases e)
  refine ⟨rfl, E', I', G, .sl (by rw [hE']; rfl) (fun k e => by cases e) hcap (fun _ => by rw [hsz]; omega)⟩

theorem appendM_ok (hD : D.Ok) (I : Inv base w0 E h w) (hf : Free E n n') {t u : Nat} {ty : TypeId} {s x : SV} {S X : Value} (hs : Rel E s S) (hx : Rel E x X) (hr : (appendM D t u s x).run n h = some (v, n', h', F)) :
    ∃ U w' E', (Builtin.append_ #[t, u] ty #[S, X]).run D.P w = .ok U w' ∧ Rel E' v U ∧ Inv base w0 E' h' w' ∧ Grew E E' n n' := by
  unfold appendM at hr
  split at hr
  case h_2 => simp [M.fail] at hr
  rename_i i iu hti htu
  have T := hD.ti t i hti
  have Tu := hD.ti u iu htu
  split at hr
  case h_2 => simp [M.fail] at hr
  rename_i e hd
  have hut := T.und
  rw [hd] at hut
  split at hr
  case h_2 => simp [M.fail] at hr
  rename_i j hj
  have Te := hD.ti e j hj
  obtain ⟨If, f1, f2, f3, Z, f4, f5⟩ := Te.info
  have hz : RelL E (cellsS j.zero) Z.cells.toList := cellsS_rel (Rel.of_toV f5)
  have hZs : Z.cells.size = j.size := by have := hz.length; rw [Te.zc] at this; simpa using this.symm
  have hpos := (M.want_some hr).1
  replace hr := (M.want_some hr).2
  have hpos' : 0 < j.size := by simpa using hpos
  split at hr
  · -- zeros
    rename_i hint
    split at hr
    case h_2 => simp [M.fail] at hr
    rename_i q k
    have hw := (M.want_some hr).1
    replace hr := (M.want_some hr).2
    simp only [Bool.and_eq_true, decide_eq_true_eq] at hw
    obtain ⟨⟨q1, q2⟩, q3⟩ := hw
    obtain ⟨b, n1, h1, F1, F2, e1, e2, -⟩ := M.bind_some hr
    clear hr
    obtain ⟨rfl, rfl, rfl⟩ := M.ret_some e2
    cases hs with
    | ns =>
    cases hx with
    | int _ _ =>
    have hq : ∃ qq, iu.d = .int qq := by
      cases hdd : iu.d <;> simp [hdd, isIntD] at hint
      exact ⟨_, rfl⟩
    obtain ⟨qq, hqq⟩ := hq
    have huu := Tu.und
    rw [hqq] at huu
    have hrun := run_app_zeros (P := D.P) (w := w) (ty := ty) (q' := q) hut huu f1 f4 q1 q2 (by rw [f3]; exact q3) (by rw [f2]; exact hpos')
    have hzz := zerosS_ok (k := k.toNat * j.size) hz (fun e => by rw [Te.zc] at e; omega)
    have hmade : (Builtin.zeroCells Z.cells k.toNat).toList = (madeCells Z.cells (k.toNat * j.size)).toList := by
      simp [Builtin.zeroCells, madeCells, hZs]
    rw [← hmade] at hzz
    obtain ⟨rfl, E', I', G, R⟩ := newGrown_ok (cap := grownCap w k.toNat 0 e) (need := k.toNat) (sz := j.size) (Z := Z.cells) I e1 hf hzz (by simp [size_zeroCells', hZs]) hZs (grownCap_ge' w _ _ _)
    refine ⟨_, _, E', hrun, R, ?_, G⟩
    simpa using I'
  · rename_i hint
    obtain ⟨hint', hr⟩ := M.want_some hr
    obtain ⟨r, n1, h1, F1, F2, e1, e2, -⟩ := M.bind_some hr
    clear hr
    obtain ⟨rfl, rfl, g1, g2, C, C1, C2, C3⟩ := srcM_ok (P := D.P) I hx e1
    obtain ⟨k, c⟩ := r
    dsimp only at g1 g2 C1 C2 C3 e2
    have hlenC := C1.length
    split at e2
    · -- nothing comes
      rename_i hk0
      subst hk0
      have hC0 : C = [] := List.eq_nil_of_length_eq_zero (by simpa using C2)
      subst hC0
      have hfirst := C3 w rfl
      rw [← f2] at hfirst
      split at e2
      · cases hs with
        | ns =>
        obtain ⟨rfl, rfl, rfl⟩ := M.ret_some e2
        exact ⟨_, w, E, run_app_room hut Tu.und hint' f1 g1 hfirst (Nat.le_refl _) rfl, .ns, I, Grew.refl _ _⟩
      · cases hs with
        | sl hE c1 c2 c3 =>
        obtain ⟨rfl, rfl, rfl⟩ := M.ret_some e2
        exact ⟨_, w, E, run_app_room hut Tu.und hint' f1 g1 hfirst c2 (by simp [storeCells]), .sl hE c1 c2 c3, I, Grew.refl _ _⟩
      · cases hs with
        | emp =>
        obtain ⟨rfl, rfl, rfl⟩ := M.ret_some e2
        exact ⟨_, w, E, run_app_room hut Tu.und hint' f1 g1 hfirst (Nat.zero_le _) (by simp [storeCells]), .emp, I, Grew.refl _ _⟩
      · simp [M.fail] at e2
    · rename_i hk0
      have hfd := C3 w.drew rfl
      rw [← f2] at hfd
      split at e2
      · -- behind nothing
        cases hs with
        | ns =>
        have hw := (M.want_some e2).1
        replace e2 := (M.want_some e2).2
        simp only [Bool.and_eq_true, decide_eq_true_eq] at hw
        obtain ⟨b, n2, h2, F3, F4, e3, e4, -⟩ := M.bind_some e2
        clear e2
        obtain ⟨rfl, rfl, rfl⟩ := M.ret_some e4
        have hrun := run_app_grow (ty := ty) (ba := none) (len := 0) (cap := 0) (O := #[]) hut Tu.und hint' f1 f4 g1 (by exact run_firstCells_none _ _ _ _ _) hfd (by omega) (by omega) (by rw [f3]; simpa using hw.2)
        obtain ⟨rfl, E', I', G, R⟩ := newGrown_ok (cap := grownCap w k 0 e) (need := k) (sz := j.size) (Z := Z.cells) I e3 hf C1 C2 hZs (grownCap_ge' w _ _ _)
        simp only [Nat.zero_add] at hrun
        refine ⟨_, _, E', hrun, R, ?_, G⟩
        simpa using I'
      · -- behind a slice whose capacity is known
        rename_i b o len z cap
        cases hs with
        | sl hE c1 c2 c3 =>
        rename_i B m c'
        have hc' := c1 cap rfl
        subst hc'
        have hw := (M.want_some e2).1
        replace e2 := (M.want_some e2).2
        simp only [Bool.and_eq_true, decide_eq_true_eq, beq_iff_eq] at hw
        obtain ⟨⟨q1, q2⟩, q3⟩ := hw
        subst q1
        split at e2
        · rename_i hroom
          obtain ⟨uu, n2, h2, F3, F4, e3, e4, -⟩ := M.bind_some e2
          clear e2
          obtain ⟨rfl, rfl, rfl⟩ := M.ret_some e4
          obtain ⟨rfl, w', hst, I'⟩ := writeM_ok (P := D.P) I hE C1 e3
          have hfirst := C3 w rfl
          rw [← f2] at hfirst
          refine ⟨_, w', E, run_app_room hut Tu.und hint' f1 g1 hfirst hroom ?_, .sl hE (fun k e => by cases e; rfl) hroom (fun e => by cases e), I', Grew.refl _ _⟩
          dsimp only
          rw [add_cell, f2]
          exact hst
        · rename_i hroom
          obtain ⟨old, n2, h2, F3, F4, e3, e4, -⟩ := M.bind_some e2
          clear e2
          obtain ⟨rfl, rfl, hl, hm, L, L1, L2, L3⟩ := readM_ok I hE e3
          obtain ⟨nb, n3, h3, F5, F6, e5, e6, -⟩ := M.bind_some e4
          obtain ⟨rfl, rfl, rfl⟩ := M.ret_some e6
          have hO := run_firstCells_some (P := D.P) w.drew j.size len ⟨B, o, none⟩ len c' L L2 L3
          rw [← f2] at hO
          have hrun := run_app_grow (ty := ty) (ba := some ⟨B, o, none⟩) (len := len) (cap := c') (O := L.toArray) hut Tu.und hint' f1 f4 g1 hO hfd (by omega) q2 (by rw [f3]; exact q3)
          obtain ⟨rfl, E', I', G, R⟩ := newGrown_ok (cap := grownCap w (len + k) c' e) (need := len + k) (sz := j.size) (Z := Z.cells) I e5 hf (L1.append C1) (by rw [List.length_append, L2, C2, Nat.add_mul]) hZs (grownCap_ge' w _ _ _)
          refine ⟨_, _, E', hrun, R, ?_, G⟩
          simpa using I'
      · -- behind a slice whose capacity is not known
        rename_i b len z
        cases hs with
        | sl hE c1 c2 c3 =>
        rename_i B m c'
        have c4 := c3 rfl
        have hw := (M.want_some e2).1
        replace e2 := (M.want_some e2).2
        simp only [Bool.and_eq_true, decide_eq_true_eq, beq_iff_eq] at hw
        obtain ⟨⟨⟨q1, q2⟩, q3⟩, q4⟩ := hw
        subst q1
        obtain ⟨bk, n2, h2, F3, F4, e3, e4, -⟩ := M.bind_some e2
        clear e2
        obtain ⟨hbn, hg, rfl, rfl⟩ := M.get_some e3
        cases bk with
        | map es => simp [M.fail] at e4
        | iter0 => simp [M.fail] at e4
        | cells l tb xx =>
          dsimp only at e4
          obtain ⟨hw2, e4⟩ := M.want_some e4
          simp only [Bool.and_eq_true, decide_eq_true_eq, beq_iff_eq] at hw2
          obtain ⟨r1, r2⟩ := hw2
          subst r1
          obtain ⟨uu, n3, h3, F5, F6, e5, e6, -⟩ := M.bind_some e4
          obtain ⟨-, -, rfl, hget⟩ := M.put_some e5
          obtain ⟨nb, n4, h4, F7, F8, e7, e8, -⟩ := M.bind_some e6
          obtain ⟨rfl, rfl, rfl⟩ := M.ret_some e8
          obtain ⟨cs, d1, d2, d3, d4, d5⟩ := I.cells hg hE
          have hlc : l.length ≤ cs.toList.length := by simp; omega
          have hL1 : RelL E (l.take (len * j.size)) (cs.toList.take (len * j.size)) := by
            have := d5.take (len * j.size)
            rw [List.take_take, Nat.min_eq_left r2] at this
            exact this
          by_cases hroom : len + k ≤ c'
          · -- it lies where it lay
            obtain ⟨rfl, rfl, hget2⟩ := M.new_some e7
            have hfit : len * j.size + C.length ≤ cs.size := by
              have : (len + k) * j.size ≤ c' * j.size := Nat.mul_le_mul_right _ hroom
              rw [Nat.add_mul] at this
              omega
            have hst := run_storeCells_at D.P B (len * j.size) tb C 0 cs w d1 (by simpa using hfit) (C1.allCells q4)
            simp only [Nat.add_zero] at hst
            have hfirst := C3 w rfl
            rw [← f2] at hfirst
            have hrun := run_app_room (ty := ty) (ba := some ⟨B, 0, none⟩) (len := len) (w' := w.setRow B (cs.toList.take (len * j.size) ++ C ++ cs.toList.drop (len * j.size + C.length)).toArray) hut Tu.und hint' f1 g1 hfirst hroom (by dsimp only; rw [add_cell, f2, Nat.zero_add]; exact hst)
            have hEn : E nb = none := hf nb (Nat.le_refl _) (by omega)
            have hle : E.le (fun q => if q = nb then some (B, m) else E q) := fun q x hq => by
              by_cases hqn : q = nb
              · subst hqn; rw [hEn] at hq; cases hq
              · simp [hqn, hq]
            have hnew := setRow_heap w B cs (cs.toList.take (len * j.size) ++ C ++ cs.toList.drop (len * j.size + C.length)).toArray tb (0, 0) d1
            obtain ⟨I', G⟩ := I.alias (w' := w.setRow B (cs.toList.take (len * j.size) ++ C ++ cs.toList.drop (len * j.size + C.length)).toArray) (c := nb) (s' := .cells (l.take (len * j.size) ++ c) tb false) hg hE hEn (by omega)
              (fun q => by rw [hget2, hget]) (by
                rw [hnew]
                refine .cells ?_ ?_ (fun e => by cases e) ?_
                · simp; omega
                · have := hL1.length; simp at this ⊢; omega
                · have e1 : (l.take (len * j.size) ++ c).length = (cs.toList.take (len * j.size) ++ C).length := by
                    rw [List.length_append, List.length_append, hL1.length, hlenC]
                  rw [e1, List.take_left]
                  exact (hL1.mono hle).append (C1.mono hle)) (fun q hq => setRow_other w B q _ hq) (by simp) rfl rfl rfl
            refine ⟨_, _, _, hrun, .sl (B := B) (m := m) (by simp) (fun k e => by cases e) hroom (fun _ => c4), I', G⟩
          · -- it lies elsewhere
            have hO : (Builtin.firstCells If.size len (.slice (some ⟨B, 0, none⟩) len c')).run D.P w.drew = .ok (cs.toList.take (len * j.size)).toArray w.drew := by
              rw [f2]
              refine run_firstCells_some w.drew j.size len _ _ _ _ (by simp; omega) fun q u hq => ?_
              rw [add_cell, Nat.zero_add]
              show w.cell? _ = _
              rw [cell_of_row w B q cs tb (0, 0) d1]
              rw [List.getElem?_take] at hq
              split at hq
              · simpa using hq
              · cases hq
            have hrun := run_app_grow (ty := ty) (ba := some ⟨B, 0, none⟩) (len := len) (cap := c') (O := (cs.toList.take (len * j.size)).toArray) hut Tu.und hint' f1 f4 g1 hO hfd (by omega) q2 (by rw [f3]; exact q3)
            have I2 : Inv base w0 E h3 w := I.del hget
            obtain ⟨rfl, E', I', G, R⟩ := newGrown_ok (cap := grownCap w (len + k) c' tb) (need := len + k) (sz := j.size) (Z := Z.cells) I2 e7 hf (hL1.append C1) (by rw [List.length_append, C2, Nat.add_mul]; simp; omega) hZs (grownCap_ge' w _ _ _)
            refine ⟨_, _, E', hrun, R, ?_, G⟩
            simpa using I'
      · simp [M.fail] at e2

def copyM (D : Dt) (t : Nat) (d s : SV) : M SV :=
  match D.ti t with
  | some i => match i.d with
    | .slice e => match D.ti e with
      | some j => match d, s with
        | .sl b o k z _, .sl b2 o2 k2 z2 _ => .want (z == j.size && z2 == j.size) ((readM b2 o2 (Nat.min k2 k * j.size)).bind fun l => (writeM b o l).bind fun _ => .ret (.int .i64 (Nat.min k2 k : Nat)))
        | _, _ => .fail
      | none => .fail
    | _ => .fail
  | none => .fail
theorem copyM_ok (hD : D.Ok) (I : Inv base w0 E h w) {t u : Nat} {ty : TypeId} {d s : SV} {Dv S : Value} (hd : Rel E d Dv) (hs : Rel E s S) (hr : (copyM D t d s).run n h = some (v, n', h', F)) :
    n' = n ∧ ∃ U w', (Builtin.copy_ #[t, u] ty #[Dv, S]).run D.P w = .ok U w' ∧ Rel E v U ∧ Inv base w0 E h' w' := by
  unfold copyM at hr
  split at hr
  case h_2 => simp [M.fail] at hr
  rename_i i hti
  have T := hD.ti t i hti
  split at hr
  case h_2 => simp [M.fail] at hr
  rename_i e hde
  have hut := T.und
  rw [hde] at hut
  split at hr
  case h_2 => simp [M.fail] at hr
  rename_i j hj
  obtain ⟨If, f1, f2, f3, Z, f4, f5⟩ := (hD.ti e j hj).info
  split at hr
  case h_2 => simp [M.fail] at hr
  rename_i b o k z c b2 o2 k2 z2 c2
  obtain ⟨hw, hr⟩ := M.want_some hr
  simp only [Bool.and_eq_true, beq_iff_eq] at hw
  obtain ⟨l, n1, h1, F1, F2, e1, e2, -⟩ := M.bind_some hr
  obtain ⟨uu, n2, h2, F3, F4, e3, e4, -⟩ := M.bind_some e2
  obtain ⟨rfl, rfl, rfl⟩ := M.ret_some e4
  cases hd with
  | sl hE p1 p2 p3 =>
  rename_i B m c'
  cases hs with
  | sl hE2 p4 p5 p6 =>
  rename_i B2 m2 c2'
  obtain ⟨rfl, rfl, hl, hm, L, L1, L2, L3⟩ := readM_ok I hE2 e1
  obtain ⟨rfl, w', hst, I'⟩ := writeM_ok (P := D.P) I hE L1 e3
  have hload := run_loadCells_list (P := D.P) w ⟨B2, o2, none⟩ L L3
  rw [L2, ← f2] at hload
  refine ⟨rfl, .int .i64 (Nat.min k2 k : Nat), w', ?_, .int _ _, I'⟩
  simp [Builtin.copy_, run_underlying hut, Builtin.lenOf, Builtin.firstCells, run_sizeOf f1, hload, hst, goInt]

def lenM (D : Dt) (t : Nat) (x : SV) : M SV :=
  match D.ti t with
  | some i => match i.d, x with
    | .slice _, .sl _ _ k _ _ => .ret (.int .i64 (k : Nat))
    | .slice _, .ns => .ret (.int .i64 0)
    | .slice _, .emp => .ret (.int .i64 0)
    | .map _ _, .nm => .ret (.int .i64 0)
    | .map _ _, .map b => (M.get b).bind fun s => match s with
      | .map es => .ret (.int .i64 (es.length : Nat))
      | _ => .fail
    | .array k _, _ => .ret (.int .i64 (k : Nat))
    | .pointer arr, _ => match D.ti arr with
      | some j => match j.d with
        | .array k _ => .ret (.int .i64 (k : Nat))
        | _ => .fail
      | none => .fail
    | _, _ => .fail
  | none => .fail
theorem lenM_ok (hD : D.Ok) (I : Inv base w0 E h w) {t : Nat} {ty : TypeId} {x : SV} {X : Value} (hx : Rel E x X) (hr : (lenM D t x).run n h = some (v, n', h', F)) :
    n' = n ∧ h' = h ∧ ∃ U, (Builtin.len_ #[t] ty #[X]).run D.P w = .ok U w ∧ Rel E v U := by
  unfold lenM at hr
  split at hr
  case h_2 => simp [M.fail] at hr
  rename_i i hti
  have hu := (hD.ti t i hti).und
  split at hr
  · rename_i hd
    rw [hd] at hu
    cases hx
    obtain ⟨rfl, rfl, rfl⟩ := M.ret_some hr
    exact ⟨rfl, rfl, _, by simp [Builtin.len_, run_underlying hu, goInt], .int _ _⟩
  · rename_i hd
    rw [hd] at hu
    cases hx
    obtain ⟨rfl, rfl, rfl⟩ := M.ret_some hr
    exact ⟨rfl, rfl, _, by simp [Builtin.len_, run_underlying hu, goInt], .int _ _⟩
  · rename_i hd
    rw [hd] at hu
    cases hx
    obtain ⟨rfl, rfl, rfl⟩ := M.ret_some hr
    exact ⟨rfl, rfl, _, by simp [Builtin.len_, run_underlying hu, goInt], .int _ _⟩
  · rename_i hd
    rw [hd] at hu
    cases hx
    obtain ⟨rfl, rfl, rfl⟩ := M.ret_some hr
    exact ⟨rfl, rfl, _, by simp [Builtin.len_, run_underlying hu, goInt], .int _ _⟩
  · rename_i b hd
    rw [hd] at hu
    cases hx with
    | map hE =>
    rename_i B m
    obtain ⟨s, n1, h1, F1, F2, e1, e2, -⟩ := M.bind_some hr
    obtain ⟨-, hg, rfl, rfl⟩ := M.get_some e1
    cases s with
    | cells l t x => simp [M.fail] at e2
    | iter0 => simp [M.fail] at e2
    | map es =>
      dsimp only at e2
      obtain ⟨rfl, rfl, rfl⟩ := M.ret_some e2
      obtain ⟨L, clock, l1, l2, l3, l4⟩ := I.map hg hE
      have hlen := l2.length
      simp at hlen
      have hgo : (getObj B).run D.P w = .ok (.map L clock) w := by simp [getObj, Sem.run, l1]
      refine ⟨rfl, rfl, .int .i64 (es.length : Nat), ?_, .int _ _⟩
      simp [Builtin.len_, run_underlying hu, hgo, goInt, hlen]
  · rename_i hd
    rw [hd] at hu
    obtain ⟨rfl, rfl, rfl⟩ := M.ret_some hr
    refine ⟨rfl, rfl, _, ?_, .int _ _⟩
    cases hx <;> simp [Builtin.len_, run_underlying hu, goInt] <;> rfl
  · rename_i arr hd
    rw [hd] at hu
    split at hr
    case h_2 => simp [M.fail] at hr
    rename_i j hj
    split at hr
    case h_2 => simp [M.fail] at hr
    rename_i k e hjd
    have hja := (hD.ti arr j hj).und
    rw [hjd] at hja
    obtain ⟨rfl, rfl, rfl⟩ := M.ret_some hr
    refine ⟨rfl, rfl, _, ?_, .int _ _⟩
    cases hx <;> simp [Builtin.len_, run_underlying hu, run_underlying hja, goInt] <;> rfl
  · simp [M.fail] at hr

def capM (D : Dt) (t : Nat) (x : SV) : M SV :=
  match D.ti t with
  | some i => match i.d, x with
    | .slice _, .sl _ _ _ _ (some c) => .ret (.int .i64 (c : Nat))
    | .slice _, .ns => .ret (.int .i64 0)
    | _, _ => .fail
  | none => .fail
theorem capM_ok (hD : D.Ok) {t : Nat} {ty : TypeId} {x : SV} {X : Value} (hx : Rel E x X) (hr : (capM D t x).run n h = some (v, n', h', F)) :
    n' = n ∧ h' = h ∧ ∃ U, (Builtin.cap_ #[t] ty #[X]).run D.P w = .ok U w ∧ Rel E v U := by
  unfold capM at hr
  split at hr
  case h_2 => simp [M.fail] at hr
  rename_i i hti
  have hu := (hD.ti t i hti).und
  split at hr
  · rename_i c hd
    rw [hd] at hu
    cases hx with
    | sl hE c1 c2 c3 =>
    have := c1 c rfl
    subst this
    obtain ⟨rfl, rfl, rfl⟩ := M.ret_some hr
    exact ⟨rfl, rfl, _, by simp [Builtin.cap_, run_underlying hu, goInt], .int _ _⟩
  · rename_i hd
    rw [hd] at hu
    cases hx
    obtain ⟨rfl, rfl, rfl⟩ := M.ret_some hr
    exact ⟨rfl, rfl, _, by simp [Builtin.cap_, run_underlying hu, goInt], .int _ _⟩
  · simp [M.fail] at hr

/-- a conversion of bytes to bytes: what lies there is not looked at any more -/
def convM (D : Dt) (src dst : Nat) (x : SV) : M SV :=
  match D.ti src, D.ti dst, x with
  | some i, some k, .sl b o len z c => match i.d, k.d with
    | .slice _, .slice e => match D.ti e with
      | some j => match j.d with
        | .int .u8 => .want (src == dst) ((M.put b none).bind fun _ => .ret (.sl b o len z c))
        | _ => .fail
      | none => .fail
    | _, _ => .fail
  | _, _, _ => .fail
theorem freeze_other (w : World) (A : Addr) (m k : Nat) (hk : k ≠ A.block) : (w.freeze A m).heap[k]? = w.heap[k]? := by
  unfold World.freeze
  split
  · rfl
  · simp only [Array.getElem?_modify]
    rw [if_neg (by omega)]
theorem convM_ok (hD : D.Ok) (I : Inv base w0 E h w) {src dst : Nat} {x : SV} {X : Value} (hx : Rel E x X) (hr : (convM D src dst x).run n h = some (v, n', h', F)) :
    n' = n ∧ ∃ U w', (convert src dst X).run D.P w = .ok U w' ∧ Rel E v U ∧ Inv base w0 E h' w' := by
  unfold convM at hr
  split at hr
  case h_2 => simp [M.fail] at hr
  rename_i i k b o len z c hti htk
  split at hr
  case h_2 => simp [M.fail] at hr
  rename_i es e hid hkd
  have hui := (hD.ti src i hti).und
  rw [hid] at hui
  have huk := (hD.ti dst k htk).und
  rw [hkd] at huk
  split at hr
  case h_2 => simp [M.fail] at hr
  rename_i j hj
  split at hr
  case h_2 => simp [M.fail] at hr
  rename_i hjd
  have huj := (hD.ti e j hj).und
  rw [hjd] at huj
  obtain ⟨hsd, hr⟩ := M.want_some hr
  obtain ⟨uu, n1, h1, F1, F2, e1, e2, -⟩ := M.bind_some hr
  obtain ⟨hbn, hs, rfl, hget⟩ := M.put_some e1
  obtain ⟨rfl, rfl, rfl⟩ := M.ret_some e2
  cases hx with
  | sl hE c1 c2 c3 =>
  rename_i B m c'
  obtain ⟨s0, hs0⟩ := Option.isSome_iff_exists.1 hs
  obtain ⟨cnt, hmk⟩ : ∃ w', (markStringish ⟨B, o, none⟩).run D.P w = .ok () w' ∧ (∀ q, q ≠ B → w'.heap[q]? = w.heap[q]?) ∧ w'.heap.size = w.heap.size ∧ w'.os = w.os ∧ w'.tape = w.tape ∧ w'.output = w.output := by
    simp only [markStringish, Sem.run_bind, run_shape, Result.andThen_ok]
    cases hsh : w.shape? B with
    | none => exact ⟨w, by simp, fun _ _ => rfl, rfl, rfl, rfl, rfl⟩
    | some p =>
      obtain ⟨te, cn⟩ := p
      refine ⟨w.freeze ⟨B, cn, none⟩ 1, by simp, fun q hq => freeze_other w _ 1 q hq, ?_, ?_, ?_, ?_⟩ <;> simp [World.freeze]
  refine ⟨rfl, .slice (some ⟨B, o, none⟩) len c', cnt, ?_, .sl hE c1 c2 c3, ?_⟩
  · simp only [convert, Sem.run_bind, run_underlying hui, run_underlying huk, Result.andThen_ok, hsd, run_underlying huj, hmk.1, Sem.run_pure]
  · have q : ∀ p t, h'.get p = some t → p ≠ b ∧ h.get p = some t := fun p t hp => by
      rw [hget] at hp
      split at hp
      · cases hp
      · exact ⟨by assumption, hp⟩
    refine ⟨fun p t hp => ?_, fun p r s t B' m' k' hp hr => I.inj p r s t B' m' k' (q _ _ hp).2 (q _ _ hr).2, fun p B' m' hp => ?_, ?_, ?_⟩
    · obtain ⟨hne, hp'⟩ := q p t hp
      obtain ⟨B', m', g1, g2⟩ := I.blk p t hp'
      refine ⟨B', m', g1, ?_⟩
      rw [hmk.2.1 B' (fun e => hne (by subst e; exact I.inj p b t s0 B' m' m hp' hs0 g1 hE))]
      exact g2
    · rw [hmk.2.2.1]; exact I.lo p B' m' hp
    · refine I.bel.trans ⟨hmk.2.2.2.1, hmk.2.2.2.2.1, hmk.2.2.2.2.2, by rw [hmk.2.2.1]; exact Nat.le_refl _, fun k hk => hmk.2.1 k ?_⟩
      have := (I.lo b B m hE).1
      omega
    · rw [hmk.2.2.1]; exact I.big
end
end Go.Proofs.YtcoagfnkcbfbaaaGreatDoor
