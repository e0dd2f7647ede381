/-
  The runner, sixth part: one operation, whatever it is.
-/
import Derived.Test.YtcoagfnkcbfbaaaGreatDoorSx5
namespace Go.Proofs.YtcoagfnkcbfbaaaGreatDoor
open Go.RowKit

def builtinM (D : Dt) (ev : Operand → Option SV) (o : Oper) (b : Builtin) (args : List Operand) (ts : List TypeId) : M SV :=
  match b, args, ts with
  | .len, [x], [t] => match ev x with
    | some (.str _) => pureM D ev o
    | some v => lenM D t v
    | none => .fail
  | .cap, [x], [t] => match ev x with
    | some v => capM D t v
    | none => .fail
  | .append, [s, x], [t, u] => match ev s, ev x with
    | some s, some x => appendM D t u s x
    | _, _ => .fail
  | .copy, [d, s], [t, _] => match ev d, ev s with
    | some d, some s => copyM D t d s
    | _, _ => .fail
  | .min, _, _ => pureM D ev o
  | .max, _, _ => pureM D ev o
  | _, _, _ => .fail

def opM (D : Dt) (callF : Nat → List SV → M SV) (ev : Operand → Option SV) (o : Oper) : M SV :=
  match o.op with
  | .move x => .ofOpt (ev x)
  | .assign x => .ofOpt (ev x)
  | .pick c x y => match ev c with
    | some (.bool true) => .ofOpt (ev x)
    | some (.bool false) => .ofOpt (ev y)
    | _ => .fail
  | .extract t i => match ev t with
    | some (.tup l) => .ofOpt l[i]?
    | _ => .fail
  | .nilCheck x => match ev x with
    | some (.ptr b o) => .ret (.ptr b o)
    | some (.fn (.func f) p q) => .ret (.fn (.func f) p q)
    | _ => .fail
  | .alloc t => match D.ti t with
    | some i => (M.new (.cells (cellsS i.zero) t true)).bind fun b => .ret (.ptr b 0)
    | none => .fail
  | .box t x => match ev x with
    | some v => (M.new (.cells (cellsS v) t true)).bind fun b => .ret (.ptr b 0)
    | none => .fail
  | .build t ps => buildM D t (partsS ev ps.toList)
  | .buildSlice t len ps => buildSliceM D t len (partsS ev ps.toList)
  | .load t x => match ev x with
    | some p => loadM D t p
    | none => .fail
  | .store t p x => match ev p, ev x with
    | some p, some x => storeM D t p x
    | _, _ => .fail
  | .fieldAddr t x f => match ev x with
    | some p => fieldAddrM D t p f
    | none => .fail
  | .indexAddr t x i => match ev x, ev i with
    | some p, some i => indexAddrM D t p i
    | _, _ => .fail
  | .field t x f => match ev x with
    | some p => fieldM D t p f
    | none => .fail
  | .index t x i => match ev x, ev i with
    | some (.agg l), some i => indexM D t (.agg l) i
    | _, _ => pureM D ev o
  | .slice t x lo hi mx => match ev x with
    | some (.str _) => pureM D ev o
    | some v => sliceM D ev t v lo hi mx
    | none => .fail
  | .makeFunc f p q => match optAll ev p.toList, optAll ev q.toList with
    | some p, some q => .ret (.fn f p q)
    | _, _ => .fail
  | .makeMap _ none => (M.new (.map [])).bind fun b => .ret (.map b)
  | .makeSlice t l c => match ev l, ev c with
    | some l, some c => makeSliceM D t l c
    | _, _ => .fail
  | .lookup t m k c => match ev m, ev k with
    | some m, some k => lookupM D t m k c
    | _, _ => .fail
  | .mapUpdate t m k x => match ev m, ev k, ev x with
    | some m, some k, some x => mapUpdateM D t m k x
    | _, _, _ => .fail
  | .range t x => match D.ti t, ev x with
    | some i, some .nm => match i.d with
      | .map _ _ => (M.new .iter0).bind fun b => .ret (.ptr b 0)
      | _ => .fail
    | _, _ => .fail
  | .next x false => match ev x with
    | some (.ptr b 0) => (M.get b).bind fun s => match s with
      | .iter0 => .ret (.tup [.bool false])
      | _ => .fail
    | _ => .fail
  | .convert s d x => match ev x with
    | some (.sl b p k z c) => convM D s d (.sl b p k z c)
    | _ => pureM D ev o
  | .binOp op t x y _ => match ev x, ev y with
    | some p, some q => if nilEq p q then nilM D op t p q else pureM D ev o
    | _, _ => .fail
  | .call c => match c.callee with
    | .builtin b => builtinM D ev o b c.args.toList c.argTypes.toList
    | .value f => match ev f, optAll ev c.args.toList with
      | some (.fn (.func g) p q), some l => callF g (p ++ l ++ q)
      | _, _ => .fail
    | .invoke _ _ => .fail
  | .unOp _ _ _ => pureM D ev o
  | .makeInterface _ _ => pureM D ev o
  | .typeAssert _ _ _ _ => pureM D ev o
  | _ => .fail

/-- what a call comes to -/
def CallOk (P : Program) (base : Nat) (w0 : World) (callF : Nat → List SV → M SV) : Prop :=
  ∀ (g : Nat) (vs : List SV) (Vs : Array Value) (E : Env) (h : Tr) (w : World) (n : Nat) (v : SV) (n' : Nat) (h' : Tr) (F : Ft), (callF g vs).run n h = some (v, n', h', F) → RelL E vs Vs.toList → Inv base w0 E h w → Free E n n' →
    (∃ E' V w', (callFunc g Vs).run P w = .ok (.value V) w' ∧ Rel E' v V ∧ Inv base w0 E' h' w' ∧ Grew E E' n n') ∨
    ((callFunc g Vs).run P w = .ok (.enter g Vs) w ∧ Calls P g Vs w fun e w' => ∃ E' V, e = .returned V ∧ Rel E' v V ∧ Inv base w0 E' h' w' ∧ Grew E E' n n')

theorem RelL.of_optAll {E : Env} {ev : Operand → Option SV} {a : Act} (hT : ∀ x v, ev x = some v → Rel E v (a.eval x)) : ∀ {xs : List Operand} {l : List SV}, optAll ev xs = some l → RelL E l (xs.map a.eval)
  | [], l, h => by cases h; exact .nil
  | x :: xs, l, h => by
    obtain ⟨b, s, hb, hs, rfl⟩ := optAll_cons h
    exact .cons (hT _ _ hb) (RelL.of_optAll hT hs)

section
variable {D : Dt} {ev : Operand → Option SV} {o : Oper} {a : Act} {base : Nat} {w0 : World} {E : Env} {h h' : Tr} {w : World} {n n' : Nat} {F : Ft} {v : SV}

/-- a step that leaves memory as it is -/
theorem does_of (I : Inv base w0 E h w) (r : n' = n ∧ h' = h ∧ ∃ U, (execOp a.eval o).run D.P w = .ok (.value U) w ∧ Rel E v U) : Does D.P o a w base w0 E h' n n' v := by
  obtain ⟨rfl, rfl, U, h1, h2⟩ := r
  exact ⟨_, E, w, U, h1, .inl rfl, h2, I, Grew.refl _ _⟩
theorem does_val {s : Sem Value} (hs : execOp a.eval o = (do pure (.value (← s)))) (r : ∃ U w' E', s.run D.P w = .ok U w' ∧ Rel E' v U ∧ Inv base w0 E' h' w' ∧ Grew E E' n n') : Does D.P o a w base w0 E h' n n' v := by
  obtain ⟨U, w', E', h1, h2, h3, h4⟩ := r
  exact ⟨.value U, E', w', U, by rw [hs]; simp [h1], .inl rfl, h2, h3, h4⟩
theorem does_same {s : Sem Value} (I : Inv base w0 E h w) (hs : execOp a.eval o = (do pure (.value (← s)))) (r : n' = n ∧ h' = h ∧ ∃ U, s.run D.P w = .ok U w ∧ Rel E v U) : Does D.P o a w base w0 E h' n n' v := by
  obtain ⟨rfl, rfl, U, h1, h2⟩ := r
  exact does_val hs ⟨U, w, E, h1, h2, I, Grew.refl _ _⟩
theorem does_unit {s : Sem Unit} (hs : execOp a.eval o = (do s; pure .skip)) (hv : v = uns) (hn : n' = n) (r : ∃ w', s.run D.P w = .ok () w' ∧ Inv base w0 E h' w') : Does D.P o a w base w0 E h' n n' v := by
  obtain ⟨w', h1, h2⟩ := r
  subst hv
  subst hn
  exact ⟨.skip, E, w', undef, by rw [hs]; simp [h1], .inr ⟨rfl, rfl⟩, rel_uns E, h2, Grew.refl _ _⟩

theorem toList_one {α : Type} {xs : Array α} {x : α} (h : xs.toList = [x]) : xs = #[x] := by
  apply Array.ext'; simpa using h
theorem toList_two {α : Type} {xs : Array α} {x y : α} (h : xs.toList = [x, y]) : xs = #[x, y] := by
  apply Array.ext'; simpa using h

theorem builtinM_ok (hD : D.Ok) (hT : ∀ x v, ev x = some v → Rel E v (a.eval x)) (I : Inv base w0 E h w) (hf : Free E n n') {c : Call} {b : Builtin} (hop : o.op = .call c) (hc : c.callee = .builtin b)
    (hr : (builtinM D ev o b c.args.toList c.argTypes.toList).run n h = some (v, n', h', F)) : Does D.P o a w base w0 E h' n n' v := by
  have hex : execOp a.eval o = builtin b c.argTypes o.type (c.args.map fun | .const _ => true | _ => false) (c.args.map a.eval) := by
    unfold execOp
    simp only [hop, resolve, hc]
    rfl
  unfold builtinM at hr
  split at hr
  · rename_i x t hx ht
    have hx' := toList_one hx
    have ht' := toList_one ht
    split at hr
    · exact pureM_ok hT I hr
    · rename_i vx _ hvx
      refine does_same (s := Builtin.len_ #[t] o.type #[a.eval x]) I ?_ (lenM_ok hD I (hT _ _ hvx) hr)
      rw [hex, hx', ht']
      simp [builtin]
    · simp [M.fail] at hr
  · rename_i x t hx ht
    have hx' := toList_one hx
    have ht' := toList_one ht
    split at hr
    · rename_i vx hvx
      refine does_same (s := Builtin.cap_ #[t] o.type #[a.eval x]) I ?_ (capM_ok hD (hT _ _ hvx) hr)
      rw [hex, hx', ht']
      simp [builtin]
    · simp [M.fail] at hr
  · rename_i s x t u hx ht
    have hx' := toList_two hx
    have ht' := toList_two ht
    split at hr
    · rename_i vs vx hvs hvx
      refine does_val (s := Builtin.append_ #[t, u] o.type #[a.eval s, a.eval x]) ?_ (appendM_ok hD I hf (hT _ _ hvs) (hT _ _ hvx) hr)
      rw [hex, hx', ht']
      simp [builtin]
    · simp [M.fail] at hr
  · rename_i d s t u hx ht
    have hx' := toList_two hx
    have ht' := toList_two ht
    split at hr
    · rename_i vd vs hvd hvs
      obtain ⟨rfl, U, w', h1, h2, h3⟩ := copyM_ok (u := u) (ty := o.type) hD I (hT _ _ hvd) (hT _ _ hvs) hr
      refine does_val (s := Builtin.copy_ #[t, u] o.type #[a.eval d, a.eval s]) ?_ ⟨U, w', E, h1, h2, h3, Grew.refl _ _⟩
      rw [hex, hx', ht']
      simp [builtin]
    · simp [M.fail] at hr
  · exact pureM_ok hT I hr
  · exact pureM_ok hT I hr
  · simp [M.fail] at hr

theorem opM_ok (hD : D.Ok) {callF : Nat → List SV → M SV} (hcall : CallOk D.P base w0 callF) (hT : ∀ x v, ev x = some v → Rel E v (a.eval x)) (I : Inv base w0 E h w) (hf : Free E n n')
    (hr : (opM D callF ev o).run n h = some (v, n', h', F)) {K : Act → World → Prop} {Q : Exit → Act → World → Prop}
    (k : ∀ E' w' V, Rel E' v V → Inv base w0 E' h' w' → Grew E E' n n' → K (a.put o.dst V) w') : o.wp D.P a w K Q := by
  unfold opM at hr
  split at hr
  · rename_i x hop
    obtain ⟨h1, rfl, rfl⟩ := M.ofOpt_some hr
    exact (does_of I ⟨rfl, rfl, _, by simp [execOp, hop], hT _ _ h1⟩).wp k
  · rename_i x hop
    obtain ⟨h1, rfl, rfl⟩ := M.ofOpt_some hr
    exact (does_of I ⟨rfl, rfl, _, by simp [execOp, hop], hT _ _ h1⟩).wp k
  · rename_i c x y hop
    split at hr
    · rename_i hc
      obtain ⟨h1, rfl, rfl⟩ := M.ofOpt_some hr
      have hc' := hT _ _ hc
      generalize hq : a.eval c = C at hc'
      cases hc'
      exact (does_of I ⟨rfl, rfl, _, by simp [execOp, hop, hq, asBool], hT _ _ h1⟩).wp k
    · rename_i hc
      obtain ⟨h1, rfl, rfl⟩ := M.ofOpt_some hr
      have hc' := hT _ _ hc
      generalize hq : a.eval c = C at hc'
      cases hc'
      exact (does_of I ⟨rfl, rfl, _, by simp [execOp, hop, hq, asBool], hT _ _ h1⟩).wp k
    · simp [M.fail] at hr
  · rename_i t i hop
    split at hr
    · rename_i l ht
      obtain ⟨h1, rfl, rfl⟩ := M.ofOpt_some hr
      have ht' := hT _ _ ht
      generalize hq : a.eval t = C at ht'
      cases ht' with
      | tup hl =>
      obtain ⟨V, g1, g2⟩ := hl.get i v h1
      rw [Array.getElem?_toList] at g1
      exact (does_of I ⟨rfl, rfl, V, by simp [execOp, hop, hq, Instr.extract, g1], g2⟩).wp k
    · simp [M.fail] at hr
  · rename_i x hop
    split at hr
    · rename_i b off hx
      obtain ⟨rfl, rfl, rfl⟩ := M.ret_some hr
      have hx' := hT _ _ hx
      generalize hq : a.eval x = C at hx'
      cases hx' with
      | ptr hE => exact (does_of I ⟨rfl, rfl, _, by simp [execOp, hop, hq], .ptr hE⟩).wp k
    · rename_i f p q hx
      obtain ⟨rfl, rfl, rfl⟩ := M.ret_some hr
      have hx' := hT _ _ hx
      generalize hq : a.eval x = C at hx'
      cases hx' with
      | fn h1 h2 => exact (does_of I ⟨rfl, rfl, _, by simp [execOp, hop, hq], .fn h1 h2⟩).wp k
    · simp [M.fail] at hr
  · rename_i t hop
    split at hr
    · rename_i i hi
      have T := hD.ti t i hi
      obtain ⟨If, f1, f2, f3, Z, f4, f5⟩ := T.info
      obtain ⟨b, n1, h1, F1, F2, e1, e2, -⟩ := M.bind_some hr
      obtain ⟨rfl, rfl, rfl⟩ := M.ret_some e2
      have hz : RelL E (cellsS i.zero) Z.cells.toList := cellsS_rel (Rel.of_toV f5)
      have hlz := hz.length
      obtain ⟨rfl, rfl, E', I', G, hE'⟩ := newM_ok I e1 hf (C := Z.cells) (by rw [hlz, List.take_length]; exact hz) (by simp at hlz; omega) (fun _ => by simpa using hlz)
      refine (does_val (s := Instr.alloc t true (.tuple #[])) (by simp [execOp, hop]) ⟨.pointer (some ⟨w.heap.size, 0, none⟩), _, E', ?_, .ptr hE', I', G⟩).wp k
      simp [Instr.alloc, run_zeroValue f1 f4, newVar, newRow]
    · simp [M.fail] at hr
  · rename_i t x hop
    split at hr
    · rename_i vx hx
      obtain ⟨b, n1, h1, F1, F2, e1, e2, -⟩ := M.bind_some hr
      obtain ⟨rfl, rfl, rfl⟩ := M.ret_some e2
      have hz := cellsS_rel (hT _ _ hx)
      have hlz := hz.length
      obtain ⟨rfl, rfl, E', I', G, hE'⟩ := newM_ok I e1 hf (C := (a.eval x).cells) (by rw [hlz, List.take_length]; exact hz) (by simp at hlz; omega) (fun _ => by simpa using hlz)
      refine (does_val (s := Instr.box t (a.eval x)) (by simp [execOp, hop]) ⟨.pointer (some ⟨w.heap.size, 0, none⟩), _, E', ?_, .ptr hE', I', G⟩).wp k
      simp [Instr.box, newVar, newRow]
    · simp [M.fail] at hr
  · rename_i t ps hop
    cases hps : partsS ev ps.toList with
    | none => rw [hps] at hr; unfold buildM at hr; split at hr <;> simp_all [M.fail]
    | some l =>
      rw [hps] at hr
      have hp := partsS_ok hT hps
      refine (does_same (s := Instr.build t (ps.map fun (i, x) => (i, a.eval x))) I (by simp [execOp, hop]) (buildM_ok hD (by simpa using hp) hr)).wp k
  · rename_i t len ps hop
    cases hps : partsS ev ps.toList with
    | none => rw [hps] at hr; unfold buildSliceM at hr; split at hr <;> simp_all [M.fail]
    | some l =>
      rw [hps] at hr
      have hp := partsS_ok hT hps
      refine (does_val (s := Instr.buildSlice t len (ps.map fun (i, x) => (i, a.eval x))) (by simp [execOp, hop]) (buildSliceM_ok hD I (by simpa using hp) hf hr)).wp k
  · rename_i t x hop
    split at hr
    · rename_i p hx
      obtain ⟨rfl, rfl, A, U, g1, g2, g3⟩ := loadM_ok hD I (hT _ _ hx) hr
      refine (does_same (s := Instr.loadAt t (a.eval x)) I (by simp [execOp, hop]) ⟨rfl, rfl, U, ?_, g3⟩).wp k
      rw [g1]
      simp [Instr.loadAt, Instr.sureAddr, g2]
    · simp [M.fail] at hr
  · rename_i t p x hop
    split at hr
    · rename_i vp vx hp hx
      obtain ⟨g1, g2, g3⟩ := storeM_ok hD I (hT _ _ hp) (hT _ _ hx) hr
      exact (does_unit (s := Instr.storeAt t (a.eval p) (a.eval x)) (by simp [execOp, hop]) g2 g1 g3).wp k
    · simp [M.fail] at hr
  · rename_i t x f hop
    split at hr
    · rename_i p hx
      exact (does_same (s := Instr.fieldAt t (a.eval x) f) I (by simp [execOp, hop]) (fieldAddrM_ok hD (hT _ _ hx) hr)).wp k
    · simp [M.fail] at hr
  · rename_i t x i hop
    split at hr
    · rename_i p vi hx hi
      exact (does_same (s := Instr.indexAt t (a.eval x) (a.eval i)) I (by simp [execOp, hop]) (indexAddrM_ok hD (hT _ _ hx) (hT _ _ hi) hr)).wp k
    · simp [M.fail] at hr
  · rename_i t x f hop
    split at hr
    · rename_i p hx
      exact (does_same (s := Instr.field t (a.eval x) f) I (by simp [execOp, hop]) (fieldM_ok hD (hT _ _ hx) hr)).wp k
    · simp [M.fail] at hr
  · rename_i t x i hop
    split at hr
    · rename_i l vi hx hi
      exact (does_same (s := Instr.index t (a.eval x) (a.eval i)) I (by simp [execOp, hop]) (indexM_ok hD (hT _ _ hx) (hT _ _ hi) hr)).wp k
    · exact (pureM_ok hT I hr).wp k
  · rename_i t x lo hi mx hop
    split at hr
    · exact (pureM_ok hT I hr).wp k
    · rename_i vx _ hx
      exact (does_same (s := Instr.sliceAt t (a.eval x) (lo.map a.eval) (hi.map a.eval) (mx.map a.eval)) I (by simp [execOp, hop]) (sliceM_ok hD hT (hT _ _ hx) hr)).wp k
    · simp [M.fail] at hr
  · rename_i f p q hop
    split at hr
    · rename_i lp lq hp hq
      obtain ⟨rfl, rfl, rfl⟩ := M.ret_some hr
      have h1 := RelL.of_optAll hT hp
      have h2 := RelL.of_optAll hT hq
      exact (does_of I ⟨rfl, rfl, .func f (p.map a.eval) (q.map a.eval), by simp [execOp, hop, Instr.makeFunc], .fn (by simpa using h1) (by simpa using h2)⟩).wp k
    · simp [M.fail] at hr
  · rename_i t hop
    obtain ⟨b, n1, h1, F1, F2, e1, e2, -⟩ := M.bind_some hr
    obtain ⟨rfl, rfl, rfl⟩ := M.ret_some e2
    obtain ⟨rfl, rfl, E', I', G, hE'⟩ := newMap_ok I e1 hf
    exact (does_val (s := Instr.makeMap t none) (by simp [execOp, hop]) ⟨.map (some w.heap.size), _, E', by simp [Instr.makeMap], .map hE', I', G⟩).wp k
  · rename_i t l c hop
    split at hr
    · rename_i vl vc hl hc
      exact (does_val (s := Instr.makeSlice t (a.eval l) (a.eval c)) (by simp [execOp, hop]) (makeSliceM_ok hD I (hT _ _ hl) (hT _ _ hc) hf hr)).wp k
    · simp [M.fail] at hr
  · rename_i t m kx c hop
    split at hr
    · rename_i vm vk hm hk
      exact (does_same (s := Instr.lookup t (a.eval m) (a.eval kx) c) I (by simp [execOp, hop]) (lookupM_ok hD I (hT _ _ hm) (hT _ _ hk) hr)).wp k
    · simp [M.fail] at hr
  · rename_i t m kx x hop
    split at hr
    · rename_i vm vk vx hm hk hx
      obtain ⟨g1, g2, g3⟩ := mapUpdateM_ok hD I (hT _ _ hm) (hT _ _ hk) (hT _ _ hx) hr
      exact (does_unit (s := Instr.mapUpdate t (a.eval m) (a.eval kx) (a.eval x)) (by simp [execOp, hop]) g2 g1 g3).wp k
    · simp [M.fail] at hr
  · rename_i t x hop
    split at hr
    case h_2 => simp [M.fail] at hr
    rename_i i hi hx
    split at hr
    case h_2 => simp [M.fail] at hr
    rename_i kt et hd
    have hu := (hD.ti t i hi).und
    rw [hd] at hu
    obtain ⟨b, n1, h1, F1, F2, e1, e2, -⟩ := M.bind_some hr
    obtain ⟨rfl, rfl, rfl⟩ := M.ret_some e2
    have hx' := hT _ _ hx
    generalize hq : a.eval x = X at hx'
    cases hx'
    obtain ⟨rfl, rfl, E', I', G, hE'⟩ := newIter_ok I e1 hf
    exact (does_val (s := Instr.range t (.map none)) (by simp [execOp, hop, hq]) ⟨.pointer (some ⟨w.heap.size, 0, none⟩), _, E', by simp [Instr.range, run_underlying hu], .ptr hE', I', G⟩).wp k
  · rename_i x hop
    split at hr
    case h_2 => simp [M.fail] at hr
    rename_i b hx
    obtain ⟨s, n1, h1, F1, F2, e1, e2, -⟩ := M.bind_some hr
    obtain ⟨-, hg, rfl, rfl⟩ := M.get_some e1
    cases s with
    | cells l t x => simp [M.fail] at e2
    | map es => simp [M.fail] at e2
    | iter0 =>
      dsimp only at e2
      obtain ⟨rfl, rfl, rfl⟩ := M.ret_some e2
      have hx' := hT _ _ hx
      generalize hq : a.eval x = X at hx'
      cases hx' with
      | ptr hE =>
      rename_i B m
      obtain ⟨B', m', g1, g2⟩ := I.blk b _ hg
      rw [hE] at g1
      cases g1
      generalize hw : w.heap[B]? = ob at g2
      cases g2
      rename_i since stepped seen
      have hgo : (getObj B).run D.P w = .ok (.mapIter none since seen stepped) w := by simp [getObj, Sem.run, hw]
      exact (does_same (s := Instr.next (.pointer (some ⟨B, 0, none⟩)) false o.type) I (by simp [execOp, hop, hq]) ⟨rfl, rfl, .tuple #[.bool false], by simp [Instr.next, hgo], .tup (.cons (.bool _) .nil)⟩).wp k
  · rename_i s d x hop
    split at hr
    · rename_i b p kk z c hx
      obtain ⟨rfl, U, w', h1, h2, h3⟩ := convM_ok hD I (hT _ _ hx) hr
      exact (does_val (s := convert s d (a.eval x)) (by simp [execOp, hop]) ⟨U, w', E, h1, h2, h3, Grew.refl _ _⟩).wp k
    · exact (pureM_ok hT I hr).wp k
  · rename_i op t x y yt hop
    split at hr
    case h_2 => simp [M.fail] at hr
    rename_i p q hx hy
    split at hr
    · exact (does_same (s := (do eqGuard op t x y (a.eval x) (a.eval y); binOp op t (a.eval x) (a.eval y))) I (by simp [execOp, hop]) (nilM_ok hD (hT _ _ hx) (hT _ _ hy) hr)).wp k
    · exact (pureM_ok hT I hr).wp k
  · rename_i c hop
    split at hr
    · rename_i b hc
      exact (builtinM_ok hD hT I hf hop hc hr).wp k
    · rename_i f hc
      split at hr
      case h_2 => simp [M.fail] at hr
      rename_i g p q l hfv hl
      have hf' := hT _ _ hfv
      generalize hq : a.eval f = X at hf'
      cases hf' with
      | fn h1 h2 =>
      rename_i v1 v2
      have hl' := RelL.of_optAll hT hl
      have hex : execOp a.eval o = callFunc g (v1 ++ c.args.map a.eval ++ v2) := by
        unfold execOp
        simp only [hop, resolve, hc, hq, Deferred.ofValue, invoke]
        rfl
      have hargs : RelL E (p ++ l ++ q) (v1 ++ c.args.map a.eval ++ v2).toList := by
        simp only [Array.toList_append, Array.toList_map]
        exact (h1.append hl').append h2
      unfold Oper.wp
      rw [hex]
      rcases hcall g _ _ E h w n v n' h' F hr hargs I hf with ⟨E', V, w', r1, r2, r3, r4⟩ | ⟨r1, r2⟩
      · rw [r1]
        exact k E' w' V r2 r3 r4
      · rw [r1]
        rw [Oper.upon_enter]
        refine r2.mono ?_
        rintro e w' ⟨E', V, rfl, r3, r4, r5⟩
        exact k E' w' V r3 r4 r5
    · simp [M.fail] at hr
  · exact (pureM_ok hT I hr).wp k
  · exact (pureM_ok hT I hr).wp k
  · exact (pureM_ok hT I hr).wp k
  · simp [M.fail] at hr
end
end Go.Proofs.YtcoagfnkcbfbaaaGreatDoor
