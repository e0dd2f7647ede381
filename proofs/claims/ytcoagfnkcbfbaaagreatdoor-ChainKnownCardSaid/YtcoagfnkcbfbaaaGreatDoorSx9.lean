/-
  The runner, ninth part: the program's code, its calls, and what a run tells.
-/
import Derived.Test.YtcoagfnkcbfbaaaGreatDoorSx8
import Derived.LoopN
namespace Go.Proofs.YtcoagfnkcbfbaaaGreatDoor
open Go.RowKit

inductive Ex where
  | normal
  | exit (id : Nat)
  | ret
def Ex.to : Ex → Exit
  | .normal => .normal
  | .exit id => .exit id
  | .ret => .ret

def resL (D : Dt) (τ : List SV) : List ResultVar → M (List SV)
  | [] => .ret []
  | .tmp t :: r => (resL D τ r).bind fun l => .ret (τ.getD t uns :: l)
  | .cell p t :: r => (loadM D t (τ.getD p uns)).bind fun v => (resL D τ r).bind fun l => .ret (v :: l)
def resM (D : Dt) (fn : Func) (τ : List SV) : M SV := (resL D τ fn.results.toList).bind fun l => match l with
  | [v] => .ret v
  | l => .ret (.tup l)

theorem slot_rel {E : Env} {τ : List SV} {T : Array Value} (hT : RelL E τ T.toList) (t : Nat) : Rel E (τ.getD t uns) (T.getD t undef) :=
  evS_rel (a := ⟨T, []⟩) hT (x := .tmp t) rfl

def resV (T : Array Value) (r : ResultVar) : Sem Value := match r with
  | .tmp t => pure (T.getD t undef)
  | .cell a t => do loadVar t (← asAddr (T.getD a undef))
theorem resL_ok {D : Dt} (hD : D.Ok) {base : Nat} {w0 : World} {E : Env} {h : Tr} {w : World} (I : Inv base w0 E h w) {τ : List SV} {T : Array Value} (hT : RelL E τ T.toList) :
    ∀ {rs : List ResultVar} {n : Nat} {l : List SV} {n' : Nat} {h' : Tr} {F : Ft}, (resL D τ rs).run n h = some (l, n', h', F) →
      n' = n ∧ h' = h ∧ ∃ L : List Value, (rs.mapM (resV T)).run D.P w = .ok L w ∧ RelL E l L
  | [], n, l, n', h', F, hr => by
    obtain ⟨rfl, rfl, rfl⟩ := M.ret_some hr
    exact ⟨rfl, rfl, [], by simp, .nil⟩
  | .tmp t :: rs, n, l, n', h', F, hr => by
    obtain ⟨l1, n1, h1, F1, F2, e1, e2, -⟩ := M.bind_some hr
    obtain ⟨rfl, rfl, rfl⟩ := M.ret_some e2
    obtain ⟨rfl, rfl, L, g1, g2⟩ := resL_ok hD I hT e1
    refine ⟨rfl, rfl, T.getD t undef :: L, ?_, .cons (slot_rel hT t) g2⟩
    rw [List.mapM_cons]
    simp only [resV, Sem.run_bind, Sem.run_pure, Result.andThen_ok, g1]
  | .cell p t :: rs, n, l, n', h', F, hr => by
    obtain ⟨v, n1, h1, F1, F2, e1, e2, -⟩ := M.bind_some hr
    obtain ⟨l1, n2, h2, F3, F4, e3, e4, -⟩ := M.bind_some e2
    obtain ⟨rfl, rfl, rfl⟩ := M.ret_some e4
    obtain ⟨rfl, rfl, A, U, q1, q2, q3⟩ := loadM_ok hD I (slot_rel hT p) e1
    obtain ⟨rfl, rfl, L, g1, g2⟩ := resL_ok hD I hT e3
    refine ⟨rfl, rfl, U :: L, ?_, .cons q3 g2⟩
    rw [List.mapM_cons]
    simp only [resV, q1, asAddr, Sem.run_bind, Sem.run_pure, Result.andThen_ok, g1, q2]

theorem resM_ok {D : Dt} (hD : D.Ok) {base : Nat} {w0 : World} {E : Env} {h : Tr} {w : World} (I : Inv base w0 E h w) {τ : List SV} {T : Array Value} (hT : RelL E τ T.toList) {fn : Func} {n : Nat} {v : SV} {n' : Nat} {h' : Tr} {F : Ft}
    (hr : (resM D fn τ).run n h = some (v, n', h', F)) : n' = n ∧ h' = h ∧ ∃ V, (results fn T).run D.P w = .ok V w ∧ Rel E v V := by
  unfold resM at hr
  obtain ⟨l, n1, h1, F1, F2, e1, e2, -⟩ := M.bind_some hr
  obtain ⟨rfl, rfl, L, g1, g2⟩ := resL_ok hD I hT e1
  have hres : (results fn T).run D.P w = .ok (if hh : L.toArray.size = 1 then L.toArray[0] else .tuple L.toArray) w := by
    change Sem.run D.P (do
      let vs ← fn.results.mapM (resV T)
      pure (if h : vs.size = 1 then vs[0] else .tuple vs)) w = _
    rw [Array.mapM_eq_mapM_toList]
    simp only [Sem.run_bind, Sem.run_map, g1, Result.andThen_ok, Sem.run_pure]
  split at e2
  · obtain ⟨rfl, rfl, rfl⟩ := M.ret_some e2
    cases g2 with
    | cons a b =>
      cases b
      exact ⟨rfl, rfl, _, hres, by simpa using a⟩
  · rename_i hne
    obtain ⟨rfl, rfl, rfl⟩ := M.ret_some e2
    have hl := g2.length
    have : ¬ L.toArray.size = 1 := by
      simp only [List.size_toArray]
      intro e
      rw [← hl] at e
      obtain ⟨x, hx⟩ := List.length_eq_one_iff.1 e
      exact hne x hx
    refine ⟨rfl, rfl, .tuple L.toArray, ?_, .tup (by simpa using g2)⟩
    rw [hres, dif_neg this]

/-- a call, of what is told apart or of code -/
def callM (D : Dt) (ext : Nat → Option (List SV → M SV)) (run : Code → List SV → M (Ex × List SV)) (g : Nat) (args : List SV) : M SV :=
  match ext g with
  | some r => r args
  | none => match D.fn g with
    | some fn => match fn.body with
      | some c => (run c (args ++ List.replicate (fn.ntmps - args.length) uns)).bind fun x => match x.1 with
        | .exit _ => .fail
        | _ => resM D fn x.2
      | none => .fail
    | none => .fail

def exec (D : Dt) (ext : Nat → Option (List SV → M SV)) : Nat → Code → List SV → M (Ex × List SV)
  | 0, _, _ => .fail
  | f + 1, c, τ => match c with
    | .skip => .ret (.normal, τ)
    | .label _ => .ret (.normal, τ)
    | .ret => .ret (.ret, τ)
    | .exit id => .ret (.exit id, τ)
    | .seq x y => (exec D ext f x τ).bind fun r => match r.1 with
      | .normal => exec D ext f y r.2
      | e => .ret (e, r.2)
    | .cond c x y => match evS τ c with
      | some (.bool true) => exec D ext f x τ
      | some (.bool false) => exec D ext f y τ
      | _ => .fail
    | .block id x => (exec D ext f x τ).bind fun r => match r.1 with
      | .exit id' => .ret (if id' = id then .normal else .exit id', r.2)
      | e => .ret (e, r.2)
    | .loop x => (exec D ext f x τ).bind fun r => match r.1 with
      | .normal => exec D ext f (.loop x) r.2
      | e => .ret (e, r.2)
    | .region _ ops false => (stepOps (fun o τ => opM D (callM D ext (exec D ext f)) (evS τ) o) ops.toList ops.toList τ).bind fun τ' => .ret (.normal, τ')
    | .region _ ops true => (parM (fun o τ => opM D (callM D ext (exec D ext f)) (evR (usesS ops.toList o) τ) o) ops.toList τ).bind fun τ' => .ret (.normal, τ')
    | _ => .fail

/-- what is told apart does what it tells -/
def ExtOk (P : Program) (base : Nat) (w0 : World) (ext : Nat → Option (List SV → M SV)) : Prop :=
  ∀ g r, ext g = some r → ∀ (vs : List SV) (Vs : Array Value) (E : Env) (h : Tr) (w : World) (n : Nat) (v : SV) (n' : Nat) (h' : Tr) (F : Ft), (r vs).run n h = some (v, n', h', F) → RelL E vs Vs.toList → Inv base w0 E h w → Free E n n' →
    (∃ E' V w', (callFunc g Vs).run P w = .ok (.value V) w' ∧ Rel E' v V ∧ Inv base w0 E' h' w' ∧ Grew E E' n n') ∨
    ((callFunc g Vs).run P w = .ok (.enter g Vs) w ∧ Calls P g Vs w fun e w' => ∃ E' V, e = .returned V ∧ Rel E' v V ∧ Inv base w0 E' h' w' ∧ Grew E E' n n')

/-- what code comes to -/
def RunOk (P : Program) (base : Nat) (w0 : World) (run : Code → List SV → M (Ex × List SV)) : Prop :=
  ∀ (c : Code) (τ : List SV) (a : Act) (E : Env) (h : Tr) (w : World) (n : Nat) (x : Ex × List SV) (n' : Nat) (h' : Tr) (F : Ft) (Q : Exit → Act → World → Prop), (run c τ).run n h = some (x, n', h', F) → RelL E τ a.tmps.toList → a.defers = [] → Inv base w0 E h w → Free E n n' →
    (∀ E' a' w', RelL E' x.2 a'.tmps.toList → a'.defers = [] → Inv base w0 E' h' w' → Grew E E' n n' → Q x.1.to a' w') → c.wp P Q a w

theorem run_enter {P : Program} {g : Nat} {fn : Func} {c : Code} (hf : P.funcs[g]? = some fn) (hb : fn.body = some c) (hn : fn.name ≠ "runtime.NumGoroutine") (Vs : Array Value) (w : World) : (callFunc g Vs).run P w = .ok (.enter g Vs) w := by
  simp [callFunc, hf, hn, hb]

structure FnOk (D : Dt) : Prop where
  name : ∀ g fn, D.fn g = some fn → fn.name ≠ "runtime.NumGoroutine"

theorem callM_ok {D : Dt} (hD : D.Ok) (hN : FnOk D) {base : Nat} {w0 : World} {ext : Nat → Option (List SV → M SV)} (hext : ExtOk D.P base w0 ext) {run : Code → List SV → M (Ex × List SV)} (hrun : RunOk D.P base w0 run) : CallOk D.P base w0 (callM D ext run) := by
  intro g vs Vs E h w n v n' h' F hr hargs I hf
  unfold callM at hr
  split at hr
  · rename_i r hq
    exact hext g r hq vs Vs E h w n v n' h' F hr hargs I hf
  · split at hr
    · rename_i fn hfn
      split at hr
      · rename_i c hc
        obtain ⟨x, n1, h1, F1, F2, e1, e2, -⟩ := M.bind_some hr
        have hle := ((run c (vs ++ List.replicate (fn.ntmps - vs.length) uns)).ok _ _ _ _ _ _ e1).1
        refine .inr ⟨run_enter (hD.fn g fn hfn) hc (hN.name g fn hfn) Vs w, calls_of_wp (hD.fn g fn hfn) hc ?_⟩
        have hlen := hargs.length
        have hn1 : n1 ≤ n' := by
          split at e2
          · simp [M.fail] at e2
          · exact ((resM D fn x.2).ok _ _ _ _ _ _ e2).1
        refine hrun c _ _ E h w n x n1 h1 F1 _ e1 (by
          simp only [Array.toList_append, Array.toList_replicate]
          rw [hlen]
          simp only [Array.length_toList]
          exact hargs.append (RelL.replicate (rel_uns E) _)) rfl I (hf.less hn1) fun E' a' w' q1 q2 q3 q4 => ?_
        obtain ⟨ex, τ1⟩ := x
        dsimp only at e2 q1
        cases ex with
        | exit id => simp [M.fail] at e2
        | normal =>
          dsimp only at e2
          obtain ⟨rfl, rfl, V, g1, g2⟩ := resM_ok hD q3 q1 e2
          exact ⟨q2, V, g1, E', V, rfl, g2, q3, q4⟩
        | ret =>
          dsimp only at e2
          obtain ⟨rfl, rfl, V, g1, g2⟩ := resM_ok hD q3 q1 e2
          exact ⟨q2, V, g1, E', V, rfl, g2, q3, q4⟩
      · simp [M.fail] at hr
    · simp [M.fail] at hr

theorem exec_ok {D : Dt} (hD : D.Ok) (hN : FnOk D) {base : Nat} {w0 : World} {ext : Nat → Option (List SV → M SV)} (hext : ExtOk D.P base w0 ext) : ∀ f, RunOk D.P base w0 (exec D ext f) ∧
    ∀ (c : Code) (τ : List SV) (a : Act) (E : Env) (h : Tr) (w : World) (n : Nat) (x : Ex × List SV) (n' : Nat) (h' : Tr) (F : Ft) (Q : Exit → Act → World → Prop), (exec D ext f (.loop c) τ).run n h = some (x, n', h', F) → RelL E τ a.tmps.toList → a.defers = [] → Inv base w0 E h w → Free E n n' →
      (∀ E' a' w', RelL E' x.2 a'.tmps.toList → a'.defers = [] → Inv base w0 E' h' w' → Grew E E' n n' → Q x.1.to a' w') → c.rounds D.P Q f a w := by
  intro f
  induction f with
  | zero =>
    refine ⟨fun c τ a E h w n x n' h' F Q hr => ?_, fun c τ a E h w n x n' h' F Q hr => ?_⟩ <;> simp [exec, M.fail] at hr
  | succ f ih =>
    obtain ⟨ihA, ihB⟩ := ih
    have hcall := callM_ok hD hN hext ihA
    have hopS : OpOk D.P base w0 (fun o τ => opM D (callM D ext (exec D ext f)) (evS τ) o) := fun o τ a E h w n v n' h' F hr hT I hf K Q k =>
      opM_ok hD hcall (fun x v hx => evS_rel hT hx) I hf hr k
    have hB : ∀ (c : Code) (τ : List SV) (a : Act) (E : Env) (h : Tr) (w : World) (n : Nat) (x : Ex × List SV) (n' : Nat) (h' : Tr) (F : Ft) (Q : Exit → Act → World → Prop), (exec D ext (f + 1) (.loop c) τ).run n h = some (x, n', h', F) → RelL E τ a.tmps.toList → a.defers = [] → Inv base w0 E h w → Free E n n' →
      (∀ E' a' w', RelL E' x.2 a'.tmps.toList → a'.defers = [] → Inv base w0 E' h' w' → Grew E E' n n' → Q x.1.to a' w') → c.rounds D.P Q (f + 1) a w := by
      intro c τ a E h w n x n' h' F Q hr hT hd I hf q
      rw [rounds_succ]
      unfold exec at hr
      dsimp only at hr
      obtain ⟨y, n1, h1, F1, F2, e1, e2, -⟩ := M.bind_some hr
      obtain ⟨ex, τ1⟩ := y
      have hle1 := ((exec D ext f c τ).ok _ _ _ _ _ _ e1).1
      have hle2 : n1 ≤ n' := by
        cases ex with
        | normal => exact ((exec D ext f (.loop c) τ1).ok _ _ _ _ _ _ e2).1
        | exit id => exact ((M.ret (Ex.exit id, τ1)).ok _ _ _ _ _ _ e2).1
        | ret => exact ((M.ret (Ex.ret, τ1)).ok _ _ _ _ _ _ e2).1
      refine ihA c τ a E h w n (ex, τ1) n1 h1 F1 _ e1 hT hd I (hf.less hle2) fun E' a' w' q1 q2 q3 q4 => ?_
      cases ex with
      | normal =>
        exact ihB c τ1 a' E' h1 w' n1 x n' h' F2 Q e2 q1 q2 q3 (hf.next q4 hle1) fun E'' a'' w'' r1 r2 r3 r4 => q E'' a'' w'' r1 r2 r3 (q4.trans r4 hle1 hle2)
      | exit id =>
        obtain ⟨rfl, rfl, rfl⟩ := M.ret_some e2
        exact q E' a' w' q1 q2 q3 q4
      | ret =>
        obtain ⟨rfl, rfl, rfl⟩ := M.ret_some e2
        exact q E' a' w' q1 q2 q3 q4
    refine ⟨fun c τ a E h w n x n' h' F Q hr hT hd I hf q => ?_, hB⟩
    have hr0 := hr
    unfold exec at hr
    split at hr
    · obtain ⟨rfl, rfl, rfl⟩ := M.ret_some hr
      exact wp_skip (q E a w hT hd I (Grew.refl _ _))
    · obtain ⟨rfl, rfl, rfl⟩ := M.ret_some hr
      exact wp_label (q E a w hT hd I (Grew.refl _ _))
    · obtain ⟨rfl, rfl, rfl⟩ := M.ret_some hr
      exact wp_ret (q E a w hT hd I (Grew.refl _ _))
    · obtain ⟨rfl, rfl, rfl⟩ := M.ret_some hr
      exact wp_exit (q E a w hT hd I (Grew.refl _ _))
    · rename_i cx cy
      obtain ⟨y, n1, h1, F1, F2, e1, e2, -⟩ := M.bind_some hr
      obtain ⟨ex, τ1⟩ := y
      have hle1 := ((exec D ext f cx τ).ok _ _ _ _ _ _ e1).1
      have hle2 : n1 ≤ n' := by
        cases ex with
        | normal => exact ((exec D ext f cy τ1).ok _ _ _ _ _ _ e2).1
        | exit id => exact ((M.ret (Ex.exit id, τ1)).ok _ _ _ _ _ _ e2).1
        | ret => exact ((M.ret (Ex.ret, τ1)).ok _ _ _ _ _ _ e2).1
      refine wp_seq (ihA cx τ a E h w n (ex, τ1) n1 h1 F1 _ e1 hT hd I (hf.less hle2) fun E' a' w' q1 q2 q3 q4 => ?_)
      cases ex with
      | normal =>
        exact ihA cy τ1 a' E' h1 w' n1 x n' h' F2 Q e2 q1 q2 q3 (hf.next q4 hle1) fun E'' a'' w'' r1 r2 r3 r4 => q E'' a'' w'' r1 r2 r3 (q4.trans r4 hle1 hle2)
      | exit id =>
        obtain ⟨rfl, rfl, rfl⟩ := M.ret_some e2
        exact q E' a' w' q1 q2 q3 q4
      | ret =>
        obtain ⟨rfl, rfl, rfl⟩ := M.ret_some e2
        exact q E' a' w' q1 q2 q3 q4
    · rename_i cc cx cy
      split at hr
      · rename_i hc
        have hc' := evS_rel hT hc
        generalize hq : a.eval cc = C at hc'
        cases hc'
        exact wp_cond_true hq (ihA cx τ a E h w n x n' h' F Q hr hT hd I hf q)
      · rename_i hc
        have hc' := evS_rel hT hc
        generalize hq : a.eval cc = C at hc'
        cases hc'
        exact wp_cond_false hq (ihA cy τ a E h w n x n' h' F Q hr hT hd I hf q)
      · simp [M.fail] at hr
    · rename_i id cx
      obtain ⟨y, n1, h1, F1, F2, e1, e2, -⟩ := M.bind_some hr
      obtain ⟨ex, τ1⟩ := y
      cases ex with
      | normal =>
        obtain ⟨rfl, rfl, rfl⟩ := M.ret_some e2
        exact wp_block (ihA cx τ a E h w n _ _ _ F1 _ e1 hT hd I hf fun E' a' w' q1 q2 q3 q4 => q E' a' w' q1 q2 q3 q4)
      | exit id' =>
        obtain ⟨rfl, rfl, rfl⟩ := M.ret_some e2
        refine wp_block (ihA cx τ a E h w n _ _ _ F1 _ e1 hT hd I hf fun E' a' w' q1 q2 q3 q4 => ?_)
        have := q E' a' w' q1 q2 q3 q4
        by_cases he : id' = id
        · simpa [Exit.inBlock, Ex.to, he] using this
        · simpa [Exit.inBlock, Ex.to, he] using this
      | ret =>
        obtain ⟨rfl, rfl, rfl⟩ := M.ret_some e2
        exact wp_block (ihA cx τ a E h w n _ _ _ F1 _ e1 hT hd I hf fun E' a' w' q1 q2 q3 q4 => q E' a' w' q1 q2 q3 q4)
    · exact wp_loop_rounds (f + 1) (hB _ τ a E h w n x n' h' F Q hr0 hT hd I hf q)
    · rename_i id ops
      obtain ⟨τ1, n1, h1, F1, F2, e1, e2, -⟩ := M.bind_some hr
      obtain ⟨rfl, rfl, rfl⟩ := M.ret_some e2
      have := (stepOps_ok (Q := Q) hopS ops.toList 0 (fun j => by simp) τ a E h w n τ1 _ _ F1 e1 hT I hf fun E' a' w' q1 q2 q3 q4 => q E' a' w' q1 (by rw [q2, hd]) q3 q4).2
      refine wp_region ?_
      rw [List.range_eq_range']
      simpa using this
    · rename_i id ops
      obtain ⟨τ1, n1, h1, F1, F2, e1, e2, -⟩ := M.bind_some hr
      obtain ⟨rfl, rfl, rfl⟩ := M.ret_some e2
      refine (par_ok (id := id) hD.mixed (op := fun o τ => opM D (callM D ext (exec D ext f)) (evR (usesS ops.toList o) τ) o) ?_ ?_ e1 hT I hf fun E' a' w' q1 q2 q3 q4 => q E' a' w' q1 (by rw [q2, hd]) q3 q4).2
      · exact fun o τ a E h w n v n' h' F hr hT I hf K Q k => opM_ok hD hcall (fun x v hx => evS_rel hT (evR_le hx)) I hf hr k
      · intro o τ τ' hl
        show opM D _ _ o = opM D _ _ o
        rw [evR_congr hl]
    · simp [M.fail] at hr

/-- a function without arguments, run from no memory at all -/
theorem run_tells {D : Dt} (hD : D.Ok) (hN : FnOk D) {w : World} {ext : Nat → Option (List SV → M SV)} (hext : ∀ w, ExtOk D.P w.heap.size w ext) {f g : Nat} {b : Bool} {n' : Nat} {h' : Tr} {F : Ft}
    (hg : ext g = none) (hr : (callM D ext (exec D ext f) g []).run 0 .lf = some (.bool b, n', h', F)) : Calls D.P g #[] w fun e w' => e = .returned (.bool b) ∧ Below w.heap.size w w' := by
  have I : Inv w.heap.size w (fun _ => none) .lf w := ⟨fun b s hb => absurd hb (by simp [Tr.get]), fun b c s t B m k hb => absurd hb (by simp [Tr.get]), fun b B m hb => absurd hb (by simp), Below.refl _ _, Nat.le_refl _⟩
  have hc := callM_ok hD hN (hext w) (exec_ok hD hN (hext w) f).1
  rcases hc g [] #[] (fun _ => none) .lf w 0 (.bool b) n' h' F hr .nil I (fun _ _ _ => rfl) with ⟨E', V, w', h1, h2, h3, h4⟩ | ⟨h1, h2⟩
  · exfalso
    unfold callM at hr
    rw [hg] at hr
    dsimp only at hr
    split at hr
    · rename_i fn hfn
      split at hr
      · rename_i c hcb
        rw [run_enter (hD.fn g fn hfn) hcb (hN.name g fn hfn)] at h1
        cases h1
      · simp [M.fail] at hr
    · simp [M.fail] at hr
  · refine h2.mono ?_
    rintro e w' ⟨E', V, rfl, r1, r2, r3⟩
    cases r1
    exact ⟨rfl, r2.bel⟩
end Go.Proofs.YtcoagfnkcbfbaaaGreatDoor
