/-
  The runner, second part: operations that touch no memory are the model's own, run at plain values; what the program's types are.
-/
import Derived.Test.YtcoagfnkcbfbaaaGreatDoorSx1
namespace Go.Proofs.YtcoagfnkcbfbaaaGreatDoor
open Go.RowKit

def optAll {α β : Type} (f : α → Option β) : List α → Option (List β)
  | [] => some []
  | a :: l => match f a with
    | none => none
    | some b => match optAll f l with
      | none => none
      | some r => some (b :: r)
theorem optAll_cons {α β : Type} {f : α → Option β} {a : α} {l : List α} {r : List β} (h : optAll f (a :: l) = some r) : ∃ b s, f a = some b ∧ optAll f l = some s ∧ r = b :: s := by
  unfold optAll at h
  split at h
  · cases h
  · rename_i b hb
    split at h
    · cases h
    · rename_i s hs
      cases h
      exact ⟨b, s, hb, hs, rfl⟩
theorem optAll_length {α β : Type} {f : α → Option β} : ∀ {l : List α} {r : List β}, optAll f l = some r → r.length = l.length
  | [], r, h => by cases h; rfl
  | a :: l, r, h => by
    obtain ⟨b, s, _, hs, rfl⟩ := optAll_cons h
    simp [optAll_length hs]

mutual
/-- a value in which no block is named -/
def SV.toV : SV → Option Value
  | .bool b => some (.bool b)
  | .int k n => some (.int k n)
  | .str s => some (.string s)
  | .np => some (.pointer none)
  | .ns => some (.slice none 0 0)
  | .nm => some (.map none)
  | .nf => some .nilFunc
  | .ni => some .nilIface
  | .iface t v => match v.toV with
    | some V => some (.iface t V)
    | none => none
  | .agg l => match SV.toVL l with
    | some L => some (.agg L.toArray)
    | none => none
  | .tup l => match SV.toVL l with
    | some L => some (.tuple L.toArray)
    | none => none
  | .fn f a b => match SV.toVL a, SV.toVL b with
    | some x, some y => some (.func f x.toArray y.toArray)
    | _, _ => none
  | _ => none
def SV.toVL : List SV → Option (List Value)
  | [] => some []
  | v :: l => match v.toV, SV.toVL l with
    | some V, some L => some (V :: L)
    | _, _ => none
end

mutual
theorem Rel.toV_eq {E : Env} : ∀ {v : SV} {V W : Value}, Rel E v V → v.toV = some W → V = W
  | _, _, _, .bool b, h => by simpa [SV.toV] using h
  | _, _, _, .int k n, h => by simpa [SV.toV] using h
  | _, _, _, .str s, h => by simpa [SV.toV] using h
  | _, _, _, .np, h => by simpa [SV.toV] using h
  | _, _, _, .ptr e, h => by simp [SV.toV] at h
  | _, _, _, .ns, h => by simpa [SV.toV] using h
  | _, _, _, .sl e c n m, h => by simp [SV.toV] at h
  | _, _, _, .emp, h => by simp [SV.toV] at h
  | _, _, _, .nm, h => by simpa [SV.toV] using h
  | _, _, _, .map e, h => by simp [SV.toV] at h
  | _, _, _, .fn (l1 := l1) (l2 := l2) a b, h => by
    rw [SV.toV] at h
    cases h1 : SV.toVL l1 with
    | none => simp [h1] at h
    | some x =>
      cases h2 : SV.toVL l2 with
      | none => simp [h1, h2] at h
      | some y =>
        simp only [h1, h2, Option.some.injEq] at h
        have e1 := RelL.toV_eq a h1
        have e2 := RelL.toV_eq b h2
        rw [← h, ← e1, ← e2]
  | _, _, _, .nf, h => by simpa [SV.toV] using h
  | _, _, _, .iface (v := v) a, h => by
    rw [SV.toV] at h
    cases h1 : v.toV with
    | none => simp [h1] at h
    | some x =>
      simp only [h1, Option.some.injEq] at h
      rw [← h, Rel.toV_eq a h1]
  | _, _, _, .ni, h => by simpa [SV.toV] using h
  | _, _, _, .agg (l := l) a, h => by
    rw [SV.toV] at h
    cases h1 : SV.toVL l with
    | none => simp [h1] at h
    | some x =>
      simp only [h1, Option.some.injEq] at h
      rw [← h, ← RelL.toV_eq a h1]
  | _, _, _, .tup (l := l) a, h => by
    rw [SV.toV] at h
    cases h1 : SV.toVL l with
    | none => simp [h1] at h
    | some x =>
      simp only [h1, Option.some.injEq] at h
      rw [← h, ← RelL.toV_eq a h1]
theorem RelL.toV_eq {E : Env} : ∀ {l : List SV} {L W : List Value}, RelL E l L → SV.toVL l = some W → L = W
  | _, _, _, .nil, h => by simpa [SV.toVL] using h
  | _, _, _, .cons (v := v) (l := l) a b, h => by
    rw [SV.toVL] at h
    cases h1 : v.toV with
    | none => simp [h1] at h
    | some x =>
      cases h2 : SV.toVL l with
      | none => simp [h1, h2] at h
      | some y =>
        simp only [h1, h2, Option.some.injEq] at h
        rw [← h, Rel.toV_eq a h1, RelL.toV_eq b h2]
end

mutual
theorem Rel.of_toV {E : Env} : ∀ {v : SV} {V : Value}, v.toV = some V → Rel E v V
  | .bool b, V, h => by simp only [SV.toV, Option.some.injEq] at h; subst h; exact .bool b
  | .int k n, V, h => by simp only [SV.toV, Option.some.injEq] at h; subst h; exact .int k n
  | .str s, V, h => by simp only [SV.toV, Option.some.injEq] at h; subst h; exact .str s
  | .np, V, h => by simp only [SV.toV, Option.some.injEq] at h; subst h; exact .np
  | .ptr _ _, V, h => by simp [SV.toV] at h
  | .ns, V, h => by simp only [SV.toV, Option.some.injEq] at h; subst h; exact .ns
  | .sl _ _ _ _ _, V, h => by simp [SV.toV] at h
  | .emp, V, h => by simp [SV.toV] at h
  | .nm, V, h => by simp only [SV.toV, Option.some.injEq] at h; subst h; exact .nm
  | .map _, V, h => by simp [SV.toV] at h
  | .fn f a b, V, h => by
    rw [SV.toV] at h
    cases h1 : SV.toVL a with
    | none => simp [h1] at h
    | some x =>
      cases h2 : SV.toVL b with
      | none => simp [h1, h2] at h
      | some y =>
        simp only [h1, h2, Option.some.injEq] at h
        subst h
        exact .fn (RelL.of_toV h1) (RelL.of_toV h2)
  | .nf, V, h => by simp only [SV.toV, Option.some.injEq] at h; subst h; exact .nf
  | .iface t v, V, h => by
    rw [SV.toV] at h
    cases h1 : v.toV with
    | none => simp [h1] at h
    | some x => simp only [h1, Option.some.injEq] at h; subst h; exact .iface (Rel.of_toV h1)
  | .ni, V, h => by simp only [SV.toV, Option.some.injEq] at h; subst h; exact .ni
  | .agg l, V, h => by
    rw [SV.toV] at h
    cases h1 : SV.toVL l with
    | none => simp [h1] at h
    | some x => simp only [h1, Option.some.injEq] at h; subst h; exact .agg (RelL.of_toV h1)
  | .tup l, V, h => by
    rw [SV.toV] at h
    cases h1 : SV.toVL l with
    | none => simp [h1] at h
    | some x => simp only [h1, Option.some.injEq] at h; subst h; exact .tup (RelL.of_toV h1)
theorem RelL.of_toV {E : Env} : ∀ {l : List SV} {L : List Value}, SV.toVL l = some L → RelL E l L
  | [], L, h => by simp only [SV.toVL, Option.some.injEq] at h; subst h; exact .nil
  | v :: l, L, h => by
    rw [SV.toVL] at h
    cases h1 : v.toV with
    | none => simp [h1] at h
    | some x =>
      cases h2 : SV.toVL l with
      | none => simp [h1, h2] at h
      | some y =>
        simp only [h1, h2, Option.some.injEq] at h
        subst h
        exact .cons (Rel.of_toV h1) (RelL.of_toV h2)
end

/-- a plain value, as the runner has it -/
def ofV : Nat → Value → Option SV
  | 0, _ => none
  | _ + 1, .bool b => some (.bool b)
  | _ + 1, .int k n => some (.int k n)
  | _ + 1, .string s => some (.str s)
  | _ + 1, .pointer none => some .np
  | _ + 1, .slice none 0 0 => some .ns
  | _ + 1, .map none => some .nm
  | _ + 1, .nilFunc => some .nf
  | _ + 1, .nilIface => some .ni
  | d + 1, .iface t v => match ofV d v with
    | some x => some (.iface t x)
    | none => none
  | d + 1, .agg cs => match optAll (ofV d) cs.toList with
    | some l => some (.agg l)
    | none => none
  | d + 1, .tuple cs => match optAll (ofV d) cs.toList with
    | some l => some (.tup l)
    | none => none
  | d + 1, .func f a b => match optAll (ofV d) a.toList, optAll (ofV d) b.toList with
    | some x, some y => some (.fn f x y)
    | _, _ => none
  | _ + 1, _ => none
theorem RelL.of_all {E : Env} {f : Value → Option SV} (hf : ∀ V v, f V = some v → Rel E v V) : ∀ {L : List Value} {l : List SV}, optAll f L = some l → RelL E l L
  | [], l, h => by cases h; exact .nil
  | V :: L, l, h => by
    obtain ⟨b, s, hb, hs, rfl⟩ := optAll_cons h
    exact .cons (hf _ _ hb) (RelL.of_all hf hs)
theorem Rel.of_ofV {E : Env} : ∀ (d : Nat) {V : Value} {v : SV}, ofV d V = some v → Rel E v V
  | 0, V, v, h => by simp [ofV] at h
  | d + 1, V, v, h => by
    unfold ofV at h
    split at h
    all_goals (try (cases h; done))
    all_goals (try (simp only [Option.some.injEq] at h; subst h; constructor; done))
    · rename_i hd
      cases hd
      split at h
      · rename_i x hx; cases h; exact .iface (Rel.of_ofV d hx)
      · cases h
    · rename_i hd
      cases hd
      split at h
      · rename_i x hx; cases h; exact .agg (RelL.of_all (fun _ _ hq => Rel.of_ofV d hq) hx)
      · cases h
    · rename_i hd
      cases hd
      split at h
      · rename_i x hx; cases h; exact .tup (RelL.of_all (fun _ _ hq => Rel.of_ofV d hq) hx)
      · cases h
    · rename_i hd
      cases hd
      split at h
      · rename_i x y hx hy; cases h; exact .fn (RelL.of_all (fun _ _ hq => Rel.of_ofV d hq) hx) (RelL.of_all (fun _ _ hq => Rel.of_ofV d hq) hy)
      · cases h

/-- a run that asks nothing but the program -/
def pureRun {α : Type} (P : Program) : Sem α → Option α
  | .pure a => some a
  | .program k => pureRun P (k P)
  | .mark _ k => pureRun P k
  | _ => none
theorem pureRun_run {α : Type} {P : Program} : ∀ {s : Sem α} {a : α}, pureRun P s = some a → ∀ w : World, s.run P w = .ok a w
  | .pure _, a, h, w => by simp only [pureRun, Option.some.injEq] at h; subst h; rfl
  | .program k, a, h, w => by simp only [pureRun] at h; simpa [Sem.run] using pureRun_run h w
  | .mark _ k, a, h, w => by simp only [pureRun] at h; simpa [Sem.run] using pureRun_run h w
  | .load .., _, h, _ | .store .., _, h, _ | .new .., _, h, _ | .shape .., _, h, _ | .freeze .., _, h, _ | .frozen .., _, h, _ | .getObj .., _, h, _ | .setObj .., _, h, _ | .choose .., _, h, _ | .sys .., _, h, _ | .halt .., _, h, _ => by
    simp [pureRun] at h

def uns : SV := .tup []
theorem rel_uns (E : Env) : Rel E uns undef := .tup .nil

/-- an operand -/
def evS (τ : List SV) : Operand → Option SV
  | .tmp t => some (τ.getD t uns)
  | .const v => ofV 4 v
  | .global _ => none
  | .func f => some (.fn (.func f) [] [])
theorem evS_rel {E : Env} {τ : List SV} {a : Act} (hT : RelL E τ a.tmps.toList) {x : Operand} {v : SV} (h : evS τ x = some v) : Rel E v (a.eval x) := by
  cases x with
  | tmp t =>
    simp only [evS, Option.some.injEq] at h
    subst h
    show Rel E (τ.getD t uns) (a.tmps.getD t undef)
    rw [Array.getD_eq_getD_getElem?, ← Array.getElem?_toList, List.getD_eq_getElem?_getD]
    cases hq : τ[t]? with
    | some v =>
      obtain ⟨V, h1, h2⟩ := hT.get t v hq
      rw [h1]
      exact h2
    | none =>
      have hl := hT.length
      have : a.tmps.toList[t]? = none := by
        rw [List.getElem?_eq_none_iff] at hq ⊢
        omega
      rw [this]
      exact rel_uns E
  | const v' => exact Rel.of_ofV 4 h
  | global g => simp [evS] at h
  | func f =>
    simp only [evS, Option.some.injEq] at h
    subst h
    exact .fn .nil .nil

/-- what the runner is told of a type -/
structure TI where
  d : TypeDesc
  size : Nat
  bytes : Nat
  zero : SV
  place : List (Nat × Nat)

def cellsS : SV → List SV
  | .agg l => l
  | v => [v]
theorem cellsS_rel {E : Env} {v : SV} {V : Value} (h : Rel E v V) : RelL E (cellsS v) V.cells.toList := by
  cases h with
  | agg a => exact a
  | _ => exact .cons (by constructor <;> assumption) .nil

structure TiOk (P : Program) (t : Nat) (i : TI) : Prop where
  und : P.underlying t = some i.d
  info : ∃ I, P.info? t = some I ∧ I.size = i.size ∧ I.bytes = i.bytes ∧ ∃ Z, I.zero = some Z ∧ i.zero.toV = some Z
  zc : (cellsS i.zero).length = i.size
  pl : ∀ fs, i.d = .struct fs → fs.toList.mapM (fun f => (P.info? f.type).map fun i => (f.offset, i.size)) = some i.place

structure Dt where
  P : Program
  ti : Nat → Option TI
  fn : Nat → Option Func
structure Dt.Ok (D : Dt) : Prop where
  ti : ∀ t i, D.ti t = some i → TiOk D.P t i
  fn : ∀ f g, D.fn f = some g → D.P.funcs[f]? = some g
  mixed : D.P.follows .mixedOrders = true

/-- what an operation comes to, in the world and by the runner -/
def Does (P : Program) (o : Oper) (a : Act) (w : World) (base : Nat) (w0 : World) (E : Env) (h' : Tr) (n n' : Nat) (v : SV) : Prop :=
  ∃ N E' w' V, (execOp a.eval o).run P w = .ok N w' ∧ (N = .value V ∨ (N = .skip ∧ V = undef)) ∧ Rel E' v V ∧ Inv base w0 E' h' w' ∧ Grew E E' n n'

theorem Does.wp {P : Program} {o : Oper} {a : Act} {w : World} {base : Nat} {w0 : World} {E : Env} {h' : Tr} {n n' : Nat} {v : SV} (H : Does P o a w base w0 E h' n n' v)
    {K : Act → World → Prop} {Q : Exit → Act → World → Prop} (k : ∀ E' w' V, Rel E' v V → Inv base w0 E' h' w' → Grew E E' n n' → K (a.put o.dst V) w') : o.wp P a w K Q := by
  obtain ⟨N, E', w', V, hr, hN, h1, h2, h3⟩ := H
  unfold Oper.wp
  rw [hr]
  rcases hN with rfl | ⟨rfl, rfl⟩
  · exact k E' w' V h1 h2 h3
  · exact k E' w' undef h1 h2 h3

/-- no memory is touched: the model's own -/
def pureM (D : Dt) (ev : Operand → Option SV) (o : Oper) : M SV :=
  match optAll (fun x => match ev x with | some v => v.toV | none => none) o.op.operands.toList with
  | none => .fail
  | some _ =>
    match o.op with
    | .select .. => .fail
    | _ =>
    match pureRun D.P (execOp (fun x => match ev x with | some v => v.toV.getD undef | none => undef) o) with
    | some (.value V) => .ofOpt (ofV 4 V)
    | some .skip => .ret uns
    | _ => .fail

theorem optAll_mem {α β : Type} {f : α → Option β} : ∀ {l : List α} {r : List β}, optAll f l = some r → ∀ a ∈ l, ∃ b, f a = some b
  | [], _, _, a, ha => by cases ha
  | c :: l, r, h, a, ha => by
    obtain ⟨b, s, hb, hs, rfl⟩ := optAll_cons h
    rcases List.mem_cons.1 ha with rfl | ha
    · exact ⟨b, hb⟩
    · exact optAll_mem hs a ha

theorem pureM_ok {D : Dt} {ev : Operand → Option SV} {o : Oper} {a : Act} {w : World} {base : Nat} {w0 : World} {E : Env} {h h' : Tr} {n n' : Nat} {v : SV} {F : Ft}
    (hT : ∀ x v, ev x = some v → Rel E v (a.eval x)) (I : Inv base w0 E h w) (hr : (pureM D ev o).run n h = some (v, n', h', F)) : Does D.P o a w base w0 E h' n n' v := by
  unfold pureM at hr
  split at hr
  · simp [M.fail] at hr
  rename_i l hl
  split at hr
  · simp [M.fail] at hr
  rename_i hsel
  have hcong : execOp (fun x => match ev x with | some v => v.toV.getD undef | none => undef) o = execOp a.eval o := by
    refine execOp_congr o (fun cs b e => hsel cs b e) fun x hx => ?_
    obtain ⟨V, hV⟩ := optAll_mem hl x (Array.mem_toList_iff.2 hx)
    cases he : ev x with
    | none => simp [he] at hV
    | some v =>
      simp only [he] at hV ⊢
      rw [hV]
      exact (Rel.toV_eq (hT _ _ he) hV).symm
  rw [hcong] at hr
  split at hr
  · rename_i V hV
    obtain ⟨h1, rfl, rfl⟩ := M.ofOpt_some hr
    exact ⟨_, E, w, V, pureRun_run hV w, .inl rfl, Rel.of_ofV 4 h1, I, Grew.refl _ _⟩
  · rename_i hV
    obtain ⟨rfl, rfl, rfl⟩ := M.ret_some hr
    exact ⟨_, E, w, undef, pureRun_run hV w, .inr ⟨rfl, rfl⟩, rel_uns E, I, Grew.refl _ _⟩
  · simp [M.fail] at hr

end Go.Proofs.YtcoagfnkcbfbaaaGreatDoor
