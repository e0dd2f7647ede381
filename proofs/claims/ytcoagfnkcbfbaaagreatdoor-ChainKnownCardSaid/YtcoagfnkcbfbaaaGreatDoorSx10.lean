/-
  The runner, tenth part: functions without a text, that the model gives by a rule of its own.
-/
import Derived.Test.YtcoagfnkcbfbaaaGreatDoorSx9
import Derived.Laws.Externs
import Derived.Lib.BytesEntry
namespace Go.Proofs.YtcoagfnkcbfbaaaGreatDoor
open Go.RowKit

/-- what a rule for one function must keep -/
def RuleOk (P : Program) (base : Nat) (w0 : World) (g : Nat) (r : List SV → M SV) : Prop :=
  ∀ (vs : List SV) (Vs : Array Value) (E : Env) (h : Tr) (w : World) (n : Nat) (v : SV) (n' : Nat) (h' : Tr) (F : Ft), (r vs).run n h = some (v, n', h', F) → RelL E vs Vs.toList → Inv base w0 E h w → Free E n n' →
    (∃ E' V w', (callFunc g Vs).run P w = .ok (.value V) w' ∧ Rel E' v V ∧ Inv base w0 E' h' w' ∧ Grew E E' n n') ∨
    ((callFunc g Vs).run P w = .ok (.enter g Vs) w ∧ Calls P g Vs w fun e w' => ∃ E' V, e = .returned V ∧ Rel E' v V ∧ Inv base w0 E' h' w' ∧ Grew E E' n n')

/-- rules, by the functions' numbers -/
def pickR (g : Nat) : List (Nat × (List SV → M SV)) → Option (List SV → M SV)
  | [] => none
  | x :: l => if x.1 = g then some x.2 else pickR g l
theorem extOk_of {P : Program} {base : Nat} {w0 : World} : ∀ {l : List (Nat × (List SV → M SV))}, (∀ x ∈ l, RuleOk P base w0 x.1 x.2) → ExtOk P base w0 (fun g => pickR g l)
  | [], _ => fun g r hq => by simp [pickR] at hq
  | x :: l, hl => fun g r hq => by
    dsimp only [pickR] at hq
    split at hq
    · rename_i e
      subst e
      cases hq
      exact hl x (by simp)
    · exact extOk_of (l := l) (fun y hy => hl y (by simp [hy])) g r hq

/-- the model's rule for a function -/
def GivenBy (P : Program) (g : Nat) (e : Array Value → Sem Value) : Prop :=
  ∀ (args : Array Value) (w : World), (callFunc g args).run P w = ((e args).run P w).andThen fun v w' => .ok (.value v) w'

/-- a rule that asks for no memory -/
def pureX (P : Program) (e : Array Value → Sem Value) (vs : List SV) : M SV :=
  match SV.toVL vs with
  | some L => (match pureRun P (e L.toArray) with
    | some V => .ofOpt (ofV 4 V)
    | none => .fail)
  | none => .fail
theorem pureX_ok {P : Program} {base : Nat} {w0 : World} {g : Nat} {e : Array Value → Sem Value} (hg : GivenBy P g e) : RuleOk P base w0 g (pureX P e) := by
  intro vs Vs E h w n v n' h' F hr hargs I hf
  unfold pureX at hr
  split at hr
  · rename_i L hL
    split at hr
    · rename_i V hV
      obtain ⟨h1, rfl, rfl⟩ := M.ofOpt_some hr
      have hl : Vs = L.toArray := by
        apply Array.ext'
        rw [RelL.toV_eq hargs hL]
      refine .inl ⟨E, V, w, ?_, Rel.of_ofV 4 h1, I, Grew.refl _ _⟩
      rw [hg, hl, pureRun_run hV w]
      rfl
    · simp [M.fail] at hr
  · simp [M.fail] at hr

def byteS : SV → Option Int
  | .int .u8 x => some x
  | _ => none
/-- bytes of a slice -/
def bytesM (x : SV) : M (List Int) :=
  match x with
  | .ns => .ret []
  | .emp => .ret []
  | .sl b o k 1 _ => (readM b o k).bind fun l => .ofOpt (optAll byteS l)
  | _ => .fail
theorem bytes_all {E : Env} : ∀ {l : List SV} {L : List Value} {xs : List Int}, RelL E l L → optAll byteS l = some xs → L = xs.map (Value.int .u8)
  | _, _, xs, .nil, h => by cases h; rfl
  | _, _, xs, .cons a b, h => by
    obtain ⟨x, r, h1, h2, rfl⟩ := optAll_cons h
    have := bytes_all b h2
    rw [this]
    cases a with
    | int k m =>
      cases k <;> simp [byteS] at h1
      subst h1
      rfl
    | _ => simp [byteS] at h1
theorem bytesM_ok {P : Program} {base : Nat} {w0 : World} {E : Env} {h h' : Tr} {w : World} {n n' : Nat} {F : Ft} (I : Inv base w0 E h w) {x : SV} {X : Value} {xs : List Int} (hx : Rel E x X) (hr : (bytesM x).run n h = some (xs, n', h', F)) :
    n' = n ∧ h' = h ∧ (Extern.Bytes.bytesOf X).run P w = .ok ⟨(Lib.bytesOf xs).toArray⟩ w := by
  unfold bytesM at hr
  split at hr
  · obtain ⟨rfl, rfl, rfl⟩ := M.ret_some hr
    cases hx
    exact ⟨rfl, rfl, by simp [Extern.Bytes.bytesOf, Lib.bytesOf]; rfl⟩
  · obtain ⟨rfl, rfl, rfl⟩ := M.ret_some hr
    cases hx
    exact ⟨rfl, rfl, by simp [Extern.Bytes.bytesOf, Extern.Bytes.loadBytes, Lib.bytesOf]; rfl⟩
  · obtain ⟨l, n1, h1, F1, F2, e1, e2, -⟩ := M.bind_some hr
    cases hx with
    | sl hE hc hlen hroom =>
    obtain ⟨rfl, rfl, g1, g2, L, g3, g4, g5⟩ := readM_ok I hE e1
    obtain ⟨g6, rfl, rfl⟩ := M.ofOpt_some e2
    have hL := bytes_all g3 g6
    refine ⟨rfl, rfl, ?_⟩
    have hlx : xs.length = L.length := by rw [hL]; simp
    have := Lib.run_loadBytesX (P := P) w xs ⟨_, _, none⟩ .empty (fun j x hj => by
      refine g5 j _ ?_
      rw [hL, List.getElem?_map, hj]
      rfl)
    rw [hlx, g4] at this
    show (Extern.Bytes.loadBytes _ _ .empty).run P w = _
    rw [this]
    congr 1
    apply ByteArray.ext
    show (#[] : Array UInt8) ++ (Lib.bytesOf xs).toArray = (Lib.bytesOf xs).toArray
    simp
  · simp [M.fail] at hr

/-- internal/bytealg.Compare -/
def cmpX (vs : List SV) : M SV :=
  match vs with
  | [x, y] => (bytesM x).bind fun a => (bytesM y).bind fun b => .ret (.int .i64 (Lib.compareBytes (Lib.bytesOf a) (Lib.bytesOf b)))
  | _ => .fail
theorem cmpX_ok {P : Program} {base : Nat} {w0 : World} {g : Nat} (hg : GivenBy P g Extern.BytealgCompare.compare) : RuleOk P base w0 g cmpX := by
  intro vs Vs E h w n v n' h' F hr hargs I hf
  unfold cmpX at hr
  split at hr
  · rename_i x y
    obtain ⟨a, n1, h1, F1, F2, e1, e2, -⟩ := M.bind_some hr
    obtain ⟨b, n2, h2, F3, F4, e3, e4, -⟩ := M.bind_some e2
    obtain ⟨rfl, rfl, rfl⟩ := M.ret_some e4
    obtain ⟨X, Y, hVs, hx, hy⟩ : ∃ X Y, Vs.toList = [X, Y] ∧ Rel E x X ∧ Rel E y Y := by
      generalize hq : Vs.toList = L at hargs
      cases hargs with
      | cons p q =>
        cases q with
        | cons p' q' =>
          cases q'
          exact ⟨_, _, rfl, p, p'⟩
    obtain ⟨rfl, rfl, g1⟩ := bytesM_ok (P := P) I hx e1
    obtain ⟨rfl, rfl, g2⟩ := bytesM_ok (P := P) I hy e3
    refine .inl ⟨E, .int .i64 (Lib.compareBytes (Lib.bytesOf a) (Lib.bytesOf b)), w, ?_, .int _ _, I, Grew.refl _ _⟩
    have hv : Vs = #[X, Y] := toList_two hVs
    rw [hg, hv]
    have : (Extern.BytealgCompare.compare #[X, Y]).run P w = .ok (.int .i64 (Lib.compareBytes (Lib.bytesOf a) (Lib.bytesOf b))) w := by
      change Sem.run P (do pure (goInt (Extern.BytealgCompare.cmp (← Extern.Bytes.bytesOf X) (← Extern.Bytes.bytesOf Y)))) w = _
      simp only [Sem.run_bind, g1, g2, Sem.run_pure, Result.andThen]
      rw [Lib.cmp_eq]
      rfl
    rw [this]
    rfl
  · simp [M.fail] at hr
end Go.Proofs.YtcoagfnkcbfbaaaGreatDoor
