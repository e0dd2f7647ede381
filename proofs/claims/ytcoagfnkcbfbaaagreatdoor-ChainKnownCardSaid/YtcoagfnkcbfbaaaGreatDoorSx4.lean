/-
  The runner, fourth part: slices, appends, copies, maps, and the dispatch.
-/
import Derived.Test.YtcoagfnkcbfbaaaGreatDoorSx3
import Derived.RangeFuncRecord
namespace Go.Proofs.YtcoagfnkcbfbaaaGreatDoor
open Go.RowKit

section
variable {D : Dt} {ev : Operand → Option SV} {o : Oper} {a : Act} {base : Nat} {w0 : World} {E : Env} {h h' : Tr} {w : World} {n n' : Nat} {F : Ft} {v : SV}

def bndS (ev : Operand → Option SV) : Option Operand → Option (Option Int)
  | none => some none
  | some x => match ev x with
    | some (.int _ k) => some (some k)
    | _ => none
theorem bndS_ok (hT : ∀ x v, ev x = some v → Rel E v (a.eval x)) {x : Option Operand} {r : Option Int} (h : bndS ev x = some r) :
    (r = none ∧ x.map a.eval = none) ∨ ∃ q k, r = some k ∧ x.map a.eval = some (.int q k) := by
  cases x with
  | none => simp only [bndS, Option.some.injEq] at h; subst h; exact .inl ⟨rfl, rfl⟩
  | some x =>
    simp only [bndS] at h
    split at h
    · rename_i q k he
      simp only [Option.some.injEq] at h
      subst h
      have := hT _ _ he
      generalize hq : a.eval x = X at this
      cases this
      exact .inr ⟨q, k, rfl, by simp [hq]⟩
    · cases h
def pickN (r : Option Int) (d : Nat) : Option Nat :=
  match r with
  | none => some d
  | some z => if 0 ≤ z then some z.toNat else none

theorem run_bounds {P : Program} (isSlice : Bool) (len cap : Nat) {lo hi mx : Option Value} {L H M : Nat}
    (hm : (mx = none ∧ M = cap) ∨ ∃ k z, mx = some (.int k z) ∧ 0 ≤ z ∧ z.toNat = M ∧ M ≤ cap)
    (hh : (hi = none ∧ mx = none ∧ H = len) ∨ ∃ k z, hi = some (.int k z) ∧ 0 ≤ z ∧ z.toNat = H ∧ H ≤ M)
    (hl : (lo = none ∧ L = 0) ∨ ∃ k z, lo = some (.int k z) ∧ 0 ≤ z ∧ z.toNat = L ∧ L ≤ H) :
    (Instr.sliceBounds isSlice len cap lo hi mx).run P w = .ok (L, H, M) w := by
  have key : ∀ (k : IntKind) (z : Int) (y N : Nat) (c : BoundsCode), 0 ≤ z → z.toNat = N → N ≤ y → (Instr.sliceBound (.int k z) y c).run P w = .ok N w := fun k z y N c h0 h1 h2 => by
    have h3 : z ≤ (y : Int) := by omega
    simp [Instr.sliceBound, asIntOf, h0, h3, h1]
  rcases hm with ⟨rfl, rfl⟩ | ⟨km, zm, rfl, m0, m1, m2⟩
  · rcases hh with ⟨rfl, -, rfl⟩ | ⟨kh, zh, rfl, h0, h1, h2⟩
    · rcases hl with ⟨rfl, rfl⟩ | ⟨kl, zl, rfl, l0, l1, l2⟩
      · simp [Instr.sliceBounds]
      · simp [Instr.sliceBounds, key kl zl _ L _ l0 l1 l2]
    · rcases hl with ⟨rfl, rfl⟩ | ⟨kl, zl, rfl, l0, l1, l2⟩
      · simp [Instr.sliceBounds, key kh zh _ H _ h0 h1 h2]
      · simp [Instr.sliceBounds, key kh zh _ H _ h0 h1 h2, key kl zl _ L _ l0 l1 l2]
  · rcases hh with ⟨-, e, -⟩ | ⟨kh, zh, rfl, h0, h1, h2⟩
    · cases e
    · rcases hl with ⟨rfl, rfl⟩ | ⟨kl, zl, rfl, l0, l1, l2⟩
      · simp [Instr.sliceBounds, key km zm _ M _ m0 m1 m2, key kh zh _ H _ h0 h1 h2]
      · simp [Instr.sliceBounds, key km zm _ M _ m0 m1 m2, key kh zh _ H _ h0 h1 h2, key kl zl _ L _ l0 l1 l2]

theorem pickN_ok (hT : ∀ x v, ev x = some v → Rel E v (a.eval x)) {x : Option Operand} {r : Option Int} (h : bndS ev x = some r) {d N : Nat} (hp : pickN r d = some N) :
    (r = none ∧ x.map a.eval = none ∧ N = d) ∨ ∃ q k, r = some k ∧ x.map a.eval = some (.int q k) ∧ 0 ≤ k ∧ k.toNat = N := by
  rcases bndS_ok hT h with ⟨rfl, hx⟩ | ⟨q, k, rfl, hx⟩
  · simp only [pickN, Option.some.injEq] at hp
    exact .inl ⟨rfl, hx, hp.symm⟩
  · simp only [pickN] at hp
    split at hp
    · rename_i h0
      simp only [Option.some.injEq] at hp
      exact .inr ⟨q, k, rfl, hx, h0, hp⟩
    · cases hp

def sliceM (D : Dt) (ev : Operand → Option SV) (t : Nat) (x : SV) (lo hi mx : Option Operand) : M SV :=
  match D.ti t, bndS ev lo, bndS ev hi, bndS ev mx with
  | some i, some l, some hh, some mm =>
    match i.d, x with
    | .array cnt e, .ptr b o => match D.ti e, pickN mm cnt, pickN hh cnt, pickN l 0 with
      | some j, some m, some H, some L =>
        .want (decide (L ≤ H) && decide (H ≤ m) && decide (m ≤ cnt) && (hh.isSome || mm.isNone)) (.ret (.sl b (if m = L then o else o + L * j.size) (H - L) j.size (some (m - L))))
      | _, _, _, _ => .fail
    | .slice e, .sl b o len z (some cap) => match D.ti e, pickN mm cap, pickN hh len, pickN l 0 with
      | some j, some m, some H, some L =>
        .want (decide (L ≤ H) && decide (H ≤ m) && decide (m ≤ cap) && (hh.isSome || mm.isNone) && j.size == z) (.ret (.sl b (if m = L then o else o + L * z) (H - L) z (some (m - L))))
      | _, _, _, _ => .fail
    | .slice e, .sl b o len z none => match D.ti e, pickN mm len, pickN hh len, pickN l 0 with
      | some j, some m, some H, some L =>
        .want (decide (L ≤ H) && decide (H ≤ m) && decide (m ≤ len) && (hh.isSome || mm.isNone) && j.size == z)
          (if mm.isSome then .ret (.sl b (if m = L then o else o + L * z) (H - L) z (some (m - L)))
           else if L = 0 then .ret (.sl b o H z none)
           else if L < len then .ret (.sl b (o + L * z) (H - L) z none)
           else .ret .emp)
      | _, _, _, _ => .fail
    | .slice e, .ns => match D.ti e, pickN mm 0, pickN hh 0, pickN l 0 with
      | some _, some 0, some 0, some 0 => .want (hh.isSome || mm.isNone) (.ret .ns)
      | _, _, _, _ => .fail
    | .slice e, .emp => match D.ti e, pickN mm 0, pickN hh 0, pickN l 0 with
      | some _, some 0, some 0, some 0 => .want (hh.isSome || mm.isNone) (.ret .emp)
      | _, _, _, _ => .fail
    | _, _ => .fail
  | _, _, _, _ => .fail

theorem sliceM_ok (hD : D.Ok) (hT : ∀ x v, ev x = some v → Rel E v (a.eval x)) {t : Nat} {x : SV} {X : Value} {lo hi mx : Option Operand} (hx : Rel E x X) (hr : (sliceM D ev t x lo hi mx).run n h = some (v, n', h', F)) :
    n' = n ∧ h' = h ∧ ∃ U, (Instr.sliceAt t X (lo.map a.eval) (hi.map a.eval) (mx.map a.eval)).run D.P w = .ok U w ∧ Rel E v U := by
  unfold sliceM at hr
  split at hr
  case h_2 => simp [M.fail] at hr
  rename_i i l hh mm hti hbl hbh hbm
  have T := hD.ti t i hti
  have bounds : ∀ (isSlice : Bool) (len cap L H m dm : Nat), pickN mm dm = some m → pickN hh len = some H → pickN l 0 = some L → L ≤ H → H ≤ m → m ≤ cap → (hh.isSome || mm.isNone) = true → (mm = none → m = cap) →
      (Instr.sliceBounds isSlice len cap (lo.map a.eval) (hi.map a.eval) (mx.map a.eval)).run D.P w = .ok (L, H, m) w := by
    intro isSlice len cap L H m dm p1 p2 p3 q1 q2 q3 q4 q5
    refine run_bounds isSlice len cap ?_ ?_ ?_
    · rcases pickN_ok hT hbm p1 with ⟨r1, r2, r3⟩ | ⟨q, k, r1, r2, r3, r4⟩
      · exact .inl ⟨r2, q5 r1⟩
      · exact .inr ⟨q, k, r2, r3, r4, q3⟩
    · rcases pickN_ok hT hbh p2 with ⟨r1, r2, r3⟩ | ⟨q, k, r1, r2, r3, r4⟩
      · rcases bndS_ok hT hbm with ⟨s1, s2⟩ | ⟨q', k', s1, s2⟩
        · exact .inl ⟨r2, s2, r3⟩
        · subst r1; subst s1; simp at q4
      · exact .inr ⟨q, k, r2, r3, r4, q2⟩
    · rcases pickN_ok hT hbl p3 with ⟨r1, r2, r3⟩ | ⟨q, k, r1, r2, r3, r4⟩
      · exact .inl ⟨r2, r3⟩
      · exact .inr ⟨q, k, r2, r3, r4, q1⟩
  split at hr
  · -- an array
    rename_i cnt e b o hd
    have hu := T.und
    rw [hd] at hu
    cases hx with
    | ptr hE =>
    rename_i B m0
    split at hr
    case h_2 => simp [M.fail] at hr
    rename_i j m H L hj p1 p2 p3
    obtain ⟨hw, hr⟩ := M.want_some hr
    simp only [Bool.and_eq_true, decide_eq_true_eq] at hw
    obtain ⟨⟨⟨q1, q2⟩, q3⟩, q4⟩ := hw
    obtain ⟨rfl, rfl, rfl⟩ := M.ret_some hr
    obtain ⟨If, f1, f2, f3, Z, f4, f5⟩ := (hD.ti e j hj).info
    have hb := bounds false cnt cnt L H m cnt p1 p2 p3 q1 q2 q3 q4 (fun e => by subst e; simp [pickN] at p1; omega)
    refine ⟨rfl, rfl, .slice (some ⟨B, if m = L then o else o + L * j.size, none⟩) (H - L) (m - L), ?_, .sl hE (fun k e => by cases e; rfl) (by omega) (fun e => by cases e)⟩
    simp only [Instr.sliceAt, Sem.run_bind, run_underlying hu, Result.andThen_ok, Instr.sureAddr, Sem.run_pure, hb, run_sizeOf f1, f2]
    congr 2
    by_cases e : m = L <;> simp [e, add_cell]
  · -- a slice of a known capacity
    rename_i e b o len z cap hd
    have hu := T.und
    rw [hd] at hu
    cases hx with
    | sl hE c1 c2 c3 =>
    rename_i B m0 c'
    have hc' := c1 cap rfl
    subst hc'
    split at hr
    case h_2 => simp [M.fail] at hr
    rename_i j m H L hj p1 p2 p3
    obtain ⟨hw, hr⟩ := M.want_some hr
    simp only [Bool.and_eq_true, decide_eq_true_eq, beq_iff_eq] at hw
    obtain ⟨⟨⟨⟨q1, q2⟩, q3⟩, q4⟩, q5⟩ := hw
    obtain ⟨rfl, rfl, rfl⟩ := M.ret_some hr
    obtain ⟨If, f1, f2, f3, Z, f4, f5⟩ := (hD.ti e j hj).info
    have hb := bounds true len c' L H m c' p1 p2 p3 q1 q2 q3 q4 (fun e => by subst e; simp [pickN] at p1; omega)
    refine ⟨rfl, rfl, .slice (some ⟨B, if m = L then o else o + L * z, none⟩) (H - L) (m - L), ?_, .sl hE (fun k e => by cases e; rfl) (by omega) (fun e => by cases e)⟩
    simp only [Instr.sliceAt, Instr.slice, Sem.run_bind, run_underlying hu, Result.andThen_ok, Sem.run_pure, hb, run_sizeOf f1, f2, q5]
    congr 2
    by_cases e : m = L <;> simp [e, add_cell]
  · -- a slice of an unknown capacity
    rename_i e b o len z hd
    have hu := T.und
    rw [hd] at hu
    cases hx with
    | sl hE c1 c2 c3 =>
    rename_i B m0 c'
    have c4 := c3 rfl
    split at hr
    case h_2 => simp [M.fail] at hr
    rename_i j m H L hj p1 p2 p3
    have hw := (M.want_some hr).1
    replace hr := (M.want_some hr).2
    simp only [Bool.and_eq_true, decide_eq_true_eq, beq_iff_eq] at hw
    obtain ⟨⟨⟨⟨q1, q2⟩, q3⟩, q4⟩, q5⟩ := hw
    obtain ⟨If, f1, f2, f3, Z, f4, f5⟩ := (hD.ti e j hj).info
    split at hr
    · rename_i hsome
      obtain ⟨rfl, rfl, rfl⟩ := M.ret_some hr
      have hb := bounds true len c' L H m len p1 p2 p3 q1 q2 (by omega) q4 (fun e => by subst e; simp at hsome)
      refine ⟨rfl, rfl, .slice (some ⟨B, if m = L then o else o + L * z, none⟩) (H - L) (m - L), ?_, .sl hE (fun k e => by cases e; rfl) (by omega) (fun e => by cases e)⟩
      simp only [Instr.sliceAt, Instr.slice, Sem.run_bind, run_underlying hu, Result.andThen_ok, Sem.run_pure, hb, run_sizeOf f1, f2, q5]
      congr 2
      by_cases e : m = L <;> simp [e, add_cell]
    · rename_i hnone
      have hmm : mm = none := by cases mm <;> simp_all
      have hm : m = len := by subst hmm; simp [pickN] at p1; omega
      have hb := bounds true len c' L H c' c' (by subst hmm; rfl) p2 p3 q1 (by omega) (Nat.le_refl _) q4 (fun _ => rfl)
      have hrun : (Instr.sliceAt t (.slice (some ⟨B, o, none⟩) len c') (lo.map a.eval) (hi.map a.eval) (mx.map a.eval)).run D.P w =
          .ok (.slice (if c' = L then some ⟨B, o, none⟩ else some ⟨B, o + L * z, none⟩) (H - L) (c' - L)) w := by
        simp only [Instr.sliceAt, Instr.slice, Sem.run_bind, run_underlying hu, Result.andThen_ok, Sem.run_pure, hb, run_sizeOf f1, f2, q5]
        congr 2
        by_cases e : c' = L <;> simp [e, add_cell]
      split at hr
      · rename_i hL
        subst hL
        obtain ⟨rfl, rfl, rfl⟩ := M.ret_some hr
        refine ⟨rfl, rfl, _, hrun, ?_⟩
        simp only [Nat.zero_mul, Nat.add_zero, ite_self, Nat.sub_zero]
        exact .sl hE (fun k e => by cases e) (by omega) (fun _ => c4)
      · split at hr
        · rename_i hL hlt
          obtain ⟨rfl, rfl, rfl⟩ := M.ret_some hr
          refine ⟨rfl, rfl, _, hrun, ?_⟩
          rw [if_neg (by omega)]
          refine .sl hE (fun k e => by cases e) (by omega) (fun _ => ?_)
          have : (c' - L) * z = c' * z - L * z := Nat.sub_mul _ _ _
          have h2 : L * z ≤ c' * z := Nat.mul_le_mul_right _ (by omega)
          omega
        · rename_i hL hlt
          obtain ⟨rfl, rfl, rfl⟩ := M.ret_some hr
          refine ⟨rfl, rfl, _, hrun, ?_⟩
          have : H - L = 0 := by omega
          rw [this]
          split <;> exact .emp
  · -- no slice
    rename_i e hd
    have hu := T.und
    rw [hd] at hu
    cases hx with
    | ns =>
    split at hr
    case h_2 => simp [M.fail] at hr
    rename_i j hj p1 p2 p3
    obtain ⟨q4, hr⟩ := M.want_some hr
    obtain ⟨rfl, rfl, rfl⟩ := M.ret_some hr
    obtain ⟨If, f1, f2, f3, Z, f4, f5⟩ := (hD.ti e j hj).info
    have hb := bounds true 0 0 0 0 0 0 p1 p2 p3 (Nat.le_refl _) (Nat.le_refl _) (Nat.le_refl _) q4 (fun _ => rfl)
    refine ⟨rfl, rfl, .slice none 0 0, ?_, .ns⟩
    simp only [Instr.sliceAt, Instr.slice, Sem.run_bind, run_underlying hu, Result.andThen_ok, Sem.run_pure, hb, run_sizeOf f1, f2]
    rfl
  · -- an empty one
    rename_i e hd
    have hu := T.und
    rw [hd] at hu
    cases hx with
    | emp =>
    rename_i A c
    split at hr
    case h_2 => simp [M.fail] at hr
    rename_i j hj p1 p2 p3
    obtain ⟨q4, hr⟩ := M.want_some hr
    obtain ⟨rfl, rfl, rfl⟩ := M.ret_some hr
    obtain ⟨If, f1, f2, f3, Z, f4, f5⟩ := (hD.ti e j hj).info
    by_cases hmm : mm = none
    · have hb := bounds true 0 c 0 0 c c (by subst hmm; rfl) p2 p3 (Nat.le_refl _) (Nat.zero_le _) (Nat.le_refl _) q4 (fun _ => rfl)
      refine ⟨rfl, rfl, .slice (some A) 0 c, ?_, .emp⟩
      simp only [Instr.sliceAt, Instr.slice, Sem.run_bind, run_underlying hu, Result.andThen_ok, Sem.run_pure, hb, run_sizeOf f1, f2]
      congr 2
      by_cases e : c = 0 <;> simp [e, Addr.add]
    · have hb := bounds true 0 c 0 0 0 0 p1 p2 p3 (Nat.le_refl _) (Nat.le_refl _) (Nat.zero_le _) q4 (fun e => absurd e hmm)
      refine ⟨rfl, rfl, .slice (some A) 0 0, ?_, .emp⟩
      simp only [Instr.sliceAt, Instr.slice, Sem.run_bind, run_underlying hu, Result.andThen_ok, Sem.run_pure, hb, run_sizeOf f1, f2]
      simp
  · simp [M.fail] at hr

def makeSliceM (D : Dt) (t : Nat) (l c : SV) : M SV :=
  match D.ti t, l, c with
  | some i, .int _ ln, .int _ cp => match i.d with
    | .slice e => match D.ti e with
      | some j => .want (decide (0 ≤ ln) && decide (ln ≤ cp) && decide (cp ≤ 1073741824) && decide ((j.bytes : Int) * cp ≤ 281474976710656) && decide (0 < j.size))
          ((M.new (.cells (zerosS (cellsS j.zero) (cp.toNat * j.size)) e true)).bind fun b => .ret (.sl b 0 ln.toNat j.size (some cp.toNat)))
      | none => .fail
    | _ => .fail
  | _, _, _ => .fail
theorem makeSliceM_ok (hD : D.Ok) (I : Inv base w0 E h w) {t : Nat} {l c : SV} {L C : Value} (hl : Rel E l L) (hc : Rel E c C) (hf : Free E n n') (hr : (makeSliceM D t l c).run n h = some (v, n', h', F)) :
    ∃ U w' E', (Instr.makeSlice t L C).run D.P w = .ok U w' ∧ Rel E' v U ∧ Inv base w0 E' h' w' ∧ Grew E E' n n' := by
  unfold makeSliceM at hr
  split at hr
  case h_2 => simp [M.fail] at hr
  rename_i i kl ln kc cp hti
  have T := hD.ti t i hti
  cases hl with
  | int _ _ =>
  cases hc with
  | int _ _ =>
  split at hr
  case h_2 => simp [M.fail] at hr
  rename_i e hd
  have hu := T.und
  rw [hd] at hu
  split at hr
  case h_2 => simp [M.fail] at hr
  rename_i j hj
  have Te := hD.ti e j hj
  obtain ⟨If, f1, f2, f3, Z, f4, f5⟩ := Te.info
  obtain ⟨hw, hr⟩ := M.want_some hr
  simp only [Bool.and_eq_true, decide_eq_true_eq] at hw
  obtain ⟨⟨⟨⟨q1, q2⟩, q3⟩, q4⟩, q5⟩ := hw
  obtain ⟨b, n1, h1, F1, F2, e1, e2, -⟩ := M.bind_some hr
  obtain ⟨rfl, rfl, rfl⟩ := M.ret_some e2
  have hz : RelL E (cellsS j.zero) Z.cells.toList := cellsS_rel (Rel.of_toV f5)
  have hzz := zerosS_ok (k := cp.toNat * j.size) hz (fun e => by rw [Te.zc] at e; omega)
  have hlR := hzz.length
  obtain ⟨rfl, rfl, E', I', G, hE'⟩ := newM_ok I e1 hf (C := madeCells Z.cells (cp.toNat * j.size)) (by rw [hlR, List.take_length]; exact hzz) (by simp at hlR; omega) (fun _ => by simpa using hlR)
  have hrun := run_make (P := D.P) w t e If Z hu f1 f4 kl kc ln cp q1 q2 (by rw [f3]; exact q4) (by omega)
  rw [f2] at hrun
  exact ⟨_, _, E', hrun, .sl hE' (fun k e => by cases e; rfl) (by omega) (fun e => by cases e), I', G⟩

/-- which entry of a map -/
def keyEq (D : Dt) (kt : Nat) (K : Value) (k : SV) : Option Bool :=
  match k.toV with
  | some X => pureRun D.P (Op.equal kt K X)
  | none => none
def findS (D : Dt) (kt : Nat) (K : Value) : List (SV × SV) → Nat → Option (Option (Nat × SV))
  | [], _ => some none
  | (k, v) :: r, i => match keyEq D kt K k with
    | some true => some (some (i, v))
    | some false => findS D kt K r (i + 1)
    | none => none
theorem findS_ok {kt : Nat} {K : Value} : ∀ {es : List (SV × SV)} {L : List MapEntry} {i : Nat} {r : Option (Nat × SV)}, RelE E es L → findS D kt K es i = some r →
    ∃ r', (Instr.findAsking kt K L i).run D.P w = .ok r' w ∧ ((r = none ∧ r' = none) ∨ ∃ j v V k e, r = some (i + j, v) ∧ r' = some (i + j, V) ∧ Rel E v V ∧ es[j]? = some (k, v) ∧ L[j]? = some e ∧ Rel E k e.key)
  | [], _, i, r, .nil, h => by
    simp only [findS, Option.some.injEq] at h
    subst h
    exact ⟨none, by simp [Instr.findAsking], .inl ⟨rfl, rfl⟩⟩
  | (k, v) :: es, _, i, r, .cons (e := e) (L := L) hk hv hr, h => by
    unfold findS at h
    cases hq : keyEq D kt K k with
    | none => simp [hq] at h
    | some b =>
      unfold keyEq at hq
      cases hx : k.toV with
      | none => simp [hx] at hq
      | some X =>
        simp only [hx] at hq
        have hX := hk.toV_eq hx
        subst hX
        have hrun := pureRun_run hq w
        have hq' : keyEq D kt K k = some b := by simp only [keyEq, hx, hq]
        simp only [hq'] at h
        cases b with
        | true =>
          simp only [Option.some.injEq] at h
          subst h
          exact ⟨some (i, e.val), by simp [Instr.findAsking, hrun], .inr ⟨0, v, e.val, k, e, rfl, rfl, hv, rfl, rfl, hk⟩⟩
        | false =>
          obtain ⟨r', g1, g2⟩ := findS_ok hr h
          refine ⟨r', by simp [Instr.findAsking, hrun, g1], ?_⟩
          rcases g2 with g2 | ⟨j, v', V', k', e', g3, g4, g5, g6, g7, g8⟩
          · exact .inl g2
          · exact .inr ⟨j + 1, v', V', k', e', by rw [g3]; congr 2; omega, by rw [g4]; congr 2; omega, g5, by simpa using g6, by simpa using g7, g8⟩
theorem findNow_array (len e : Nat) (K : Value) : ∀ (L : List MapEntry), L ≠ [] → Instr.findNow (.array len e) K L 0 = none
  | [], h => absurd rfl h
  | x :: L, _ => by simp [Instr.findNow, Instr.sameNow]
theorem run_findKey {P : Program} {kt : Nat} {K : Value} {L : List MapEntry} {len e : Nat} (hu : P.underlying kt = some (.array len e)) {r : Option (Nat × Value)} (hr : (Instr.findAsking kt K L).run P w = .ok r w) :
    (Instr.findKey kt K L).run P w = .ok r w := by
  simp only [Instr.findKey, Sem.run_bind, run_underlying hu, Result.andThen_ok]
  cases L with
  | nil =>
    simp [Instr.findAsking] at hr
    simp [Instr.findNow, hr]
  | cons x L =>
    rw [findNow_array len e K (x :: L) (by simp)]
    exact hr

theorem Inv.map (I : Inv base w0 E h w) {b B m : Nat} {es : List (SV × SV)} (hb : h.get b = some (.map es)) (hE : E b = some (B, m)) :
    ∃ L clock, w.heap[B]? = some (.map L clock) ∧ RelE E es L.toList ∧ (L.toList.map (·.born)).Nodup ∧ ∀ e ∈ L.toList, e.born < clock := by
  obtain ⟨B', m', h1, h2⟩ := I.blk b _ hb
  rw [hE] at h1
  cases h1
  generalize hq : w.heap[B]? = o at h2
  cases h2 with
  | map a b c => exact ⟨_, _, rfl, a, b, c⟩
theorem RelE.length : ∀ {es : List (SV × SV)} {L : List MapEntry}, RelE E es L → es.length = L.length
  | _, _, .nil => rfl
  | _, _, .cons _ _ c => by simp [RelE.length c]

def mapKey (D : Dt) (t : Nat) (k : SV) : Option (Nat × Nat × Value) :=
  match D.ti t, k.toV with
  | some i, some K => match i.d with
    | .map kt et => match D.ti kt with
      | some ki => match ki.d with
        | .array _ _ => some (kt, et, K)
        | _ => none
      | none => none
    | _ => none
  | _, _ => none
theorem mapKey_ok (hD : D.Ok) {t : Nat} {k : SV} {kt et : Nat} {K X : Value} (hm : mapKey D t k = some (kt, et, K)) (hk : Rel E k X) :
    X = K ∧ D.P.underlying t = some (.map kt et) ∧ ∃ len e, D.P.underlying kt = some (.array len e) := by
  unfold mapKey at hm
  split at hm
  case h_2 => cases hm
  rename_i i K' hti hK
  have T := hD.ti t i hti
  split at hm
  case h_2 => cases hm
  rename_i kt' et' hd
  split at hm
  case h_2 => cases hm
  rename_i ki hki
  split at hm
  case h_2 => cases hm
  rename_i len e hkd
  cases hm
  have hu := T.und
  rw [hd] at hu
  have hku := (hD.ti kt ki hki).und
  rw [hkd] at hku
  exact ⟨hk.toV_eq hK, hu, len, e, hku⟩

def okOf (c : Bool) (v : SV) (is : Bool) : SV := if c then .tup [v, .bool is] else v
def lookupM (D : Dt) (t : Nat) (m k : SV) (c : Bool) : M SV :=
  match mapKey D t k with
  | some (kt, et, K) => match D.ti et with
    | some ei => match m with
      | .nm => .want (pureRun D.P (Instr.checkKey true 10000 kt K)).isSome (.ret (okOf c ei.zero false))
      | .map b => (M.get b).bind fun s => match s with
        | .map es => .want (pureRun D.P (Instr.checkKey es.isEmpty 10000 kt K)).isSome (match findS D kt K es 0 with
          | some (some (_, v)) => .ret (okOf c v true)
          | some none => .ret (okOf c ei.zero false)
          | none => .fail)
        | _ => .fail
      | _ => .fail
    | none => .fail
  | none => .fail
theorem okOf_ok {c : Bool} {v : SV} {V : Value} {is : Bool} (hv : Rel E v V) : Rel E (okOf c v is) (if c then .tuple #[V, .bool is] else V) := by
  cases c with
  | false => exact hv
  | true => exact .tup (.cons hv (.cons (.bool _) .nil))
theorem lookupM_ok (hD : D.Ok) (I : Inv base w0 E h w) {t : Nat} {m k : SV} {Mv X : Value} {c : Bool} (hm : Rel E m Mv) (hk : Rel E k X) (hr : (lookupM D t m k c).run n h = some (v, n', h', F)) :
    n' = n ∧ h' = h ∧ ∃ U, (Instr.lookup t Mv X c).run D.P w = .ok U w ∧ Rel E v U := by
  unfold lookupM at hr
  split at hr
  case h_2 => simp [M.fail] at hr
  rename_i kt et K hmk
  obtain ⟨rfl, hu, len, e, hku⟩ := mapKey_ok hD hmk hk
  split at hr
  case h_2 => simp [M.fail] at hr
  rename_i ei hei
  obtain ⟨If, f1, f2, f3, Z, f4, f5⟩ := (hD.ti et ei hei).info
  have hz : Rel E ei.zero Z := Rel.of_toV f5
  split at hr
  · cases hm with
    | nm =>
    obtain ⟨hw, hr⟩ := M.want_some hr
    obtain ⟨u, hu'⟩ := Option.isSome_iff_exists.1 hw
    obtain ⟨rfl, rfl, rfl⟩ := M.ret_some hr
    have hck := pureRun_run hu' w
    refine ⟨rfl, rfl, _, ?_, okOf_ok hz⟩
    have hfk : (Instr.findKey kt X []).run D.P w = .ok none w := run_findKey hku (by simp [Instr.findAsking])
    simp only [Instr.lookup, Sem.run_bind, run_underlying hu, Result.andThen_ok, Sem.run_pure]
    simp [hck, hfk, run_zeroValue f1 f4]
  · cases hm with
    | map hE =>
    rename_i b B m0
    obtain ⟨s, n1, h1, F1, F2, e1, e2, -⟩ := M.bind_some hr
    obtain ⟨-, hg, rfl, rfl⟩ := M.get_some e1
    cases s with
    | cells l t x => simp [M.fail] at e2
    | iter0 => simp [M.fail] at e2
    | map es =>
      dsimp only at e2
      obtain ⟨hw, e2⟩ := M.want_some e2
      obtain ⟨u, hu'⟩ := Option.isSome_iff_exists.1 hw
      have hck := pureRun_run hu' w
      obtain ⟨L, clock, l1, l2, l3, l4⟩ := I.map hg hE
      have hempty : es.isEmpty = L.isEmpty := by
        have := l2.length
        rw [Array.length_toList] at this
        rw [Bool.eq_iff_iff, List.isEmpty_iff, Array.isEmpty_iff]
        constructor
        · intro e
          subst e
          exact Array.eq_empty_of_size_eq_zero (by simpa using this.symm)
        · intro e
          subst e
          exact List.eq_nil_of_length_eq_zero (by simpa using this)
      rw [hempty] at hck
      have hgo : (getObj B).run D.P w = .ok (.map L clock) w := by simp [getObj, Sem.run, l1]
      split at e2
      · rename_i j v' hfs
        obtain ⟨rfl, rfl, rfl⟩ := M.ret_some e2
        obtain ⟨r', g1, g2⟩ := findS_ok (w := w) l2 hfs
        rcases g2 with ⟨g2, -⟩ | ⟨j', v2, V2, k2, e2', g3, g4, g5, g6, g7, g8⟩
        · cases g2
        · cases g3
          subst g4
          have hfk := run_findKey hku g1
          refine ⟨rfl, rfl, _, ?_, okOf_ok g5⟩
          simp only [Instr.lookup, Sem.run_bind, run_underlying hu, Result.andThen_ok, hgo, Sem.run_pure]
          simp [hck, hfk]
      · rename_i hfs
        obtain ⟨rfl, rfl, rfl⟩ := M.ret_some e2
        obtain ⟨r', g1, g2⟩ := findS_ok (w := w) l2 hfs
        rcases g2 with ⟨-, g2⟩ | ⟨j', v2, V2, k2, e2', g3, g4, g5, g6, g7, g8⟩
        · subst g2
          have hfk := run_findKey hku g1
          refine ⟨rfl, rfl, _, ?_, okOf_ok hz⟩
          simp only [Instr.lookup, Sem.run_bind, run_underlying hu, Result.andThen_ok, hgo, Sem.run_pure]
          simp [hck, hfk, run_zeroValue f1 f4]
        · cases g3
      · simp [M.fail] at e2
  · simp [M.fail] at hr

def mapUpdateM (D : Dt) (t : Nat) (m k v : SV) : M SV :=
  match mapKey D t k, m with
  | some (kt, _, K), .map b => (M.get b).bind fun s => match s with
    | .map es => .want (pureRun D.P (Instr.checkKey false 10000 kt K)).isSome (match findS D kt K es 0 with
      | some (some (i, _)) => match es[i]? with
        | some (k0, _) => match k0.toV with
          | some K0 => .want (Instr.sameBits 10000 K0 K) ((M.put b (some (.map (es.set i (k, v))))).bind fun _ => .ret uns)
          | none => .fail
        | none => .fail
      | some none => (M.put b (some (.map (es ++ [(k, v)])))).bind fun _ => .ret uns
      | none => .fail)
    | _ => .fail
  | _, _ => .fail
theorem RelE.append : ∀ {es : List (SV × SV)} {L : List MapEntry} {k v : SV} {e : MapEntry}, RelE E es L → Rel E k e.key → Rel E v e.val → RelE E (es ++ [(k, v)]) (L ++ [e])
  | _, _, _, _, _, .nil, hk, hv => .cons hk hv .nil
  | _, _, _, _, _, .cons a b c, hk, hv => .cons a b (RelE.append c hk hv)
theorem RelE.set : ∀ {es : List (SV × SV)} {L : List MapEntry} {k v : SV} {e : MapEntry} (i : Nat), RelE E es L → Rel E k e.key → Rel E v e.val → RelE E (es.set i (k, v)) (L.set i e)
  | _, _, _, _, _, i, .nil, hk, hv => by simp; exact .nil
  | _, _, _, _, _, 0, .cons a b c, hk, hv => by simp; exact .cons hk hv c
  | _, _, _, _, _, i + 1, .cons a b c, hk, hv => by simp; exact .cons a b (RelE.set i c hk hv)
theorem putMap_ok (I : Inv base w0 E h w) {b B m : Nat} {es : List (SV × SV)} {L' : Array MapEntry} {clock' : Nat} {o0 : Obj} (hE : E b = some (B, m)) (hB : w.heap[B]? = some o0) (hL : RelE E es L'.toList) (hn : (L'.toList.map (·.born)).Nodup) (hc : ∀ e ∈ L'.toList, e.born < clock')
    (hb : (h.get b).isSome = true) (e : ∀ c, h'.get c = if c = b then some (.map es) else h.get c) : Inv base w0 E h' (w.putObj B (.map L' clock')) := by
  have hlt : B < w.heap.size := (Array.getElem?_eq_some_iff.1 hB).1
  refine I.put hb hE e ?_ (fun k hk => World.putObj_heap_other hk) (by simp [World.putObj]) rfl rfl rfl
  rw [World.putObj_heap_same hlt]
  exact .map hL hn hc
theorem mapUpdateM_ok (hD : D.Ok) (I : Inv base w0 E h w) {t : Nat} {m k x : SV} {Mv X V : Value} (hm : Rel E m Mv) (hk : Rel E k X) (hx : Rel E x V) (hr : (mapUpdateM D t m k x).run n h = some (v, n', h', F)) :
    n' = n ∧ v = uns ∧ ∃ w', (Instr.mapUpdate t Mv X V).run D.P w = .ok () w' ∧ Inv base w0 E h' w' := by
  unfold mapUpdateM at hr
  split at hr
  case h_2 => simp [M.fail] at hr
  rename_i kt et K b hmk
  obtain ⟨rfl, hu, len, e, hku⟩ := mapKey_ok hD hmk hk
  cases hm with
  | map hE =>
  rename_i B m0
  obtain ⟨s, n1, h1, F1, F2, e1, e2, -⟩ := M.bind_some hr
  obtain ⟨-, hg, rfl, rfl⟩ := M.get_some e1
  cases s with
  | cells l t x => simp [M.fail] at e2
  | iter0 => simp [M.fail] at e2
  | map es =>
    dsimp only at e2
    obtain ⟨hw, e2⟩ := M.want_some e2
    obtain ⟨u, hu'⟩ := Option.isSome_iff_exists.1 hw
    have hck := pureRun_run hu' w
    obtain ⟨L, clock, l1, l2, l3, l4⟩ := I.map hg hE
    have hgo : (getObj B).run D.P w = .ok (.map L clock) w := by simp [getObj, Sem.run, l1]
    have hso : ∀ o : Obj, (setObj B o).run D.P w = .ok () (w.putObj B o) := fun o => by simp [setObj, Sem.run, l1, World.putObj]
    split at e2
    · rename_i i v0 hfs
      obtain ⟨r', g1, g2⟩ := findS_ok (w := w) l2 hfs
      rcases g2 with ⟨g2, -⟩ | ⟨j', v2, V2, k2, en, g3, g4, g5, g6, g7, g8⟩
      · cases g2
      cases g3
      subst g4
      simp only [Nat.zero_add] at e2 g1
      rw [g6] at e2
      dsimp only at e2
      split at e2
      · rename_i K0 hK0
        obtain ⟨hsb, e2⟩ := M.want_some e2
        obtain ⟨u2, n2, h2, F3, F4, e3, e4, -⟩ := M.bind_some e2
        obtain ⟨rfl, rfl, rfl⟩ := M.ret_some e4
        obtain ⟨-, hs, rfl, hget⟩ := M.put_some e3
        have hkey := g8.toV_eq hK0
        have hLj : L[j']? = some en := by simpa using g7
        have hfk := run_findKey hku g1
        refine ⟨rfl, rfl, _, ?_, putMap_ok (L' := L.modify j' fun e => { e with key := X, val := V }) (clock' := clock) I hE l1 ?_ ?_ ?_ hs hget⟩
        · simp only [Instr.mapUpdate, Sem.run_bind, run_underlying hu, Result.andThen_ok, hgo]
          simp [hck, hfk, hLj, Instr.keyThatStays, hkey, hsb, hso]
        · have hset : (L.modify j' fun e => { e with key := X, val := V }).toList = L.toList.set j' { en with key := X, val := V } := by
            apply List.ext_getElem?
            intro q
            rw [Array.getElem?_toList, Array.getElem?_modify, List.getElem?_set]
            by_cases hq : j' = q
            · subst hq
              have hlt := (List.getElem?_eq_some_iff.1 g7).1
              simp [hLj]
              simpa using hlt
            · simp [hq]
          rw [hset]
          exact l2.set j' hk hx
        · have : (L.modify j' fun e => { e with key := X, val := V }).toList.map (·.born) = L.toList.map (·.born) := by
            apply List.ext_getElem?
            intro q
            simp only [List.getElem?_map, Array.getElem?_toList, Array.getElem?_modify]
            by_cases hq : j' = q
            · subst hq; cases L[j']? <;> simp
            · simp [hq]
          rw [this]; exact l3
        · intro e he
          obtain ⟨q, hq1, hq2⟩ := List.getElem_of_mem he
          have hq3 : (L.modify j' fun e => { e with key := X, val := V }).toList[q]? = some e := by rw [List.getElem?_eq_getElem hq1, hq2]
          rw [Array.getElem?_toList, Array.getElem?_modify] at hq3
          cases hLq : L[q]? with
          | none => simp [hLq] at hq3
          | some e0 =>
            have hmem : e0 ∈ L.toList := by
              have := List.mem_of_getElem? (l := L.toList) (i := q) (a := e0) (by simpa using hLq)
              exact this
            have := l4 e0 hmem
            rw [hLq] at hq3
            split at hq3 <;> (simp at hq3; subst hq3; exact this)
      · simp [M.fail] at e2
    · rename_i hfs
      obtain ⟨r', g1, g2⟩ := findS_ok (w := w) l2 hfs
      rcases g2 with ⟨-, g2⟩ | ⟨j', v2, V2, k2, en, g3, g4, g5, g6, g7, g8⟩
      · subst g2
        obtain ⟨u2, n2, h2, F3, F4, e3, e4, -⟩ := M.bind_some e2
        obtain ⟨rfl, rfl, rfl⟩ := M.ret_some e4
        obtain ⟨-, hs, rfl, hget⟩ := M.put_some e3
        have hfk := run_findKey hku g1
        refine ⟨rfl, rfl, _, ?_, putMap_ok (L' := L.push { key := X, val := V, born := clock }) (clock' := clock + 1) I hE l1 ?_ ?_ ?_ hs hget⟩
        · simp only [Instr.mapUpdate, Sem.run_bind, run_underlying hu, Result.andThen_ok, hgo]
          simp [hck, hfk, hso]
        · rw [Array.toList_push]
          exact l2.append hk hx
        · simp only [Array.toList_push, List.map_append, List.map_cons, List.map_nil]
          refine List.nodup_append.2 ⟨l3, by simp, ?_⟩
          intro p hp q hq
          simp at hq
          subst hq
          obtain ⟨e, he, rfl⟩ := List.mem_map.1 hp
          have := l4 e he
          omega
        · intro e he
          rw [Array.toList_push] at he
          rcases List.mem_append.1 he with he | he
          · have := l4 e he; omega
          · simp at he; subst he; simp
      · cases g3
    · simp [M.fail] at e2

/-- nothing against something -/
def nilEq (x y : SV) : Bool :=
  match x, y with
  | .ptr .., .np | .np, .ptr .. | .sl .., .ns | .ns, .sl .. | .emp, .ns | .ns, .emp | .map _, .nm | .nm, .map _ | .fn .., .nf | .nf, .fn .. | .iface .., .ni | .ni, .iface .. => true
  | _, _ => false
def nilD : TypeDesc → SV → Bool
  | .pointer _, .np | .slice _, .ns | .map _ _, .nm | .func _ _ _, .nf | .interface _, .ni => true
  | _, _ => false
def nilM (D : Dt) (op : BinOp) (t : Nat) (x y : SV) : M SV :=
  match D.ti t, op with
  | some i, .eql => .want (nilEq x y && (nilD i.d x || nilD i.d y)) (.ret (.bool false))
  | some i, .neq => .want (nilEq x y && (nilD i.d x || nilD i.d y)) (.ret (.bool true))
  | _, _ => .fail
theorem nil_equal (hD : D.Ok) {t : Nat} {i : TI} (hi : D.ti t = some i) {x y : SV} {X Y : Value} (hx : Rel E x X) (hy : Rel E y Y) (hq : (nilEq x y && (nilD i.d x || nilD i.d y)) = true) :
    (Op.equal t X Y).run D.P w = .ok false w ∧ ∀ op cx cy, (eqGuard op t cx cy X Y).run D.P w = .ok () w := by
  have hu := (hD.ti t i hi).und
  simp only [Bool.and_eq_true, Bool.or_eq_true] at hq
  obtain ⟨h1, h2⟩ := hq
  generalize hd : i.d = d at hu h2
  have key : ∀ k : Nat, (Op.equalIn (k + 1) t X Y).run D.P w = .ok false w := by
    intro k
    cases hx <;> cases hy <;> simp [nilEq] at h1 <;> cases d <;> simp [nilD] at h2 <;> simp [Op.equalIn, run_underlying hu]
  refine ⟨key 9999, fun op cx cy => ?_⟩
  cases hx <;> cases hy <;> simp [nilEq] at h1 <;> cases op <;> simp [eqGuard]
theorem nilM_ok (hD : D.Ok) {op : BinOp} {t : Nat} {x y : SV} {X Y : Value} {cx cy : Operand} (hx : Rel E x X) (hy : Rel E y Y) (hr : (nilM D op t x y).run n h = some (v, n', h', F)) :
    n' = n ∧ h' = h ∧ ∃ U, (do eqGuard op t cx cy X Y; binOp op t X Y : Sem Value).run D.P w = .ok U w ∧ Rel E v U := by
  unfold nilM at hr
  split at hr
  · rename_i i hi
    obtain ⟨hq, hr⟩ := M.want_some hr
    obtain ⟨rfl, rfl, rfl⟩ := M.ret_some hr
    obtain ⟨g1, g2⟩ := nil_equal (w := w) hD hi hx hy hq
    refine ⟨rfl, rfl, .bool false, ?_, .bool _⟩
    have hb : binOp .eql t X Y = (do pure (.bool (← Op.equal t X Y))) := by
      simp only [Bool.and_eq_true] at hq
      have := hq.1
      cases hx <;> cases hy <;> simp [nilEq] at this <;> rfl
    simp only [Sem.run_bind, g2, Result.andThen_ok, hb, g1, Sem.run_pure]
  · rename_i i hi
    obtain ⟨hq, hr⟩ := M.want_some hr
    obtain ⟨rfl, rfl, rfl⟩ := M.ret_some hr
    obtain ⟨g1, g2⟩ := nil_equal (w := w) hD hi hx hy hq
    refine ⟨rfl, rfl, .bool true, ?_, .bool _⟩
    have hb : binOp .neq t X Y = (do pure (.bool (!(← Op.equal t X Y)))) := by
      simp only [Bool.and_eq_true] at hq
      have := hq.1
      cases hx <;> cases hy <;> simp [nilEq] at this <;> rfl
    simp only [Sem.run_bind, g2, Result.andThen_ok, hb, g1, Sem.run_pure, Bool.not_false]
  · simp [M.fail] at hr

/-- a part of a struct's or an array's value -/
def partM (D : Dt) (e off : Nat) (l : List SV) : M SV :=
  match D.ti e with
  | some j => if isAggD j.d then .want (decide (off + j.size ≤ l.length)) (.ret (.agg ((l.drop off).take j.size))) else .ofOpt l[off]?
  | none => .fail
theorem partM_ok (hD : D.Ok) {e off : Nat} {l : List SV} {C : Array Value} (hl : RelL E l C.toList) (hr : (partM D e off l).run n h = some (v, n', h', F)) :
    n' = n ∧ h' = h ∧ ∃ U, (part e C off).run D.P w = .ok U w ∧ Rel E v U := by
  unfold partM at hr
  split at hr
  case h_2 => simp [M.fail] at hr
  rename_i j hj
  have T := hD.ti e j hj
  obtain ⟨If, f1, f2, f3, Z, f4, f5⟩ := T.info
  split at hr
  · rename_i hagg
    obtain ⟨hw, hr⟩ := M.want_some hr
    obtain ⟨rfl, rfl, rfl⟩ := M.ret_some hr
    refine ⟨rfl, rfl, .agg (C.extract off (off + j.size)), ?_, .agg ?_⟩
    · simp only [part, Sem.run_bind, run_isAgg T.und, hagg, Result.andThen_ok, if_true, run_sizeOf f1, f2, Sem.run_pure]
    · rw [Array.toList_extract]
      simp only [List.extract_eq_take_drop, Nat.add_sub_cancel_left]
      exact (hl.drop off).take j.size
  · rename_i hagg
    obtain ⟨e3, rfl, rfl⟩ := M.ofOpt_some hr
    obtain ⟨V, g1, g2⟩ := hl.get off v e3
    have hagg' : isAggD j.d = false := by simpa using hagg
    have g1' : C[off]? = some V := by simpa using g1
    refine ⟨rfl, rfl, V, ?_, g2⟩
    simp only [part, Sem.run_bind, run_isAgg T.und, hagg', Result.andThen_ok, Bool.false_eq_true, if_false, g1', Sem.run_pure]

def fieldM (D : Dt) (t : Nat) (x : SV) (f : Nat) : M SV :=
  match D.ti t, x with
  | some i, .agg l => match i.d with
    | .struct fs => match fs[f]? with
      | some fl => partM D fl.type fl.offset l
      | none => .fail
    | _ => .fail
  | _, _ => .fail
theorem fieldM_ok (hD : D.Ok) {t f : Nat} {x : SV} {X : Value} (hx : Rel E x X) (hr : (fieldM D t x f).run n h = some (v, n', h', F)) :
    n' = n ∧ h' = h ∧ ∃ U, (Instr.field t X f).run D.P w = .ok U w ∧ Rel E v U := by
  unfold fieldM at hr
  split at hr
  case h_2 => simp [M.fail] at hr
  rename_i i l hti
  cases hx with
  | agg hl =>
  split at hr
  case h_2 => simp [M.fail] at hr
  rename_i fs hd
  have hu := (hD.ti t i hti).und
  rw [hd] at hu
  split at hr
  case h_2 => simp [M.fail] at hr
  rename_i fl hfl
  obtain ⟨rfl, rfl, U, g1, g2⟩ := partM_ok (w := w) hD hl hr
  refine ⟨rfl, rfl, U, ?_, g2⟩
  simp only [Instr.field, Sem.run_bind, run_underlying hu, Result.andThen_ok, hfl, asAgg, Sem.run_pure, g1]

def indexM (D : Dt) (t : Nat) (x ix : SV) : M SV :=
  match D.ti t, x, ix with
  | some i, .agg l, .int _ k => match i.d with
    | .array len e => match D.ti e with
      | some j => .want (decide (0 ≤ k ∧ k < len)) (partM D e (k.toNat * j.size) l)
      | none => .fail
    | _ => .fail
  | _, _, _ => .fail
theorem indexM_ok (hD : D.Ok) {t : Nat} {x ix : SV} {X IX : Value} (hx : Rel E x X) (hi : Rel E ix IX) (hr : (indexM D t x ix).run n h = some (v, n', h', F)) :
    n' = n ∧ h' = h ∧ ∃ U, (Instr.index t X IX).run D.P w = .ok U w ∧ Rel E v U := by
  unfold indexM at hr
  split at hr
  case h_2 => simp [M.fail] at hr
  rename_i i l kq k hti
  cases hx with
  | agg hl =>
  cases hi with
  | int _ _ =>
  split at hr
  case h_2 => simp [M.fail] at hr
  rename_i len e hd
  have hu := (hD.ti t i hti).und
  rw [hd] at hu
  split at hr
  case h_2 => simp [M.fail] at hr
  rename_i j hj
  obtain ⟨If, f1, f2, f3, Z, f4, f5⟩ := (hD.ti e j hj).info
  obtain ⟨hb, hr⟩ := M.want_some hr
  have hb' : 0 ≤ k ∧ k < (len : Int) := by simpa using hb
  obtain ⟨rfl, rfl, U, g1, g2⟩ := partM_ok (w := w) hD hl hr
  refine ⟨rfl, rfl, U, ?_, g2⟩
  simp only [Instr.index, asIntOf, Sem.run_bind, Sem.run_pure, run_underlying hu, Result.andThen_ok, hb', and_self, if_true, run_sizeOf f1, f2, g1]
end
end Go.Proofs.YtcoagfnkcbfbaaaGreatDoor
