/-
  A runner over the program's code: values whose blocks are numbers of its own, memory as a tree, and what it looked at and wrote. First part: values, memory, steps that bear their own frame.
-/
import Derived.Orders
import Derived.Below
import Derived.Laws.CopyRow
import Derived.Laws.Rows
import Derived.Laws.AppendOwn
import Derived.KernelRfl
namespace Go.Proofs.YtcoagfnkcbfbaaaGreatDoor
open Go.RowKit

/-- a value; blocks bear numbers of the runner's own -/
inductive SV where
  | bool (b : Bool)
  | int (k : IntKind) (n : Int)
  | str (s : ByteArray)
  | np
  | ptr (b o : Nat)
  | ns
  | sl (b o n z : Nat) (c : Option Nat)
  | emp
  | nm
  | map (b : Nat)
  | fn (f : Fn) (first cap : List SV)
  | nf
  | iface (t : Nat) (v : SV)
  | ni
  | agg (l : List SV)
  | tup (l : List SV)

/-- which block a number stands for, and how many cells it has -/
abbrev Env := Nat → Option (Nat × Nat)

mutual
inductive Rel (E : Env) : SV → Value → Prop
  | bool (b : Bool) : Rel E (.bool b) (.bool b)
  | int (k : IntKind) (n : Int) : Rel E (.int k n) (.int k n)
  | str (s : ByteArray) : Rel E (.str s) (.string s)
  | np : Rel E .np (.pointer none)
  | ptr {b o B m : Nat} : E b = some (B, m) → Rel E (.ptr b o) (.pointer (some ⟨B, o, none⟩))
  | ns : Rel E .ns (.slice none 0 0)
  | sl {b o n z : Nat} {c : Option Nat} {B m c' : Nat} : E b = some (B, m) → (∀ k, c = some k → c' = k) → n ≤ c' → (c = none → o + c' * z ≤ m) → Rel E (.sl b o n z c) (.slice (some ⟨B, o, none⟩) n c')
  | emp {a : Addr} {c : Nat} : Rel E .emp (.slice (some a) 0 c)
  | nm : Rel E .nm (.map none)
  | map {b B m : Nat} : E b = some (B, m) → Rel E (.map b) (.map (some B))
  | fn {f : Fn} {l1 l2 : List SV} {v1 v2 : Array Value} : RelL E l1 v1.toList → RelL E l2 v2.toList → Rel E (.fn f l1 l2) (.func f v1 v2)
  | nf : Rel E .nf .nilFunc
  | iface {t : Nat} {v : SV} {V : Value} : Rel E v V → Rel E (.iface t v) (.iface t V)
  | ni : Rel E .ni .nilIface
  | agg {l : List SV} {cs : Array Value} : RelL E l cs.toList → Rel E (.agg l) (.agg cs)
  | tup {l : List SV} {cs : Array Value} : RelL E l cs.toList → Rel E (.tup l) (.tuple cs)
inductive RelL (E : Env) : List SV → List Value → Prop
  | nil : RelL E [] []
  | cons {v : SV} {V : Value} {l : List SV} {L : List Value} : Rel E v V → RelL E l L → RelL E (v :: l) (V :: L)
end

def Env.le (E E' : Env) : Prop := ∀ b x, E b = some x → E' b = some x
theorem Env.le_refl (E : Env) : E.le E := fun _ _ h => h
theorem Env.le_trans {E E' E'' : Env} (h : E.le E') (k : E'.le E'') : E.le E'' := fun b x e => k b x (h b x e)

mutual
theorem Rel.mono {E E' : Env} (h : E.le E') : ∀ {v : SV} {V : Value}, Rel E v V → Rel E' v V
  | _, _, .bool b => .bool b
  | _, _, .int k n => .int k n
  | _, _, .str s => .str s
  | _, _, .np => .np
  | _, _, .ptr e => .ptr (h _ _ e)
  | _, _, .ns => .ns
  | _, _, .sl e c n m => .sl (h _ _ e) c n m
  | _, _, .emp => .emp
  | _, _, .nm => .nm
  | _, _, .map e => .map (h _ _ e)
  | _, _, .fn a b => .fn (RelL.mono h a) (RelL.mono h b)
  | _, _, .nf => .nf
  | _, _, .iface a => .iface (Rel.mono h a)
  | _, _, .ni => .ni
  | _, _, .agg a => .agg (RelL.mono h a)
  | _, _, .tup a => .tup (RelL.mono h a)
theorem RelL.mono {E E' : Env} (h : E.le E') : ∀ {l : List SV} {L : List Value}, RelL E l L → RelL E' l L
  | _, _, .nil => .nil
  | _, _, .cons a b => .cons (Rel.mono h a) (RelL.mono h b)
end

theorem RelL.length {E : Env} : ∀ {l : List SV} {L : List Value}, RelL E l L → l.length = L.length
  | _, _, .nil => rfl
  | _, _, .cons _ b => by simp [RelL.length b]
theorem RelL.get {E : Env} : ∀ {l : List SV} {L : List Value}, RelL E l L → ∀ (i : Nat) (v : SV), l[i]? = some v → ∃ V, L[i]? = some V ∧ Rel E v V
  | _, _, .nil, i, v, h => by simp at h
  | _, _, .cons a b, 0, v, h => by simp at h; subst h; exact ⟨_, rfl, a⟩
  | _, _, .cons a b, i + 1, v, h => by simpa using RelL.get b i v (by simpa using h)
theorem RelL.set {E : Env} : ∀ {l : List SV} {L : List Value}, RelL E l L → ∀ (i : Nat) {v : SV} {V : Value}, Rel E v V → RelL E (l.set i v) (L.set i V)
  | _, _, .nil, i, v, V, _ => by simp; exact .nil
  | _, _, .cons a b, 0, v, V, h => by simp; exact .cons h b
  | _, _, .cons a b, i + 1, v, V, h => by simp; exact .cons a (RelL.set b i h)
theorem RelL.append {E : Env} : ∀ {l : List SV} {L : List Value} {l' : List SV} {L' : List Value}, RelL E l L → RelL E l' L' → RelL E (l ++ l') (L ++ L')
  | _, _, _, _, .nil, h => h
  | _, _, _, _, .cons a b, h => .cons a (RelL.append b h)
theorem RelL.take {E : Env} : ∀ {l : List SV} {L : List Value}, RelL E l L → ∀ k, RelL E (l.take k) (L.take k)
  | _, _, .nil, k => by simp; exact .nil
  | _, _, .cons a b, 0 => by simp; exact .nil
  | _, _, .cons a b, k + 1 => by simp; exact .cons a (RelL.take b k)
theorem RelL.drop {E : Env} : ∀ {l : List SV} {L : List Value}, RelL E l L → ∀ k, RelL E (l.drop k) (L.drop k)
  | _, _, .nil, k => by simp; exact .nil
  | _, _, .cons a b, 0 => by simp; exact .cons a b
  | _, _, .cons a b, k + 1 => by simp; exact RelL.drop b k
theorem RelL.replicate {E : Env} {v : SV} {V : Value} (h : Rel E v V) : ∀ n, RelL E (List.replicate n v) (List.replicate n V)
  | 0 => .nil
  | n + 1 => .cons h (RelL.replicate h n)

/-- what the runner knows of a block: the first cells, of what type they are, are these all; a map's entries in their order; an iterator over no map -/
inductive Bk where
  | cells (l : List SV) (t : Nat) (x : Bool)
  | map (es : List (SV × SV))
  | iter0

/-- the memory: a tree, by the numbers' halves -/
inductive Tr where
  | lf
  | nd (l : Tr) (v : Option Bk) (r : Tr)
def Tr.get : Tr → Nat → Option Bk
  | .lf, _ => none
  | .nd l v r, n => if n = 0 then v else if n % 2 = 1 then l.get (n / 2) else r.get (n / 2 - 1)
def Tr.left : Tr → Tr
  | .lf => .lf
  | .nd l _ _ => l
def Tr.right : Tr → Tr
  | .lf => .lf
  | .nd _ _ r => r
def Tr.here : Tr → Option Bk
  | .lf => none
  | .nd _ v _ => v
def Tr.set : Nat → Tr → Nat → Option Bk → Tr
  | 0, t, _, _ => t
  | f + 1, t, n, v =>
    if n = 0 then .nd t.left v t.right else if n % 2 = 1 then .nd (Tr.set f t.left (n / 2) v) t.here t.right else .nd t.left t.here (Tr.set f t.right (n / 2 - 1) v)
theorem Tr.get_parts (t : Tr) (m : Nat) : t.get m = if m = 0 then t.here else if m % 2 = 1 then t.left.get (m / 2) else t.right.get (m / 2 - 1) := by
  cases t with
  | lf => simp [Tr.get, Tr.here, Tr.left, Tr.right]
  | nd l v r => simp [Tr.get, Tr.here, Tr.left, Tr.right]
theorem Tr.get_set : ∀ (f : Nat) (t : Tr) (n : Nat) (v : Option Bk) (m : Nat), n + 1 < 2 ^ f → (Tr.set f t n v).get m = if m = n then v else t.get m
  | 0, t, n, v, m, h => by omega
  | f + 1, t, n, v, m, h => by
    rw [Tr.get_parts t m, Tr.set]
    have h2 : 2 ^ (f + 1) = 2 * 2 ^ f := by rw [Nat.pow_succ]; omega
    by_cases hn : n = 0
    · subst hn
      by_cases hm : m = 0
      · subst hm; simp [Tr.get]
      · simp [Tr.get, hm]
    · by_cases ho : n % 2 = 1
      · have ih := fun m' => Tr.get_set f t.left (n / 2) v m' (by omega)
        rw [if_neg hn, if_pos ho]
        simp only [Tr.get]
        by_cases hm : m = 0
        · have : ¬ 0 = n := by omega
          simp [hm, this]
        · by_cases hmo : m % 2 = 1
          · simp only [hm, hmo, if_false, if_true, ih]
            by_cases e : m = n
            · subst e; simp
            · have : ¬ m / 2 = n / 2 := by omega
              simp [e, this]
          · have : ¬ m = n := by omega
            simp [hm, hmo, this]
      · have ih := fun m' => Tr.get_set f t.right (n / 2 - 1) v m' (by omega)
        rw [if_neg hn, if_neg ho]
        simp only [Tr.get]
        by_cases hm : m = 0
        · have : ¬ 0 = n := by omega
          simp [hm, this]
        · by_cases hmo : m % 2 = 1
          · have : ¬ m = n := by omega
            simp [hm, hmo, this]
          · simp only [hm, hmo, if_false, ih]
            by_cases e : m = n
            · subst e; simp
            · have : ¬ m / 2 - 1 = n / 2 - 1 := by omega
              simp [e, this]

/-- the same, the way to the place taken as it is built -/
def Tr.setK {β : Type} : Nat → Tr → Nat → Option Bk → (Tr → β) → β
  | 0, t, _, _, k => k t
  | f + 1, .lf, n, v, k => if n = 0 then k (.nd .lf v .lf) else if n % 2 = 1 then Tr.setK f .lf (n / 2) v (fun l => k (.nd l none .lf)) else Tr.setK f .lf (n / 2 - 1) v (fun r => k (.nd .lf none r))
  | f + 1, .nd l x r, n, v, k => if n = 0 then k (.nd l v r) else if n % 2 = 1 then Tr.setK f l (n / 2) v (fun l => k (.nd l x r)) else Tr.setK f r (n / 2 - 1) v (fun r => k (.nd l x r))
theorem Tr.setK_eq {β : Type} : ∀ (f : Nat) (t : Tr) (n : Nat) (v : Option Bk) (k : Tr → β), Tr.setK f t n v k = k (Tr.set f t n v)
  | 0, t, n, v, k => rfl
  | f + 1, .lf, n, v, k => by
    unfold Tr.setK Tr.set
    split
    · rfl
    · split
      · exact Tr.setK_eq f .lf (n / 2) v _
      · exact Tr.setK_eq f .lf (n / 2 - 1) v _
  | f + 1, .nd l x r, n, v, k => by
    unfold Tr.setK Tr.set
    split
    · rfl
    · split
      · exact Tr.setK_eq f l (n / 2) v _
      · exact Tr.setK_eq f r (n / 2 - 1) v _

/-- what was looked at, what was written -/
inductive Ft where
  | z
  | r (b : Nat)
  | w (b : Nat)
  | n2 (x y : Ft)
def Ft.rd : Ft → Nat → Bool
  | .z, _ => false
  | .r b, x => b == x
  | .w _, _ => false
  | .n2 p q, x => p.rd x || q.rd x
def Ft.wr : Ft → Nat → Bool
  | .z, _ => false
  | .r _, _ => false
  | .w b, x => b == x
  | .n2 p q, x => p.wr x || q.wr x

/-- the greatest number of blocks -/
def top : Nat := 1099511627775
theorem top_ok {n : Nat} (h : n < top) : n + 1 < 2 ^ 40 := by
  simp only [top] at h
  have : (2 : Nat) ^ 40 = 1099511627776 := by decide
  omega

abbrev Step (α : Type) := Nat → Tr → Option (α × Nat × Tr × Ft)
/-- a step hangs on what it looks at alone, and turns what it writes alone -/
def Framed {α : Type} (f : Step α) : Prop :=
  ∀ n h a n' h' F, f n h = some (a, n', h', F) →
    n ≤ n' ∧ (∀ b, F.rd b = true ∨ F.wr b = true → b < n') ∧ (∀ b, F.wr b = false → ¬ (n ≤ b ∧ b < n') → h'.get b = h.get b) ∧
    ∀ g : Tr, (∀ b, F.rd b = true ∨ F.wr b = true → ¬ (n ≤ b ∧ b < n') → g.get b = h.get b) →
      ∃ g', f n g = some (a, n', g', F) ∧ (∀ b, F.wr b = true ∨ (n ≤ b ∧ b < n') → g'.get b = h'.get b) ∧ (∀ b, F.wr b = false → ¬ (n ≤ b ∧ b < n') → g'.get b = g.get b)

structure M (α : Type) where
  run : Step α
  ok : Framed run

namespace M
variable {α β : Type}
def fail : M α := ⟨fun _ _ => none, fun _ _ _ _ _ _ h => by cases h⟩
def ret (a : α) : M α := ⟨fun n h => some (a, n, h, .z), by
  intro n h a' n' h' F e
  simp only [Option.some.injEq, Prod.mk.injEq] at e
  obtain ⟨rfl, rfl, rfl, rfl⟩ := e
  refine ⟨Nat.le_refl _, by simp [Ft.rd, Ft.wr], fun _ _ _ => rfl, fun g _ => ⟨g, rfl, ?_, fun _ _ _ => rfl⟩⟩
  intro b hb
  simp only [Ft.wr, Bool.false_eq_true, false_or] at hb
  omega⟩
def get (b : Nat) : M Bk := ⟨fun n h => if b < n then (match h.get b with | some x => some (x, n, h, .r b) | none => none) else none, by
  intro n h a' n' h' F e
  dsimp only at e ⊢
  by_cases hb : b < n
  · rw [if_pos hb] at e
    cases hx : h.get b with
    | none => rw [hx] at e; cases e
    | some x =>
      rw [hx] at e
      simp only [Option.some.injEq, Prod.mk.injEq] at e
      obtain ⟨rfl, rfl, rfl, rfl⟩ := e
      refine ⟨Nat.le_refl _, by intro c hc; simp [Ft.rd, Ft.wr] at hc; omega, fun _ _ _ => rfl, fun g hg => ⟨g, ?_, ?_, fun _ _ _ => rfl⟩⟩
      · have := hg b (.inl (by simp [Ft.rd])) (by omega)
        rw [if_pos hb, this, hx]
      · intro c hc
        simp only [Ft.wr, Bool.false_eq_true, false_or] at hc
        omega
  · rw [if_neg hb] at e; cases e⟩
def put (b : Nat) (x : Option Bk) : M Unit := ⟨fun n h => if b < n ∧ b < top ∧ (h.get b).isSome = true then Tr.setK 40 h b x (fun t => some ((), n, t, .w b)) else none, by
  simp only [Tr.setK_eq]
  intro n h a' n' h' F e
  dsimp only at e ⊢
  by_cases hb : b < n ∧ b < top ∧ (h.get b).isSome = true
  · rw [if_pos hb] at e
    simp only [Option.some.injEq, Prod.mk.injEq] at e
    obtain ⟨-, rfl, rfl, rfl⟩ := e
    have hs := fun (t : Tr) m => Tr.get_set 40 t b x m (top_ok hb.2.1)
    refine ⟨Nat.le_refl _, by intro c hc; simp [Ft.rd, Ft.wr] at hc; omega, ?_, fun g hg => ⟨Tr.set 40 g b x, ?_, ?_, ?_⟩⟩
    · intro c hc _
      rw [hs, if_neg (by intro e; subst e; simp [Ft.wr] at hc)]
    · have := hg b (.inr (by simp [Ft.wr])) (by omega)
      rw [if_pos ⟨hb.1, hb.2.1, by rw [this]; exact hb.2.2⟩]
    · intro c hc
      have : c = b := by rcases hc with hc | hc; · simp only [Ft.wr, beq_iff_eq] at hc; exact hc.symm
                         · omega
      rw [hs, hs, if_pos this, if_pos this]
    · intro c hc _
      rw [hs, if_neg (by intro e; subst e; simp [Ft.wr] at hc)]
  · rw [if_neg hb] at e; cases e⟩
def new (x : Bk) : M Nat := ⟨fun n h => if n < top then Tr.setK 40 h n (some x) (fun t => some (n, n + 1, t, .z)) else none, by
  simp only [Tr.setK_eq]
  intro n h a' n' h' F e
  dsimp only at e ⊢
  by_cases hb : n < top
  · rw [if_pos hb] at e
    simp only [Option.some.injEq, Prod.mk.injEq] at e
    obtain ⟨rfl, rfl, rfl, rfl⟩ := e
    have hs := fun (t : Tr) m => Tr.get_set 40 t n (some x) m (top_ok hb)
    refine ⟨Nat.le_succ _, by intro c hc; simp [Ft.rd, Ft.wr] at hc, ?_, fun g hg => ⟨Tr.set 40 g n (some x), by rw [if_pos hb], ?_, ?_⟩⟩
    · intro c _ hc
      rw [hs, if_neg (by omega)]
    · intro c hc
      have : c = n := by rcases hc with hc | hc; · simp [Ft.wr] at hc
                         · omega
      rw [hs, hs, if_pos this, if_pos this]
    · intro c _ hc
      rw [hs, if_neg (by omega)]
  · rw [if_neg hb] at e; cases e⟩
def bindRun (m : Step α) (f : α → Step β) : Step β := fun n h =>
  match m n h with
  | none => none
  | some (a, n1, h1, F1) =>
    match f a n1 h1 with
    | none => none
    | some (c, n2, h2, F2) => some (c, n2, h2, .n2 F1 F2)
theorem bindRun_some {m : Step α} {f : α → Step β} {n : Nat} {h : Tr} {c : β} {n2 : Nat} {h2 : Tr} {F : Ft} (e : bindRun m f n h = some (c, n2, h2, F)) :
    ∃ a n1 h1 F1 F2, m n h = some (a, n1, h1, F1) ∧ f a n1 h1 = some (c, n2, h2, F2) ∧ F = .n2 F1 F2 := by
  unfold bindRun at e
  split at e
  · cases e
  · rename_i a n1 h1 F1 em
    split at e
    · cases e
    · rename_i c' n2' h2' F2 ef
      simp only [Option.some.injEq, Prod.mk.injEq] at e
      obtain ⟨rfl, rfl, rfl, rfl⟩ := e
      exact ⟨a, n1, h1, F1, F2, em, ef, rfl⟩
theorem bindRun_of {m : Step α} {f : α → Step β} {n : Nat} {h : Tr} {a : α} {n1 : Nat} {h1 : Tr} {F1 : Ft} {c : β} {n2 : Nat} {h2 : Tr} {F2 : Ft}
    (em : m n h = some (a, n1, h1, F1)) (ef : f a n1 h1 = some (c, n2, h2, F2)) : bindRun m f n h = some (c, n2, h2, .n2 F1 F2) := by
  unfold bindRun
  simp only [em, ef]
theorem framed_bind {m : Step α} {f : α → Step β} (hm : Framed m) (hf : ∀ a, Framed (f a)) : Framed (bindRun m f) := by
  intro n h c n2 h2 F e
  obtain ⟨a, n1, h1, F1, F2, em, ef, rfl⟩ := bindRun_some e
  obtain ⟨l1, b1, k1, g1⟩ := hm _ _ _ _ _ _ em
  obtain ⟨l2, b2, k2, g2⟩ := hf a _ _ _ _ _ _ ef
  refine ⟨by omega, ?_, ?_, ?_⟩
  · intro b hb
    simp only [Ft.rd, Ft.wr, Bool.or_eq_true] at hb
    have q1 := b1 b
    have q2 := b2 b
    rcases hb with (hb | hb) | (hb | hb)
    · have := q1 (.inl hb); omega
    · exact q2 (.inl hb)
    · have := q1 (.inr hb); omega
    · exact q2 (.inr hb)
  · intro b hb hr
    simp only [Ft.wr, Bool.or_eq_false_iff] at hb
    rw [k2 b hb.2 (by omega), k1 b hb.1 (by omega)]
  · intro g hg
    have hg1 : ∀ b, F1.rd b = true ∨ F1.wr b = true → (Ft.n2 F1 F2).rd b = true ∨ (Ft.n2 F1 F2).wr b = true := by
      intro b hb
      simp only [Ft.rd, Ft.wr, Bool.or_eq_true]
      rcases hb with hb | hb
      · exact .inl (.inl hb)
      · exact .inr (.inl hb)
    obtain ⟨g', r1, s1, t1⟩ := g1 g (fun b hb hr => hg b (hg1 b hb) (by have := b1 b hb; omega))
    obtain ⟨g'', r2, s2, t2⟩ := g2 g' (fun b hb hr => by
      by_cases hw : F1.wr b = true ∨ (n ≤ b ∧ b < n1)
      · exact s1 b hw
      · have hw' : F1.wr b = false := by cases hq : F1.wr b; · rfl
                                         · exact absurd (.inl hq) hw
        have hr1 : ¬ (n ≤ b ∧ b < n1) := fun q => hw (.inr q)
        rw [t1 b hw' hr1, k1 b hw' hr1]
        refine hg b ?_ (by omega)
        simp only [Ft.rd, Ft.wr, Bool.or_eq_true]
        rcases hb with hb | hb
        · exact .inl (.inr hb)
        · exact .inr (.inr hb))
    refine ⟨g'', bindRun_of r1 r2, ?_, ?_⟩
    · intro b hb
      by_cases h2' : F2.wr b = true ∨ (n1 ≤ b ∧ b < n2)
      · exact s2 b h2'
      · have hw' : F2.wr b = false := by cases hq : F2.wr b; · rfl
                                         · exact absurd (.inl hq) h2'
        have hr1 : ¬ (n1 ≤ b ∧ b < n2) := fun q => h2' (.inr q)
        rw [t2 b hw' hr1, k2 b hw' hr1]
        refine s1 b ?_
        simp only [Ft.wr, Bool.or_eq_true, hw', Bool.false_eq_true, or_false] at hb
        rcases hb with hb | hb
        · exact .inl hb
        · exact .inr (by omega)
    · intro b hb hr
      simp only [Ft.wr, Bool.or_eq_false_iff] at hb
      rw [t2 b hb.2 (by omega), t1 b hb.1 (by omega)]
def bind (m : M α) (f : α → M β) : M β := ⟨bindRun m.run fun a => (f a).run, framed_bind m.ok fun a => (f a).ok⟩
def ofOpt : Option α → M α
  | some a => ret a
  | none => fail
def want (b : Bool) (m : M α) : M α := if b then m else fail
end M

theorem M.bind_some {α β : Type} {m : M α} {f : α → M β} {n : Nat} {h : Tr} {c : β} {n2 : Nat} {h2 : Tr} {F : Ft} (e : (m.bind f).run n h = some (c, n2, h2, F)) :
    ∃ a n1 h1 F1 F2, m.run n h = some (a, n1, h1, F1) ∧ (f a).run n1 h1 = some (c, n2, h2, F2) ∧ F = .n2 F1 F2 := M.bindRun_some e
theorem M.ret_some {α : Type} {a c : α} {n n2 : Nat} {h h2 : Tr} {F : Ft} (e : (M.ret a).run n h = some (c, n2, h2, F)) : c = a ∧ n2 = n ∧ h2 = h := by
  simp only [M.ret, Option.some.injEq, Prod.mk.injEq] at e
  exact ⟨e.1.symm, e.2.1.symm, e.2.2.1.symm⟩
theorem M.get_some {b : Nat} {c : Bk} {n n2 : Nat} {h h2 : Tr} {F : Ft} (e : (M.get b).run n h = some (c, n2, h2, F)) : b < n ∧ h.get b = some c ∧ n2 = n ∧ h2 = h := by
  simp only [M.get] at e
  split at e
  · rename_i hb
    split at e
    · rename_i x hx
      simp only [Option.some.injEq, Prod.mk.injEq] at e
      obtain ⟨rfl, rfl, rfl, -⟩ := e
      exact ⟨hb, hx, rfl, rfl⟩
    · cases e
  · cases e
theorem M.put_some {b : Nat} {x : Option Bk} {c : Unit} {n n2 : Nat} {h h2 : Tr} {F : Ft} (e : (M.put b x).run n h = some (c, n2, h2, F)) :
    b < n ∧ (h.get b).isSome = true ∧ n2 = n ∧ ∀ m, h2.get m = if m = b then x else h.get m := by
  simp only [M.put, Tr.setK_eq] at e
  split at e
  · rename_i hb
    simp only [Option.some.injEq, Prod.mk.injEq] at e
    obtain ⟨-, rfl, rfl, -⟩ := e
    exact ⟨hb.1, hb.2.2, rfl, fun m => Tr.get_set 40 h b x m (top_ok hb.2.1)⟩
  · cases e
theorem M.new_some {x : Bk} {c : Nat} {n n2 : Nat} {h h2 : Tr} {F : Ft} (e : (M.new x).run n h = some (c, n2, h2, F)) :
    c = n ∧ n2 = n + 1 ∧ ∀ m, h2.get m = if m = n then some x else h.get m := by
  simp only [M.new, Tr.setK_eq] at e
  split at e
  · rename_i hb
    simp only [Option.some.injEq, Prod.mk.injEq] at e
    obtain ⟨rfl, rfl, rfl, -⟩ := e
    exact ⟨rfl, rfl, fun m => Tr.get_set 40 h n (some x) m (top_ok hb)⟩
  · cases e
theorem M.ofOpt_some {α : Type} {a : Option α} {c : α} {n n2 : Nat} {h h2 : Tr} {F : Ft} (e : (M.ofOpt a).run n h = some (c, n2, h2, F)) : a = some c ∧ n2 = n ∧ h2 = h := by
  cases a with
  | none => simp [M.ofOpt, M.fail] at e
  | some x => obtain ⟨rfl, h1, h2⟩ := M.ret_some e; exact ⟨rfl, h1, h2⟩
theorem M.want_some {α : Type} {b : Bool} {m : M α} {c : α} {n n2 : Nat} {h h2 : Tr} {F : Ft} (e : (M.want b m).run n h = some (c, n2, h2, F)) : b = true ∧ m.run n h = some (c, n2, h2, F) := by
  cases b with
  | false => simp [M.want, M.fail] at e
  | true => exact ⟨rfl, e⟩

/-- entries of a map -/
inductive RelE (E : Env) : List (SV × SV) → List MapEntry → Prop
  | nil : RelE E [] []
  | cons {k v : SV} {e : MapEntry} {l : List (SV × SV)} {L : List MapEntry} : Rel E k e.key → Rel E v e.val → RelE E l L → RelE E ((k, v) :: l) (e :: L)
theorem RelE.mono {E E' : Env} (h : E.le E') : ∀ {l : List (SV × SV)} {L : List MapEntry}, RelE E l L → RelE E' l L
  | _, _, .nil => .nil
  | _, _, .cons a b c => .cons (a.mono h) (b.mono h) (RelE.mono h c)

/-- what lies at a block, of m cells, is what the runner knows of it -/
inductive BRel (E : Env) (m : Nat) : Bk → Option Obj → Prop
  | cells {l : List SV} {t : Nat} {x : Bool} {cs : Array Value} : cs.size = m → l.length ≤ m → (x = true → l.length = m) → RelL E l (cs.toList.take l.length) → BRel E m (.cells l t x) (some (.cells cs t (0, 0)))
  | map {es : List (SV × SV)} {L : Array MapEntry} {clock : Nat} : RelE E es L.toList → (L.toList.map (·.born)).Nodup → (∀ e ∈ L.toList, e.born < clock) → BRel E m (.map es) (some (.map L clock))
  | iter0 {since stepped : Nat} {seen : Array Nat} : BRel E m .iter0 (some (.mapIter none since seen stepped))
theorem BRel.mono {E E' : Env} (h : E.le E') {m : Nat} {s : Bk} {o : Option Obj} (r : BRel E m s o) : BRel E' m s o := by
  cases r with
  | cells a b c d => exact .cells a b c (d.mono h)
  | map a b c => exact .map (a.mono h) b c
  | iter0 => exact .iter0

/-- the world stands as the runner's memory tells; all of it lies from 'base' on; what was there when the call began stands as it did -/
structure Inv (base : Nat) (w0 : World) (E : Env) (h : Tr) (w : World) : Prop where
  blk : ∀ b s, h.get b = some s → ∃ B m, E b = some (B, m) ∧ BRel E m s w.heap[B]?
  inj : ∀ b c s t B m k, h.get b = some s → h.get c = some t → E b = some (B, m) → E c = some (B, k) → b = c
  lo : ∀ b B m, E b = some (B, m) → base ≤ B ∧ B < w.heap.size
  bel : Below base w0 w
  big : base ≤ w.heap.size

/-- how the names grow while a step runs from n to n' -/
def Grew (E E' : Env) (n n' : Nat) : Prop := E.le E' ∧ ∀ b, E b = none → E' b ≠ none → n ≤ b ∧ b < n'
theorem Grew.refl (E : Env) (n : Nat) : Grew E E n n := ⟨E.le_refl, fun _ h k => absurd h k⟩
theorem Grew.trans {E E' E'' : Env} {n n' n'' : Nat} (a : Grew E E' n n') (b : Grew E' E'' n' n'') (h : n ≤ n') (h' : n' ≤ n'') : Grew E E'' n n'' :=
  ⟨Env.le_trans a.1 b.1, fun x hx hy => by
    by_cases hq : E' x = none
    · have := b.2 x hq hy; omega
    · have := a.2 x hx hq; omega⟩
/-- the numbers from n to n' are nobody's yet -/
def Free (E : Env) (n n' : Nat) : Prop := ∀ b, n ≤ b → b < n' → E b = none
theorem Free.next {E E' : Env} {n n' n'' : Nat} (h : Free E n n'') (g : Grew E E' n n') (hn : n ≤ n') : Free E' n' n'' := fun b h1 h2 => by
  cases hq : E' b with
  | none => rfl
  | some x => have := g.2 b (h b (by omega) h2) (by simp [hq]); omega
theorem Free.less {E : Env} {n n' n'' : Nat} (h : Free E n n'') (hn : n' ≤ n'') : Free E n n' := fun b h1 h2 => h b h1 (by omega)

section
variable {base : Nat} {w0 : World} {E : Env} {h h' : Tr} {w w' : World}
theorem Inv.drew (I : Inv base w0 E h w) : Inv base w0 E h w.drew := ⟨I.blk, I.inj, I.lo, I.bel.drew, I.big⟩
theorem Inv.same (I : Inv base w0 E h w) (e : ∀ m, h'.get m = h.get m) : Inv base w0 E h' w :=
  ⟨fun b s hb => I.blk b s (by rw [← e]; exact hb), fun b c s t B m k hb hc => I.inj b c s t B m k (by rw [← e]; exact hb) (by rw [← e]; exact hc), I.lo, I.bel, I.big⟩
theorem Inv.del (I : Inv base w0 E h w) {b : Nat} (e : ∀ m, h'.get m = if m = b then none else h.get m) : Inv base w0 E h' w := by
  have q : ∀ c s, h'.get c = some s → h.get c = some s := fun c s hc => by
    rw [e] at hc
    split at hc
    · cases hc
    · exact hc
  exact ⟨fun c s hc => I.blk c s (q c s hc), fun b c s t B m k hb hc => I.inj b c s t B m k (q _ _ hb) (q _ _ hc), I.lo, I.bel, I.big⟩
/-- a block is written -/
theorem Inv.put (I : Inv base w0 E h w) {b B m : Nat} {s : Bk} (hb : (h.get b).isSome = true) (hE : E b = some (B, m)) (e : ∀ c, h'.get c = if c = b then some s else h.get c)
    (hw : BRel E m s w'.heap[B]?) (ho : ∀ k, k ≠ B → w'.heap[k]? = w.heap[k]?) (hs : w'.heap.size = w.heap.size) (hos : w'.os = w.os) (ht : w'.tape = w.tape) (hout : w'.output = w.output) :
    Inv base w0 E h' w' := by
  obtain ⟨s0, hs0⟩ := Option.isSome_iff_exists.1 hb
  have q : ∀ c t, h'.get c = some t → ∃ t0, h.get c = some t0 := fun c t hc => by
    rw [e] at hc
    split at hc
    · rename_i hcb; subst hcb; exact ⟨s0, hs0⟩
    · exact ⟨t, hc⟩
  refine ⟨fun c t hc => ?_, fun b c s t B m k hb hc => ?_, fun c B' m' hc => ?_, ?_, by rw [hs]; exact I.big⟩
  · rw [e] at hc
    split at hc
    · rename_i hcb
      subst hcb
      cases hc
      exact ⟨B, m, hE, hw⟩
    · rename_i hcb
      obtain ⟨B', m', h1, h2⟩ := I.blk c t hc
      refine ⟨B', m', h1, ?_⟩
      rw [ho B' (fun e' => hcb (by subst e'; exact I.inj c b t s0 B' m' m hc hs0 h1 hE))]
      exact h2
  · obtain ⟨s', h1⟩ := q _ _ hb
    obtain ⟨t', h2⟩ := q _ _ hc
    exact I.inj b c s' t' B m k h1 h2
  · rw [hs]; exact I.lo c B' m' hc
  · refine I.bel.trans ⟨hos, ht, hout, by omega, fun k hk => ho k ?_⟩
    have := (I.lo b B m hE).1
    omega
/-- a block is made -/
theorem Inv.new (I : Inv base w0 E h w) {n m : Nat} {s : Bk} {o : Obj} (hE : E n = none) (e : ∀ c, h'.get c = if c = n then some s else h.get c)
    (hw : BRel (fun b => if b = n then some (w.heap.size, m) else E b) m s (some o)) :
    Inv base w0 (fun b => if b = n then some (w.heap.size, m) else E b) h' (w.alloc o) ∧ Grew E (fun b => if b = n then some (w.heap.size, m) else E b) n (n + 1) := by
  have hle : E.le (fun b => if b = n then some (w.heap.size, m) else E b) := fun b x hb => by
    by_cases hbn : b = n
    · subst hbn; rw [hE] at hb; cases hb
    · simp [hbn, hb]
  refine ⟨⟨fun c t hc => ?_, fun b c s t B m' k hb hc hB hC => ?_, fun c B m' hc => ?_, I.bel.alloc I.big _, by have := I.big; simp; omega⟩, hle, fun b hb hb' => ?_⟩
  · rw [e] at hc
    split at hc
    · rename_i hcn
      subst hcn
      cases hc
      exact ⟨w.heap.size, m, by simp, by rw [heap_alloc_new]; exact hw⟩
    · rename_i hcn
      obtain ⟨B, m', h1, h2⟩ := I.blk c t hc
      refine ⟨B, m', by simp [hcn, h1], ?_⟩
      rw [heap_alloc_old _ _ _ (I.lo c B m' h1).2]
      exact h2.mono hle
  · rw [e] at hb hc
    by_cases hbn : b = n <;> by_cases hcn : c = n
    · rw [hbn, hcn]
    · simp only [hbn, if_true, Option.some.injEq, Prod.mk.injEq] at hB
      simp only [hcn, if_false] at hC
      have := (I.lo c B k hC).2
      omega
    · simp only [hbn, if_false] at hB
      simp only [hcn, if_true, Option.some.injEq, Prod.mk.injEq] at hC
      have := (I.lo b B m' hB).2
      omega
    · simp only [hbn, if_false] at hb hB
      simp only [hcn, if_false] at hc hC
      exact I.inj b c s t B m' k hb hc hB hC
  · by_cases hcn : c = n
    · simp only [hcn, if_true, Option.some.injEq, Prod.mk.injEq] at hc
      have := I.big
      simp
      omega
    · simp only [hcn, if_false] at hc
      have := I.lo c B m' hc
      simp
      omega
  · by_cases hbn : b = n
    · omega
    · simp [hbn, hb] at hb'
end
end Go.Proofs.YtcoagfnkcbfbaaaGreatDoor
