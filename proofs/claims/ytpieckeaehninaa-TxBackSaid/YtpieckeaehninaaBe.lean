/-
  A number's bytes, the highest first, put behind a slice: the program's 'be'; and the document's 'Number' and 'Of'.
-/
import Derived.Test.YtpieckeaehninaaBase
namespace Go.Proofs.Ytpieckeaehninaa
open Go.RowKit

def u8s (l : List Int) : List Value := l.map (Value.int .u8)

/-- byte i of n (0: the lowest) -/
def byteAt (n : Int) (i : Nat) : Int := n / 2 ^ (8 * i) % 256
/-- the many lowest bytes of n from byte i downwards -/
def bes (n : Int) : Nat → List Int
  | 0 => []
  | k + 1 => byteAt n k :: bes n k

theorem bes_length (n : Int) (k : Nat) : (bes n k).length = k := by induction k <;> simp_all [bes]
theorem u8s_length (l : List Int) : (u8s l).length = l.length := by simp [u8s]
theorem u8s_append (l m : List Int) : u8s (l ++ m) = u8s l ++ u8s m := by simp [u8s]
theorem u8s_one (l : List Int) : ∀ u ∈ u8s l, u.oneCell' = true := by
  intro u hu
  obtain ⟨x, _, rfl⟩ := List.mem_map.1 hu
  rfl

/-- what holds at a round's head: d bytes are still to come -/
def BeRel (w wr : World) (base : Nat) (v u : Value) (xs : List Value) (n : Int) (many d : Nat) : Prop :=
  wr.ownsRow base 5 1 u (xs.length + (many - d)) (xs ++ (u8s (bes n many)).take (many - d)) ∧ w.grownBy wr v.ownBlock ∧ (u.ownBlock = v.ownBlock ∨ ∃ g, u.ownBlock = some g ∧ w.heap.size ≤ g)

theorem bes_take (n : Int) : ∀ (d c : Nat), (bes n (c + (d + 1))).take (c + 1) = (bes n (c + (d + 1))).take c ++ [byteAt n d]
  | d, 0 => by simp [bes]
  | d, c + 1 => by
    have h : c + 1 + (d + 1) = (c + (d + 1)) + 1 := by omega
    rw [h, bes, List.take_succ_cons, List.take_succ_cons, bes_take n d c, List.cons_append]

theorem be_step {w wr w1 : World} {base : Nat} {v u v' : Value} {xs : List Value} {n : Int} {many d : Nat} (hd : d + 1 ≤ many) (h : BeRel w wr base v u xs n many (d + 1))
    (hown : w1.ownsRow base 5 1 v' (xs.length + (many - (d + 1)) + 1) (xs ++ (u8s (bes n many)).take (many - (d + 1)) ++ [.int .u8 (byteAt n d)]))
    (hg : wr.grownBy w1 u.ownBlock) (hat : v'.ownBlock = u.ownBlock ∨ ∃ g, v'.ownBlock = some g ∧ wr.heap.size ≤ g) : BeRel w w1 base v v' xs n many d := by
  obtain ⟨_, h2, h3⟩ := h
  obtain ⟨c, rfl⟩ : ∃ c, many = c + (d + 1) := ⟨many - (d + 1), by omega⟩
  refine ⟨?_, ?_, ?_⟩
  · have ht := congrArg (List.map (Value.int .u8)) (bes_take n d c)
    rw [List.map_append, List.map_take, List.map_take] at ht
    have e1 : c + (d + 1) - d = c + 1 := by omega
    have e2 : c + (d + 1) - (d + 1) = c := by omega
    rw [e2] at hown
    rw [e1]
    show w1.ownsRow base 5 1 v' (xs.length + c + 1) (xs ++ List.take (c + 1) (List.map (Value.int .u8) (bes n (c + (d + 1)))))
    rw [ht, ← List.append_assoc]
    exact hown
  · refine ⟨hg.os.trans h2.os, hg.tape.trans h2.tape, hg.output.trans h2.output, Nat.le_trans h2.size hg.size, fun k hk hne => ?_⟩
    refine (hg.block k (Nat.lt_of_lt_of_le hk h2.size) ?_).trans (h2.block k hk hne)
    rcases h3 with h3 | ⟨g, h3, hle⟩
    · rw [h3]; exact hne
    · rw [h3]; intro e; injection e with e; omega
  · rcases hat with e | ⟨g, e, hle⟩
    · rw [e]; exact h3
    · exact .inr ⟨g, e, Nat.le_trans h2.size hle⟩

set_option maxHeartbeats 800000 in
theorem be_any (base : Nat) (v : Value) (xs : List Value) (n : Int) (many : Nat) (w : World) (_hn0 : 0 ≤ n) (hmany : many ≤ 8)
    (hown : w.ownsRow base 5 1 v xs.length xs) (hbase : base ≤ w.heap.size) (hlen : xs.length ≤ 1000000) :
    Calls Try.prog 17 #[v, .int .u64 n, .int .i64 many] w fun e w' => ∃ v', e = .returned v' ∧ w'.ownsRow base 5 1 v' (xs.length + many) (xs ++ u8s (bes n many)) ∧ w.grownBy w' v.ownBlock ∧
      (v'.ownBlock = v.ownBlock ∨ ∃ g, v'.ownBlock = some g ∧ w.heap.size ≤ g) := by
  obtain ⟨i0, hi, hz0, hz1, hz2⟩ := info_parts info5
  go_enter Try.func17, Try.ntmps17
  go_wp2
  go_loopw [0, 7] (fun u i wr => ∃ (d : Nat), d ≤ many ∧ i = .int .i64 ((d : Int) - 1) ∧ BeRel w wr base v u xs n many d) (fun _ i _ => (intOf i + 1).toNat)
  case atStart => exact ⟨many, Nat.le_refl _, rfl, by simpa [BeRel] using hown, World.grownBy.refl _ _, .inl rfl⟩
  case round =>
    obtain ⟨d, hd, rfl, hR⟩ := hrel
    have hbw : base ≤ wr.heap.size := Nat.le_trans hbase hR.2.1.size
    by_cases h0 : 0 < d
    · obtain ⟨d, rfl⟩ : ∃ c, d = c + 1 := ⟨d - 1, by omega⟩
      have H1 := Lib.hid hR.1
      have HR := Lib.hid hR
      clear hR
      go_wp2_with (at_builtin; refine wpList_append_own_at _ rfl (.tmp 14) (.tmp 20) 25 rfl base 5 i0 (.int .u8 0) 1 1 Try.underlying25 hi hz0 hz1 hz2 rfl (by decide) u0 (xs.length + (many - (d + 1))) (xs ++ (u8s (bes n many)).take (many - (d + 1))) rfl (H1.out.alloc _) ⟨wr.heap.size, 0, none⟩ 1 1 [.int .u8 (n / 2 ^ (8 * d) % 256)] rfl rfl (cell_one_new _ _ _) ?c2 ?c3 ?c4 ?c5 ?_; (case c2 => intro u hu; simp at hu; subst hu; rfl); (case c3 => unfold maxLen; omega); (case c4 => omega); (case c5 => simp; omega); intro v' w1 hown1 hgrow _ hat)
      have HR1 : BeRel w w1 base v v' xs n many d := be_step hd HR.out hown1 (grown_of_alloc hgrow) (hat.imp id fun e => ⟨_, e, by simp⟩)
      go_roundw
      case rel => exact ⟨d, by omega, by go_num, HR1⟩
      case measure => simp [intOf] <;> omega
    · have hz : d = 0 := by omega
      subst hz
      have HR := Lib.hid hR
      clear hR
      go_wp2
      go_ret
      exact ⟨_, rfl, by have h := HR.out.1; rw [List.take_of_length_le (by simp [u8s_length, bes_length])] at h; exact h, HR.out.2.1, HR.out.2.2⟩

end Go.Proofs.Ytpieckeaehninaa
