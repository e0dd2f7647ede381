/-
  The document's 'Number': the many lowest bytes of a number, the highest first.
-/
import Derived.Test.YtpieckeaehninaaBe
namespace Go.Proofs.Ytpieckeaehninaa
open Go.RowKit

def zeros (n : Nat) : Array Value := madeCells #[.int .u8 0] n

/-- what holds at a round's head: d bytes are still to come -/
def NumRel (w wr : World) (n : Int) (many d : Nat) : Prop :=
  wr.ownsRow w.heap.size 5 1 (.slice (some ⟨w.heap.size, 0, none⟩) many many) many (u8s (List.replicate d 0 ++ bes n (many - d))) ∧ Below w.heap.size w wr

theorem set_rep (x : Int) (l : List Int) : ∀ d : Nat, (List.replicate (d + 1) (0 : Int) ++ l).set d x = List.replicate d 0 ++ x :: l
  | 0 => rfl
  | d + 1 => by
    rw [List.replicate_succ, List.cons_append, List.set_cons_succ, set_rep x l d, List.replicate_succ, List.cons_append]

theorem num_step {w wr : World} {n : Int} {many d : Nat} (hd : d + 1 ≤ many) (h : NumRel w wr n many (d + 1)) :
    NumRel w (wr.setCell ⟨w.heap.size, d, none⟩ (.int .u8 (byteAt n (many - (d + 1))))) n many d := by
  refine ⟨?_, h.2.setCell (Nat.le_refl _) _⟩
  have h1 := (h.1.stored d (.int .u8 (byteAt n (many - (d + 1))))).1
  have e : many - d = many - (d + 1) + 1 := by omega
  have h2 : (u8s (List.replicate (d + 1) 0 ++ bes n (many - (d + 1)))).set d (.int .u8 (byteAt n (many - (d + 1)))) = u8s (List.replicate d 0 ++ bes n (many - d)) := by
    rw [e, bes, ← set_rep, u8s, u8s, List.map_set]
  rw [h2] at h1
  exact h1

theorem div_pow (n : Int) (c : Nat) : n / 2 ^ (8 * c) / 256 = n / 2 ^ (8 * (c + 1)) := by
  rw [Int.ediv_ediv_of_nonneg (Int.le_of_lt (Int.pow_pos (by omega)))]
  rw [show 8 * (c + 1) = 8 * c + 8 by omega, Int.pow_add]
  rfl

theorem pow_le (n : Int) (c : Nat) (h0 : 0 ≤ n) : 0 ≤ n / 2 ^ (8 * c) ∧ n / 2 ^ (8 * c) ≤ n :=
  ⟨Int.ediv_nonneg h0 (Int.le_of_lt (Int.pow_pos (by omega))), Int.ediv_le_self _ h0⟩

set_option maxHeartbeats 800000 in
theorem number_any (n : Int) (many : Nat) (w : World) (hn0 : 0 ≤ n) (hn1 : n ≤ 18446744073709551615) (hmany : many ≤ 8) :
    Calls Try.prog 20 #[.int .u64 n, .int .i64 many] w fun e w' => ∃ v', e = .returned v' ∧ w'.ownsRow w.heap.size 5 1 v' many (u8s (bes n many)) ∧ Below w.heap.size w w' := by
  obtain ⟨i0, hi, hz0, hz1, hz2⟩ := info_parts info5
  have hmk : ∀ W : World, (Instr.makeSlice 25 (.int .i64 (many : Int)) (.int .i64 (many : Int))).run Try.prog W = .ok (.slice (some ⟨W.heap.size, 0, none⟩) many many) (W.alloc (.cells (zeros many) 5)) := fun W => by
    have h := run_make_rowN (P := Try.prog) 25 5 i0 (.int .u8 0) Try.underlying25 hi hz0 .i64 .i64 many many (Nat.le_refl _) (by rw [hz2]; omega) (by omega) W
    rw [hz1, Nat.mul_one] at h
    exact h
  have hstart : NumRel w (w.alloc (.cells (zeros many) 5)) n many many := by
    have h := World.ownsRow_lit (base := w.heap.size) (e := 5) (size := 1) w (zeros many) many (Nat.le_refl _) (by unfold maxLen; omega) (by rw [Nat.mul_one]; exact size_madeCells _ _)
    have e : (zeros many).toList = u8s (List.replicate many 0 ++ bes n (many - many)) := by
      rw [Nat.sub_self, bes, List.append_nil, zeros, toList_madeCells_one, u8s, List.map_replicate]
    rw [e] at h
    exact ⟨h, (Below.refl _ _).alloc (Nat.le_refl _) _⟩
  have HS := Lib.hid hstart
  clear hstart
  go_enter Try.func20, Try.ntmps20
  go_wp2
  go_loopw [0, 6] (fun u i wr => ∃ (d : Nat), d ≤ many ∧ i = .int .i64 ((d : Int) - 1) ∧ u = .int .u64 (n / 2 ^ (8 * (many - d))) ∧ Hid (NumRel w wr n many d)) (fun _ i _ => (intOf i + 1).toNat)
  case atStart => exact ⟨many, Nat.le_refl _, rfl, by simp, HS⟩
  case round =>
    obtain ⟨d, hd, rfl, rfl, HR⟩ := hrel
    by_cases h0 : 0 < d
    · obtain ⟨d, rfl⟩ : ∃ c, d = c + 1 := ⟨d - 1, by omega⟩
      have hc0 := (HR.out.1.cellAt d (by omega))
      obtain ⟨x0, hx0⟩ : ∃ x, wr.cell? ⟨w.heap.size, d, none⟩ = some x := by
        rw [hc0]
        exact ⟨_, List.getElem?_eq_getElem (by simp [u8s_length, bes_length]; omega)⟩
      have hf0 := (HR.out.1.frozenAt d)
      have hp := pow_le n (many - (d + 1)) hn0
      have hp1 := hp.1
      have hp2 : n / 2 ^ (8 * (many - (d + 1))) ≤ 18446744073709551615 := by omega
      clear hp hc0
      go_wp2
      have HR1 := Lib.hid (num_step hd HR.out)
      go_roundw
      case rel => exact ⟨d, by omega, by go_num, by rw [div_pow, show many - (d + 1) + 1 = many - d by omega], HR1⟩
      case measure => simp [intOf] <;> omega
    · have hz : d = 0 := by omega
      subst hz
      go_wp2
      go_ret
      exact ⟨_, rfl, HR.out.1, HR.out.2⟩

end Go.Proofs.Ytpieckeaehninaa
