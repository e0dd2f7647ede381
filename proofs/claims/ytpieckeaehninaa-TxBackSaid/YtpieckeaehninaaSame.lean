/-
  Two transactions that are one: the document's 'Same' says so; bytes as a string.
-/
import Derived.Test.YtpieckeaehninaaOut
namespace Go.Proofs.Ytpieckeaehninaa
open Go.RowKit

/-- bytes as a string -/
def strOf (d : List Int) : ByteArray := d.foldl (fun r n => r.push (UInt8.ofNat n.toNat)) ByteArray.empty

theorem run_str {w : World} {B len : Nat} {A : Option Addr} {d : List Int} (cap : Nat) (h : Reads w B 1 A len (u8s d)) : (convert 25 9 (.slice A len cap)).run Try.prog w = .ok (.string (strOf d)) w := by
  rw [run_convert_bytes_string w 25 9 5 A len cap Try.underlying25 Try.underlying5 Try.underlying9]
  have hl : len = d.length := by have := h.1; rw [u8s_length] at this; omega
  rcases A with _ | ad
  · have h0 : len = 0 := by
      rcases Nat.eq_zero_or_pos len with h0 | h0
      · exact h0
      · obtain ⟨ad, e, _⟩ := h.2 h0; cases e
    have hd : d = [] := List.eq_nil_of_length_eq_zero (by omega)
    subst hd
    rfl
  · refine run_bytesToString w ad len cap d ?_
    have hc : ∀ j u, (u8s d)[j]? = some u → w.cell? (ad.add j) = some u := by
      intro j u hu
      rcases Nat.eq_zero_or_pos len with h0 | h0
      · have hd : d = [] := List.eq_nil_of_length_eq_zero (by omega)
        subst hd; simp [u8s] at hu
      · obtain ⟨ad', e, _, hc⟩ := h.2 h0
        injection e with e; subst e
        exact hc j u hu
    have := run_loadCells_list (P := Try.prog) w ad (u8s d) hc
    rw [u8s_length, ← hl] at this
    exact this

attribute [local go_sem] equal23

set_option maxHeartbeats 1600000 in
set_option maxRecDepth 100000 in
theorem same_true (a b : Txn) (d : List Int) (w : World) (hb : b = { a with a := b.a, len := b.len, cap := b.cap }) (h1 : Reads w w.heap.size 1 a.a a.len (u8s d)) (h2 : Reads w w.heap.size 1 b.a b.len (u8s d)) :
    Calls Try.prog 16 #[.agg a.cells, .agg b.cells] w fun e w' => e = .returned (.bool true) ∧ Below w.heap.size w w' := by
  obtain ⟨A2, len2, cap2, hA⟩ : ∃ A2 len2 cap2, b = { a with a := A2, len := len2, cap := cap2 } := ⟨_, _, _, hb⟩
  clear hb
  subst hA
  have hc1 := run_str a.cap ((h1.alloc (Nat.le_refl _) (.cells a.cells 27)).alloc (by simp) (.cells (Txn.cells { a with a := A2, len := len2, cap := cap2 }) 27))
  have hc2 := run_str cap2 ((h2.alloc (Nat.le_refl _) (.cells a.cells 27)).alloc (by simp) (.cells (Txn.cells { a with a := A2, len := len2, cap := cap2 }) 27))
  have H1 := Lib.hid h1
  have H2 := Lib.hid h2
  have hs1 := same8_refl a.f0 a.f1 a.f2 a.f3 a.f4 a.f5 a.f6 a.f7
  have hs2 := same8_refl a.t0 a.t1 a.t2 a.t3 a.t4 a.t5 a.t6 a.t7
  clear h1 h2
  go_enter Try.func16, Try.ntmps16
  go_wp2
  go_ret
  exact ⟨rfl, ((Below.refl _ _).alloc (Nat.le_refl _) _).alloc (by simp) _⟩

end Go.Proofs.Ytpieckeaehninaa
