/-
  The number of bytes: the document's 'Of', and the closure that the program's Take reads numbers by.
-/
import Derived.Test.YtpieckeaehninaaBe
namespace Go.Proofs.Ytpieckeaehninaa
open Go.RowKit

def numOf (l : List Int) : Int := l.foldl (fun a c => a * 256 + c) 0
def Okb (l : List Int) : Prop := ∀ x ∈ l, 0 ≤ x ∧ x ≤ 255

theorem numOf_snoc (l : List Int) (c : Int) : numOf (l ++ [c]) = numOf l * 256 + c := by simp [numOf]

theorem numOf_bound : ∀ (l : List Int), Okb l → 0 ≤ numOf l ∧ numOf l < 256 ^ l.length := by
  intro l
  suffices H : ∀ m : List Int, Okb m.reverse → 0 ≤ numOf m.reverse ∧ numOf m.reverse < 256 ^ m.reverse.length by
    have h := H l.reverse
    rwa [List.reverse_reverse] at h
  intro m
  induction m with
  | nil => intro _; exact ⟨by decide, by decide⟩
  | cons c m ih =>
    rw [List.reverse_cons]
    intro h
    have h1 := ih (fun x hx => h x (List.mem_append_left _ hx))
    have h2 := h c (List.mem_append_right _ (List.mem_singleton.2 rfl))
    rw [numOf_snoc, List.length_append, List.length_singleton, Int.pow_succ]
    omega

theorem take_snoc (l : List Int) (k : Nat) (h : k < l.length) : l.take (k + 1) = l.take k ++ [l.getD k 0] := by
  rw [List.take_succ_eq_append_getElem h]
  simp [List.getD, List.getElem?_eq_getElem h]

theorem Okb.take {l : List Int} (h : Okb l) (k : Nat) : Okb (l.take k) := fun x hx => h x (List.mem_of_mem_take hx)
theorem Okb.drop {l : List Int} (h : Okb l) (k : Nat) : Okb (l.drop k) := fun x hx => h x (List.mem_of_mem_drop hx)
theorem Okb.at_ {l : List Int} (h : Okb l) (k : Nat) : 0 ≤ l.getD k 0 ∧ l.getD k 0 ≤ 255 := by
  by_cases hk : k < l.length
  · rw [List.getD, List.getElem?_eq_getElem hk]
    exact h _ (List.getElem_mem hk)
  · rw [List.getD, List.getElem?_eq_none (by omega)]
    exact ⟨by decide, by decide⟩

theorem numOf_small {l : List Int} (h : Okb l) {k : Nat} (hk : k < 8) : 0 ≤ numOf (l.take k) ∧ numOf (l.take k) ≤ 72057594037927935 := by
  have h1 := numOf_bound _ (h.take k)
  have h2 : (256 : Int) ^ (l.take k).length ≤ 256 ^ 7 := by
    have h3 : (l.take k).length ≤ 7 := by rw [List.length_take]; omega
    have h4 : (256 : Nat) ^ (l.take k).length ≤ 256 ^ 7 := Nat.pow_le_pow_right (by omega) h3
    have h5 : (((256 : Nat) ^ (l.take k).length : Nat) : Int) ≤ ((256 ^ 7 : Nat) : Int) := Int.ofNat_le.2 h4
    rw [Int.natCast_pow] at h5
    exact h5
  exact ⟨h1.1, by omega⟩

theorem cell_of_reads {w : World} {B len : Nat} {A : Option Addr} {bs : List Int} (h : Reads w B 1 A len (u8s bs)) {k : Nat} (hk : k < len) : ∃ ad, A = some ad ∧ ad.block < B ∧ w.cell? (ad.add k) = some (.int .u8 (bs.getD k 0)) := by
  obtain ⟨ad, u, rfl, hb, hx, hc⟩ := h.at_ hk
  have hl : k < bs.length := by have := h.1; rw [u8s_length] at this; omega
  have e : (u8s bs)[k]? = some (.int .u8 (bs.getD k 0)) := by simp [u8s, List.getD, List.getElem?_eq_getElem hl]
  rw [e] at hx
  injection hx with hx
  subst hx
  exact ⟨ad, rfl, hb, hc⟩

set_option maxHeartbeats 800000 in
theorem of_any (B len cap : Nat) (A : Option Addr) (bs : List Int) (w : World) (h : Reads w B 1 A len (u8s bs)) (hb : Okb bs) (hlen : len ≤ 8) :
    Calls Try.prog 23 #[.slice A len cap] w fun e w' => e = .returned (.int .u64 (numOf bs)) ∧ w = w' := by
  have hl : bs.length = len := by have := h.1; rw [u8s_length] at this; omega
  have HL := Lib.hid hl
  have HR := Lib.hid h
  clear hl h
  go_enter Try.func23, Try.ntmps23
  go_wp2
  go_loop [3, 4] (fun u i => ∃ k : Nat, k ≤ len ∧ i = .int .i64 k ∧ u = .int .u64 (numOf (bs.take k))) (fun _ i => (len - intOf i).toNat)
  case atStart => exact ⟨0, Nat.zero_le _, rfl, rfl⟩
  case round =>
    obtain ⟨k, hk, rfl, rfl⟩ := hrel
    by_cases hlt : k < len
    · obtain ⟨ad, hA, _, hc⟩ := cell_of_reads HR.out hlt
      have hs := numOf_small hb (show k < 8 by omega)
      have hs1 := hs.1
      have hs2 := hs.2
      have hx := hb.at_ k
      have hx1 := hx.1
      have hx2 := hx.2
      have hsn := take_snoc bs k (by rw [HL.out]; exact hlt)
      clear hs hx
      generalize bs.getD k 0 = c at hc hx1 hx2 hsn
      have HS := Lib.hid hsn
      clear hsn
      subst hA
      go_wp2
      go_round
      case rel => exact ⟨k + 1, by omega, by go_num, by rw [HS.out, numOf_snoc, Int.mul_comm]⟩
      case measure => simp [intOf] <;> omega
    · obtain rfl : k = len := by omega
      go_wp2
      go_ret
      exact ⟨by rw [List.take_of_length_le (by rw [HL.out]; omega)]; rfl, rfl⟩

theorem or_byte (a c : Int) (ha : 0 ≤ a) (ha2 : a ≤ 72057594037927935) (hc : 0 ≤ c) (hc2 : c ≤ 255) : bits .or .u64 (a * 256) c = a * 256 + c := by
  obtain ⟨x, rfl⟩ := Int.eq_ofNat_of_zero_le ha
  obtain ⟨y, rfl⟩ := Int.eq_ofNat_of_zero_le hc
  have h := u64_or_nat (x * 256) y (by omega) (by omega)
  have e : x * 256 ||| y = x * 256 + y := by
    have := Nat.shiftLeft_add_eq_or_of_lt (i := 8) (show y < 2 ^ 8 by omega) x
    rw [Nat.shiftLeft_eq] at this
    exact this.symm
  rw [e] at h
  simpa using h

/-- where a slice that is cut at k starts: at its end Go keeps the old address -/
def cutA (A : Option Addr) (cap k : Nat) : Option Addr := if cap = k then A else A.map (·.add (k * 1))

theorem run_cut (A : Option Addr) (len cap k : Nat) (W : World) (hk : k ≤ len) (_hcap : len ≤ cap) (_hl : cap ≤ 9223372036854775807) :
    (Instr.slice 25 (.slice A len cap) (some (.int .i64 (k : Int))) none none).run Try.prog W = .ok (.slice (cutA A cap k) (len - k) (cap - k)) W := by
  have h25 := Try.underlying25
  have h5 := Try.sizeOf5
  unfold cutA
  by_cases h : cap = k
  · subst h
    go_simp
  · rw [if_neg h]
    go_simp

set_option maxHeartbeats 800000 in
/-- the closure: it takes the many next bytes as a number, and moves the captured slice on -/
theorem take1_any (B len cap g many : Nat) (A : Option Addr) (bs : List Int) (w : World) (h : Reads w B 1 A len (u8s bs)) (hb : Okb bs) (hm : many ≤ len) (hm8 : many ≤ 8) (hcap : len ≤ cap)
    (hc0 : w.cell? ⟨g, 0, none⟩ = some (.slice A len cap)) (hf0 : w.frozen? ⟨g, 0, none⟩ = false) (hl63 : cap ≤ 9223372036854775807) :
    Calls Try.prog 21 #[.int .i64 many, .pointer (some ⟨g, 0, none⟩)] w fun e w' => e = .returned (.int .u64 (numOf (bs.take many))) ∧
      w.setCell ⟨g, 0, none⟩ (.slice (cutA A cap many) (len - many) (cap - many)) = w' := by
  have hcut := fun W => run_cut A len cap many W hm hcap hl63
  have hl : bs.length = len := by have := h.1; rw [u8s_length] at this; omega
  have HL := Lib.hid hl
  have HR := Lib.hid h
  clear hl h
  go_enter Try.func21, Try.ntmps21
  go_wp2
  go_loop [4, 11] (fun u i => ∃ k : Nat, k ≤ many ∧ i = .int .i64 k ∧ u = .int .u64 (numOf (bs.take k))) (fun _ i => (many - intOf i).toNat)
  case atStart => exact ⟨0, Nat.zero_le _, rfl, rfl⟩
  case round =>
    obtain ⟨k, hk, rfl, rfl⟩ := hrel
    by_cases hlt : k < many
    · obtain ⟨ad, hA, _, hc⟩ := cell_of_reads HR.out (show k < len by omega)
      have hs := numOf_small hb (show k < 8 by omega)
      have hs1 := hs.1
      have hs2 := hs.2
      have hx := hb.at_ k
      have hx1 := hx.1
      have hx2 := hx.2
      have hsn := take_snoc bs k (by rw [HL.out]; omega)
      clear hs hx
      generalize bs.getD k 0 = c at hc hx1 hx2 hsn
      have HS := Lib.hid hsn
      clear hsn
      have hor := or_byte _ c hs1 hs2 hx1 hx2
      subst hA
      go_wp2
      go_round
      case rel => exact ⟨k + 1, by omega, by go_num, by rw [HS.out, numOf_snoc]⟩
      case measure => simp [intOf] <;> omega
    · obtain rfl : k = many := by omega
      go_wp2
      go_ret
      exact ⟨rfl, by simp⟩

end Go.Proofs.Ytpieckeaehninaa
