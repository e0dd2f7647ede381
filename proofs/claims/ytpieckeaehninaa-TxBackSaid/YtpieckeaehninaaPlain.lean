/-
  The plain law behind TxBack: what was put is taken as it was; what is taken is put as those bytes.
-/
import Derived.Test.YtpieckeaehninaaTake
namespace Go.Proofs.Ytpieckeaehninaa
open Go.RowKit

theorem numOf_from (l : List Int) : ∀ a : Int, l.foldl (fun a c => a * 256 + c) a = a * 256 ^ l.length + numOf l := by
  induction l with
  | nil => intro a; simp [numOf]
  | cons x l ih =>
    intro a
    have e : numOf (x :: l) = (0 * 256 + x) * 256 ^ l.length + numOf l := ih _
    rw [List.foldl_cons, ih, List.length_cons, e, Int.pow_succ, Int.zero_mul, Int.zero_add, Int.add_mul, Int.add_assoc]
    congr 1
    rw [Int.mul_assoc, Int.mul_comm 256]

theorem numOf_cons (x : Int) (l : List Int) : numOf (x :: l) = x * 256 ^ l.length + numOf l := by
  rw [numOf, List.foldl_cons, numOf_from, Int.zero_mul, Int.zero_add]

theorem pow256 (k : Nat) : (2 : Int) ^ (8 * k) = 256 ^ k := by
  rw [Int.pow_mul]; rfl

theorem pow_pos' (k : Nat) : (0 : Int) < 256 ^ k := Int.pow_pos (by omega)

theorem numOf_bes (n : Int) : ∀ k, numOf (bes n k) = n % 256 ^ k
  | 0 => by simp [bes, numOf, Int.emod_one]
  | k + 1 => by
    rw [bes, numOf_cons, bes_length, numOf_bes n k, byteAt, pow256]
    have h1 := Int.mul_ediv_add_emod n (256 ^ k)
    have h2 := Int.mul_ediv_add_emod (n / 256 ^ k) 256
    have h3 : n / 256 ^ (k + 1) = n / 256 ^ k / 256 := by rw [Int.pow_succ, ← Int.ediv_ediv_of_nonneg (Int.le_of_lt (pow_pos' k))]
    have h4 := Int.mul_ediv_add_emod n (256 ^ (k + 1))
    rw [h3, Int.pow_succ] at h4
    rw [Int.pow_succ]
    generalize n / 256 ^ k = q at *
    generalize n % 256 ^ k = r at *
    generalize n % (256 ^ k * 256) = s at *
    generalize (256 : Int) ^ k = P at *
    generalize q / 256 = q2 at *
    generalize q % 256 = r2 at *
    have e : P * q = P * (256 * q2) + P * r2 := by rw [← h2, Int.mul_add]
    have e2 : P * 256 * q2 = P * (256 * q2) := Int.mul_assoc _ _ _
    have e3 : r2 * P = P * r2 := Int.mul_comm _ _
    omega

theorem numOf_bes_small {n : Int} {k : Nat} (h0 : 0 ≤ n) (h1 : n < 256 ^ k) : numOf (bes n k) = n := by
  rw [numOf_bes, Int.emod_eq_of_lt h0 h1]

theorem bes_low (x m : Int) (K : Nat) : ∀ k, k ≤ K → bes (x * 256 ^ K + m) k = bes m k
  | 0, _ => rfl
  | k + 1, h => by
    rw [bes, bes, bes_low x m K k (by omega), byteAt, byteAt, pow256]
    congr 1
    obtain ⟨j, rfl⟩ : ∃ j, K = k + 1 + j := ⟨K - (k + 1), by omega⟩
    have e : x * 256 ^ (k + 1 + j) + m = m + (x * 256 ^ j * 256) * 256 ^ k := by
      rw [Int.pow_add, Int.pow_succ]
      rw [Int.add_comm]
      congr 1
      rw [Int.mul_comm (256 ^ k * 256), ← Int.mul_assoc, ← Int.mul_assoc, Int.mul_right_comm]
    rw [e, Int.add_mul_ediv_right _ _ (by have := pow_pos' k; omega), Int.add_mul_emod_self_right]

theorem bes_numOf : ∀ l : List Int, Okb l → bes (numOf l) l.length = l
  | [], _ => rfl
  | x :: l, h => by
    have hx := h x (by simp)
    have hl : Okb l := fun y hy => h y (by simp [hy])
    have hb := numOf_bound l hl
    rw [numOf_cons, List.length_cons, bes, bes_low _ _ _ _ (Nat.le_refl _), bes_numOf l hl]
    congr 1
    rw [byteAt, pow256, Int.add_comm, Int.add_mul_ediv_right _ _ (by have := pow_pos' l.length; omega), Int.ediv_eq_zero_of_lt hb.1 hb.2, Int.zero_add]
    exact Int.emod_eq_of_lt hx.1 (by omega)

theorem bes_okb (n : Int) : ∀ k, Okb (bes n k)
  | 0 => by intro x hx; simp [bes] at hx
  | k + 1 => by
    intro x hx
    rcases List.mem_cons.1 hx with rfl | hx
    · exact ⟨Int.emod_nonneg _ (by decide), by have := Int.emod_lt_of_pos (n / 2 ^ (8 * k)) (show (0 : Int) < 256 by decide); unfold byteAt; omega⟩
    · exact bes_okb n k x hx

theorem Okb.append {l m : List Int} (hl : Okb l) (hm : Okb m) : Okb (l ++ m) := fun x hx => (List.mem_append.1 hx).elim (hl x) (hm x)

theorem head_length (t : Txn) : t.head.length = 17 := rfl

/-- the seven parts of a transaction's bytes -/
theorem bytes_drop (t : Txn) (d : List Int) :
    (t.bytes d).drop 17 = bes t.n 8 ++ (bes t.v 8 ++ (bes t.g 8 ++ (bes t.p 8 ++ (bes t.len 4 ++ d)))) := by
  have e : t.bytes d = t.head ++ (bes t.n 8 ++ (bes t.v 8 ++ (bes t.g 8 ++ (bes t.p 8 ++ (bes t.len 4 ++ d))))) := by simp [Txn.bytes, List.append_assoc]
  rw [e]
  exact List.drop_left' (head_length t)

theorem drop8 (n : Int) (k : Nat) (l : List Int) : (bes n k ++ l).drop k = l := List.drop_left' (bes_length n k)
theorem take8 (n : Int) (k : Nat) (l : List Int) : (bes n k ++ l).take k = bes n k := List.take_left' (bes_length n k)

theorem bytes_n (t : Txn) (d : List Int) : ((t.bytes d).drop 17).take 8 = bes t.n 8 := by rw [bytes_drop, take8]
theorem bytes_v (t : Txn) (d : List Int) : ((t.bytes d).drop 25).take 8 = bes t.v 8 := by
  rw [show 25 = 17 + 8 from rfl, ← List.drop_drop, bytes_drop, drop8, take8]
theorem bytes_g (t : Txn) (d : List Int) : ((t.bytes d).drop 33).take 8 = bes t.g 8 := by
  rw [show 33 = 17 + 8 + 8 from rfl, ← List.drop_drop, ← List.drop_drop, bytes_drop, drop8, drop8, take8]
theorem bytes_p (t : Txn) (d : List Int) : ((t.bytes d).drop 41).take 8 = bes t.p 8 := by
  rw [show 41 = 17 + 8 + 8 + 8 from rfl, ← List.drop_drop, ← List.drop_drop, ← List.drop_drop, bytes_drop, drop8, drop8, drop8, take8]
theorem bytes_l (t : Txn) (d : List Int) : ((t.bytes d).drop 49).take 4 = bes t.len 4 := by
  rw [show 49 = 17 + 8 + 8 + 8 + 8 from rfl, ← List.drop_drop, ← List.drop_drop, ← List.drop_drop, ← List.drop_drop, bytes_drop, drop8, drop8, drop8, drop8, take8]
theorem bytes_d (t : Txn) (d : List Int) : (t.bytes d).drop 53 = d := by
  rw [show 53 = 17 + 8 + 8 + 8 + 8 + 4 from rfl, ← List.drop_drop, ← List.drop_drop, ← List.drop_drop, ← List.drop_drop, ← List.drop_drop, bytes_drop, drop8, drop8, drop8, drop8, drop8]

theorem bytes_len (t : Txn) (d : List Int) : (t.bytes d).length = 53 + d.length := by simp [Txn.bytes, Txn.head, Txn.fs, Txn.ts, bes_length]; omega

theorem txOf_bytes (t : Txn) (d : List Int) (hw : t.Wf) (A : Option Addr) (n c : Nat) : txOf (t.bytes d) A n c = { t with a := A, len := n, cap := c } := by
  have hn := numOf_bes_small (k := 8) hw.nl (by have := hw.nu; omega)
  have hv := numOf_bes_small (k := 8) hw.vl (by have := hw.vu; omega)
  have hg := numOf_bes_small (k := 8) hw.gl (by have := hw.gu; omega)
  have hp := numOf_bes_small (k := 8) hw.pl (by have := hw.pu; omega)
  unfold txOf
  rw [bytes_n, bytes_v, bytes_g, bytes_p, hn, hv, hg, hp]
  rfl

theorem takeE_bytes (t : Txn) (d : List Int) (hw : t.Wf) (hl : t.len = d.length) (hsm : t.len ≤ 1000000) : takeE (t.bytes d) = t.may := by
  have hb : numOf (bes t.len 4) = t.len := numOf_bes_small (k := 4) (by omega) (by omega)
  rw [takeE, if_neg (by rw [bytes_len]; omega), bytes_l, hb, if_pos (by rw [bytes_len]; omega), txOf_bytes t d hw, bytes_len, Nat.add_sub_cancel_left, ← hl]
  rfl

theorem takeE_less (t : Txn) (d : List Int) (hl : t.len = d.length) (hsm : t.len ≤ 1000000) : takeE ((t.bytes d).take (52 + t.len)) = 2 := by
  have hb : numOf (bes t.len 4) = t.len := numOf_bes_small (k := 4) (by omega) (by omega)
  have hlen : ((t.bytes d).take (52 + t.len)).length = 52 + t.len := by rw [List.length_take, bytes_len]; omega
  by_cases h : t.len = 0
  · rw [takeE, if_pos (by omega)]
  · have h4 : (((t.bytes d).take (52 + t.len)).drop 49).take 4 = bes t.len 4 := by
      rw [List.drop_take, List.take_take, Nat.min_eq_left (by omega), bytes_l]
    rw [takeE, if_neg (by omega), h4, hb, if_neg (by rw [hlen]; omega)]

theorem takeE_more (t : Txn) (d : List Int) (hl : t.len = d.length) (hsm : t.len ≤ 1000000) : takeE (t.bytes d ++ [0]) = 2 := by
  have hb : numOf (bes t.len 4) = t.len := numOf_bes_small (k := 4) (by omega) (by omega)
  have hlen : (t.bytes d ++ [0]).length = 54 + t.len := by rw [List.length_append, bytes_len]; simp; omega
  have h4 : ((t.bytes d ++ [0]).drop 49).take 4 = bes t.len 4 := by
    rw [List.drop_append_of_le_length (by rw [bytes_len]; omega), List.take_append_of_le_length (by rw [List.length_drop, bytes_len]; omega), bytes_l]
  rw [takeE, if_neg (by omega), h4, hb, if_neg (by rw [hlen]; omega)]

theorem bytes_okb (t : Txn) (d : List Int) (hw : t.Wf) (hd : Okb d) : Okb (t.bytes d) := by
  have hh : Okb t.head := by
    intro x hx
    simp only [Txn.head, Txn.fs, Txn.ts, List.cons_append, List.nil_append, List.mem_cons, List.not_mem_nil, or_false] at hx
    rcases hx with rfl | rfl | rfl | rfl | rfl | rfl | rfl | rfl | rfl | rfl | rfl | rfl | rfl | rfl | rfl | rfl | rfl
    · exact ⟨hw.k0, hw.k1⟩
    · exact ⟨hw.f0l, hw.f0u⟩
    · exact ⟨hw.f1l, hw.f1u⟩
    · exact ⟨hw.f2l, hw.f2u⟩
    · exact ⟨hw.f3l, hw.f3u⟩
    · exact ⟨hw.f4l, hw.f4u⟩
    · exact ⟨hw.f5l, hw.f5u⟩
    · exact ⟨hw.f6l, hw.f6u⟩
    · exact ⟨hw.f7l, hw.f7u⟩
    · exact ⟨hw.t0l, hw.t0u⟩
    · exact ⟨hw.t1l, hw.t1u⟩
    · exact ⟨hw.t2l, hw.t2u⟩
    · exact ⟨hw.t3l, hw.t3u⟩
    · exact ⟨hw.t4l, hw.t4u⟩
    · exact ⟨hw.t5l, hw.t5u⟩
    · exact ⟨hw.t6l, hw.t6u⟩
    · exact ⟨hw.t7l, hw.t7u⟩
  exact (((((hh.append (bes_okb _ _)).append (bes_okb _ _)).append (bes_okb _ _)).append (bes_okb _ _)).append (bes_okb _ _)).append hd

theorem txOf_wf (bs : List Int) (A : Option Addr) (n c : Nat) (h : Okb bs) : (txOf bs A n c).Wf := by
  have hb : ∀ k, 0 ≤ numOf ((bs.drop k).take 8) ∧ numOf ((bs.drop k).take 8) ≤ 18446744073709551615 := fun k => by
    have h1 := numOf_bound _ ((h.drop k).take 8)
    have h2 : ((256 : Nat) ^ ((bs.drop k).take 8).length) ≤ 256 ^ 8 := Nat.pow_le_pow_right (by omega) (by rw [List.length_take]; omega)
    have h3 : (((256 : Nat) ^ ((bs.drop k).take 8).length : Nat) : Int) ≤ ((256 ^ 8 : Nat) : Int) := Int.ofNat_le.2 h2
    rw [Int.natCast_pow] at h3
    have h4 : ((256 : Nat) : Int) ^ ((bs.drop k).take 8).length = 256 ^ ((bs.drop k).take 8).length := rfl
    rw [h4] at h3
    have h5 : ((256 ^ 8 : Nat) : Int) = 18446744073709551616 := rfl
    rw [h5] at h3
    exact ⟨h1.1, by omega⟩
  exact ⟨(h.at_ 0).1, (h.at_ 0).2, (h.at_ 1).1, (h.at_ 1).2, (h.at_ 2).1, (h.at_ 2).2, (h.at_ 3).1, (h.at_ 3).2, (h.at_ 4).1, (h.at_ 4).2, (h.at_ 5).1, (h.at_ 5).2, (h.at_ 6).1, (h.at_ 6).2, (h.at_ 7).1, (h.at_ 7).2, (h.at_ 8).1, (h.at_ 8).2,
    (h.at_ 9).1, (h.at_ 9).2, (h.at_ 10).1, (h.at_ 10).2, (h.at_ 11).1, (h.at_ 11).2, (h.at_ 12).1, (h.at_ 12).2, (h.at_ 13).1, (h.at_ 13).2, (h.at_ 14).1, (h.at_ 14).2, (h.at_ 15).1, (h.at_ 15).2, (h.at_ 16).1, (h.at_ 16).2,
    (hb 17).1, (hb 17).2, (hb 25).1, (hb 25).2, (hb 33).1, (hb 33).2, (hb 41).1, (hb 41).2⟩

theorem cut_bes {bs : List Int} (h : Okb bs) (k m : Nat) (hm : k + m ≤ bs.length) : bes (numOf ((bs.drop k).take m)) m = (bs.drop k).take m := by
  have hl : ((bs.drop k).take m).length = m := by rw [List.length_take, List.length_drop]; omega
  have := bes_numOf _ ((h.drop k).take m)
  rwa [hl] at this

theorem take_join (bs : List Int) (k m : Nat) : bs.take k ++ (bs.drop k).take m = bs.take (k + m) := by
  rw [List.take_add]

theorem take_getD (l : List Int) : ∀ k, k ≤ l.length → l.take k = (List.range k).map fun i => l.getD i 0
  | 0, _ => rfl
  | k + 1, h => by rw [take_snoc l k (by omega), take_getD l k (by omega), List.range_succ, List.map_append]; rfl

theorem head17 (bs : List Int) (h : 17 ≤ bs.length) (A : Option Addr) (n c : Nat) : (txOf bs A n c).head = bs.take 17 := by
  rw [take_getD bs 17 h]
  rfl

theorem bytes_txOf {bs : List Int} (h : Okb bs) (h0 : takeE bs = 0) (A : Option Addr) (c : Nat) : (txOf bs A (bs.length - 53) c).bytes (bs.drop 53) = bs := by
  have h53 : ¬ bs.length < 53 := by
    intro hlt; rw [takeE, if_pos hlt] at h0; omega
  rw [takeE, if_neg h53] at h0
  by_cases hN : numOf ((bs.drop 49).take 4) = (bs.length : Int) - 53
  · have e4 : bes ((bs.length - 53 : Nat) : Int) 4 = (bs.drop 49).take 4 := by
      rw [show ((bs.length - 53 : Nat) : Int) = numOf ((bs.drop 49).take 4) by rw [hN]; omega]
      exact cut_bes h 49 4 (by omega)
    unfold Txn.bytes
    rw [head17 bs (by omega)]
    show bs.take 17 ++ bes (numOf ((bs.drop 17).take 8)) 8 ++ bes (numOf ((bs.drop 25).take 8)) 8 ++ bes (numOf ((bs.drop 33).take 8)) 8 ++ bes (numOf ((bs.drop 41).take 8)) 8 ++ bes ((bs.length - 53 : Nat) : Int) 4 ++ bs.drop 53 = bs
    rw [e4, cut_bes h 17 8 (by omega), cut_bes h 25 8 (by omega), cut_bes h 33 8 (by omega), cut_bes h 41 8 (by omega), take_join, take_join, take_join, take_join, take_join]
    exact List.take_append_drop 53 bs
  · rw [if_neg hN] at h0; omega

end Go.Proofs.Ytpieckeaehninaa
