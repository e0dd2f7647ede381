/-
  The sorting of keys, asked of the kernel: from a run's answer to what it says.
-/
import Derived.Test.YtcoagfnkcbfbaaaGreatDoorSx13
namespace Go.Proofs.YtcoagfnkcbfbaaaGreatDoor
open Go.RowKit

theorem bytes_back : ∀ {l : List SV} {xs : List Int}, optAll byteS l = some xs → l = xs.map (SV.int .u8)
  | [], xs, h => by cases h; rfl
  | v :: l, xs, h => by
    obtain ⟨x, r, h1, h2, rfl⟩ := optAll_cons h
    have ih := bytes_back h2
    cases v with
    | int k z => cases k <;> simp_all [byteS]
    | _ => simp [byteS] at h1
theorem cellsK_flat (L : List (List Int)) : cellsK L = (L.flatten).map (SV.int .u8) := by
  induction L with
  | nil => rfl
  | cons k L ih => simp only [cellsK, List.flatMap_cons, List.flatten_cons, List.map_append] at ih ⊢; rw [ih]

def sortsB (t : Nat) (L : List (List Int)) : Option (SV × Nat × Tr × Ft) → Bool
  | some (_, _, h, _) => match h.get 0 with
    | some (.cells l t' _) => (t' == t) && (match optAll byteS l with
      | some xs => xs == L.flatten
      | none => false)
    | _ => false
  | none => false
theorem sortsTo_of {D : Dt} {ext : Nat → Option (List SV → M SV)} {f gs : Nat} {cmp : SV} {t : Nat} {ss L : List (List Int)}
    (h : sortsB t L ((callM D ext (exec D ext f) gs [.sl 0 0 ss.length 8 none, cmp]).run 1 (.nd .lf (some (.cells (cellsK ss) t false)) .lf)) = true) : SortsTo D ext f gs cmp t ss L := by
  unfold sortsB at h
  split at h
  · rename_i u n' h' F hrun
    split at h
    · rename_i l t' x hg
      simp only [Bool.and_eq_true, beq_iff_eq] at h
      obtain ⟨rfl, h⟩ := h
      split at h
      · rename_i xs hx
        have hx' : xs = L.flatten := by simpa using h
        refine ⟨u, n', h', F, x, hrun, ?_⟩
        rw [hg, bytes_back hx, hx', cellsK_flat]
      · cases h
    · cases h
  · cases h
theorem sortsNil_of {D : Dt} {ext : Nat → Option (List SV → M SV)} {f gs : Nat} {cmp : SV} (h : ((callM D ext (exec D ext f) gs [.ns, cmp]).run 0 .lf).isSome = true) : SortsNil D ext f gs cmp := by
  obtain ⟨⟨u, n', h', F⟩, hx⟩ := Option.isSome_iff_exists.1 h
  exact ⟨u, n', h', F, hx⟩

def tellsT : Option (SV × Nat × Tr × Ft) → Bool
  | some (.bool true, _) => true
  | _ => false
theorem tellsT_of {x : Option (SV × Nat × Tr × Ft)} (h : tellsT x = true) : ∃ n h F, x = some (.bool true, n, h, F) := by
  unfold tellsT at h
  split at h
  · rename_i r
    obtain ⟨n, h, F⟩ := r
    exact ⟨n, h, F, rfl⟩
  · cases h
end Go.Proofs.YtcoagfnkcbfbaaaGreatDoor
