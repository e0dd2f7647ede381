/-
  What slices.Collect of the keys of a map tells; slices.SortedFunc; the keys of a store that is empty.
-/
import Derived.Test.YtcoagfnkcbfbaaaGreatDoorSx12
namespace Go.Proofs.YtcoagfnkcbfbaaaGreatDoor
open Go.RowKit

theorem block_of_cell {w : World} {B : Nat} {v : Value} (h : w.cell? ⟨B, 0, none⟩ = some v) : B < w.heap.size := by
  rcases Nat.lt_or_ge B w.heap.size with hl | hl
  · exact hl
  · exfalso
    have : w.heap[B]? = none := Array.getElem?_eq_none hl
    simp [World.cell?, this] at h
theorem keys103_gives (F : Fence) (n : Nat) (hF : F.fn 103) (hro : F.round = none) (hn : 1 ≤ n) (w : World) (Bm b : Nat) (es : Array MapEntry) (clock : Nat) (ks : Es)
    (hm : w.cell? ⟨Bm, 0, none⟩ = some (.map (some b))) (hb : w.heap[b]? = some (.map es clock)) (hE : Ents 8 es clock ks) :
    KeysGive Tryz.prog F n 103 #[.pointer (some ⟨Bm, 0, none⟩)] (fun xs => xs.Perm (ks.map (·.1))) ks.length w := fun l J W hW hJ hY h0 =>
  keys103_in F n hF hro hn l Bm b es clock ks J hY W hJ ((hW.cell (p := ⟨Bm, 0, none⟩) (block_of_cell hm)).trans hm) ((hW.block b (Array.getElem?_eq_some_iff.1 hb).1).trans hb) hE h0
theorem collectOk103 : CollectOk Tryz.prog 102 103 23 := by
  intro w Bm b es clock l hm hb hE hlen
  refine (callsIn_wide.1 (collect_in Fence.wide 3 trivial trivial rfl (Nat.le_refl _) 103 _ trivial (fun args w => run_enter Tryz.func103 rfl (by decide) args w) (fun xs => xs.Perm (l.map (·.1))) l.length (by unfold maxLen; omega) (by omega) w
    (keys103_gives Fence.wide 1 trivial rfl (Nat.le_refl _) w Bm b es clock l hm hb hE))).mono ?_
  rintro e w' ⟨v, ss, rfl, h1, h2, h3, h4⟩
  exact ⟨v, rfl, ss, h1, h2, h3, h4⟩
theorem keys104_gives (F : Fence) (n : Nat) (hF : F.fn 104) (hro : F.round = none) (hn : 1 ≤ n) (w : World) (Bm b : Nat) (es : Array MapEntry) (clock : Nat) (ks : Es)
    (hm : w.cell? ⟨Bm, 0, none⟩ = some (.map (some b))) (hb : w.heap[b]? = some (.map es clock)) (hE : Ents 8 es clock ks) :
    KeysGive Tryz.prog F n 104 #[.pointer (some ⟨Bm, 0, none⟩)] (fun xs => xs.Perm (ks.map (·.1))) ks.length w := fun l J W hW hJ hY h0 =>
  keys104_in F n hF hro hn l Bm b es clock ks J hY W hJ ((hW.cell (p := ⟨Bm, 0, none⟩) (block_of_cell hm)).trans hm) ((hW.block b (Array.getElem?_eq_some_iff.1 hb).1).trans hb) hE h0
theorem collectOk104 : CollectOk Tryz.prog 102 104 23 := by
  intro w Bm b es clock l hm hb hE hlen
  refine (callsIn_wide.1 (collect_in Fence.wide 3 trivial trivial rfl (Nat.le_refl _) 104 _ trivial (fun args w => run_enter Tryz.func104 rfl (by decide) args w) (fun xs => xs.Perm (l.map (·.1))) l.length (by unfold maxLen; omega) (by omega) w
    (keys104_gives Fence.wide 1 trivial rfl (Nat.le_refl _) w Bm b es clock l hm hb hE))).mono ?_
  rintro e w' ⟨v, ss, rfl, h1, h2, h3, h4⟩
  exact ⟨v, rfl, ss, h1, h2, h3, h4⟩
theorem keys105_gives (F : Fence) (n : Nat) (hF : F.fn 105) (hro : F.round = none) (hn : 1 ≤ n) (w : World) (Bm b : Nat) (es : Array MapEntry) (clock : Nat) (ks : Es)
    (hm : w.cell? ⟨Bm, 0, none⟩ = some (.map (some b))) (hb : w.heap[b]? = some (.map es clock)) (hE : Ents 8 es clock ks) :
    KeysGive Tryz.prog F n 105 #[.pointer (some ⟨Bm, 0, none⟩)] (fun xs => xs.Perm (ks.map (·.1))) ks.length w := fun l J W hW hJ hY h0 =>
  keys105_in F n hF hro hn l Bm b es clock ks J hY W hJ ((hW.cell (p := ⟨Bm, 0, none⟩) (block_of_cell hm)).trans hm) ((hW.block b (Array.getElem?_eq_some_iff.1 hb).1).trans hb) hE h0
theorem collectOk105 : CollectOk Tryz.prog 102 105 23 := by
  intro w Bm b es clock l hm hb hE hlen
  refine (callsIn_wide.1 (collect_in Fence.wide 3 trivial trivial rfl (Nat.le_refl _) 105 _ trivial (fun args w => run_enter Tryz.func105 rfl (by decide) args w) (fun xs => xs.Perm (l.map (·.1))) l.length (by unfold maxLen; omega) (by omega) w
    (keys105_gives Fence.wide 1 trivial rfl (Nat.le_refl _) w Bm b es clock l hm hb hE))).mono ?_
  rintro e w' ⟨v, ss, rfl, h1, h2, h3, h4⟩
  exact ⟨v, rfl, ss, h1, h2, h3, h4⟩
theorem chainOk : ChainOk Tryz.prog 68 102 37 := by
  intro w Seq Cmp R Q h1 h2
  go_enter Tryz.func68, Tryz.ntmps68
  go_wp2_with (go_at_call 102; refine h1.mono ?_; rintro e w1 ⟨v, rfl, hR⟩)
  go_wp2_with (go_at_call 37; refine (h2 _ _ hR).mono ?_; rintro e w2 ⟨⟨V, rfl⟩, hQ⟩)
  go_ret
  exact ⟨_, rfl, hQ⟩
end Go.Proofs.YtcoagfnkcbfbaaaGreatDoor
