/-
  What the runner is told of this program: its types, its functions; each line held against the program by the kernel. Written by a program of the workbench (gentab.py).
-/
import Derived.Test.YtcoagfnkcbfbaaaGreatDoorSx9
import Derived.Test.YtcoagfnkcbfbaaaGreatDoorRows
namespace Go.Proofs.YtcoagfnkcbfbaaaGreatDoor
inductive BT (α : Type) where
  | lf
  | nd (l : BT α) (k : Nat) (v : α) (r : BT α)
def BT.get {α : Type} : BT α → Nat → Option α
  | .lf, _ => none
  | .nd l k v r, n => if Nat.blt n k = true then l.get n else if Nat.blt k n = true then r.get n else some v
def BT.All {α : Type} (p : Nat → α → Prop) : BT α → Prop
  | .lf => True
  | .nd l k v r => l.All p ∧ p k v ∧ r.All p
theorem BT.All.get {α : Type} {p : Nat → α → Prop} : ∀ {t : BT α}, t.All p → ∀ {n : Nat} {v : α}, t.get n = some v → p n v
  | .lf, _, n, v, h => by simp [BT.get] at h
  | .nd l k x r, ⟨h1, h2, h3⟩, n, v, h => by
    unfold BT.get at h
    split at h
    · exact BT.All.get h1 h
    · rename_i a
      split at h
      · exact BT.All.get h3 h
      · rename_i b
        simp only [Option.some.injEq] at h
        subst h
        simp only [Nat.blt_eq, Nat.not_lt] at a b
        have : n = k := by omega
        subst this
        exact h2
def TiSaid (P : Program) (t : Nat) (i : TI) : Prop :=
  P.underlying t = some i.d ∧ (P.info? t).map (fun I => (I.size, I.bytes, I.zero)) = some (i.size, i.bytes, i.zero.toV) ∧ i.zero.toV.isSome = true ∧ (cellsS i.zero).length = i.size ∧
    (match i.d with
      | .struct fs => fs.toList.mapM (fun f => (P.info? f.type).map fun i => (f.offset, i.size)) = some i.place
      | _ => True)
theorem TiSaid.ok {P : Program} {t : Nat} {i : TI} (h : TiSaid P t i) : TiOk P t i := by
  obtain ⟨h1, h2, h3, h4, h5⟩ := h
  cases hi : P.info? t with
  | none => simp [hi] at h2
  | some I =>
    simp only [hi, Option.map_some, Option.some.injEq, Prod.mk.injEq] at h2
    obtain ⟨Z, hZ⟩ := Option.isSome_iff_exists.1 h3
    refine ⟨h1, ⟨I, hi, h2.1, h2.2.1, Z, by rw [h2.2.2, hZ], hZ⟩, h4, fun fs hd => ?_⟩
    rw [hd] at h5
    exact h5
noncomputable def ti3 : TI := ⟨.int .i64, 1, 8, .int .i64 0, []⟩
theorem ti3_ok : TiOk Tryz.prog 3 ti3 := TiSaid.ok ⟨by kernel_rfl, by kernel_rfl, by kernel_rfl, by kernel_rfl, trivial⟩
noncomputable def ti5 : TI := ⟨.int .u8, 1, 1, .int .u8 0, []⟩
theorem ti5_ok : TiOk Tryz.prog 5 ti5 := TiSaid.ok ⟨by kernel_rfl, by kernel_rfl, by kernel_rfl, by kernel_rfl, trivial⟩
noncomputable def ti9 : TI := ⟨.string, 1, 16, .str ⟨#[]⟩, []⟩
theorem ti9_ok : TiOk Tryz.prog 9 ti9 := TiSaid.ok ⟨by kernel_rfl, by kernel_rfl, by kernel_rfl, by kernel_rfl, trivial⟩
noncomputable def ti23 : TI := ⟨.array 8 5, 8, 8, .agg [.int .u8 0, .int .u8 0, .int .u8 0, .int .u8 0, .int .u8 0, .int .u8 0, .int .u8 0, .int .u8 0], []⟩
theorem ti23_ok : TiOk Tryz.prog 23 ti23 := TiSaid.ok ⟨by kernel_rfl, by kernel_rfl, by kernel_rfl, by kernel_rfl, trivial⟩
noncomputable def ti24 : TI := ⟨.slice 47, 1, 24, .ns, []⟩
theorem ti24_ok : TiOk Tryz.prog 24 ti24 := TiSaid.ok ⟨by kernel_rfl, by kernel_rfl, by kernel_rfl, by kernel_rfl, trivial⟩
noncomputable def ti26 : TI := ⟨.struct #[⟨ "Collector", 23, 0, false, "", "", 0⟩, ⟨ "Accounts", 24, 8, false, "", "", 8⟩], 9, 32, .agg [.int .u8 0, .int .u8 0, .int .u8 0, .int .u8 0, .int .u8 0, .int .u8 0, .int .u8 0, .int .u8 0, .ns], [(0, 8), (8, 1)]⟩
theorem ti26_ok : TiOk Tryz.prog 26 ti26 := TiSaid.ok ⟨by kernel_rfl, by kernel_rfl, by kernel_rfl, by kernel_rfl, (by change (_ : Option (List (Nat × Nat))) = _; kernel_rfl)⟩
noncomputable def ti27 : TI := ⟨.slice 44, 1, 24, .ns, []⟩
theorem ti27_ok : TiOk Tryz.prog 27 ti27 := TiSaid.ok ⟨by kernel_rfl, by kernel_rfl, by kernel_rfl, by kernel_rfl, trivial⟩
noncomputable def ti30 : TI := ⟨.pointer 61, 1, 8, .np, []⟩
theorem ti30_ok : TiOk Tryz.prog 30 ti30 := TiSaid.ok ⟨by kernel_rfl, by kernel_rfl, by kernel_rfl, by kernel_rfl, trivial⟩
noncomputable def ti31 : TI := ⟨.int .i64, 1, 8, .int .i64 0, []⟩
theorem ti31_ok : TiOk Tryz.prog 31 ti31 := TiSaid.ok ⟨by kernel_rfl, by kernel_rfl, by kernel_rfl, by kernel_rfl, trivial⟩
noncomputable def ti35 : TI := ⟨.int .u64, 1, 8, .int .u64 0, []⟩
theorem ti35_ok : TiOk Tryz.prog 35 ti35 := TiSaid.ok ⟨by kernel_rfl, by kernel_rfl, by kernel_rfl, by kernel_rfl, trivial⟩
noncomputable def ti36 : TI := ⟨.slice 5, 1, 24, .ns, []⟩
theorem ti36_ok : TiOk Tryz.prog 36 ti36 := TiSaid.ok ⟨by kernel_rfl, by kernel_rfl, by kernel_rfl, by kernel_rfl, trivial⟩
noncomputable def ti37 : TI := ⟨.slice 101, 1, 24, .ns, []⟩
theorem ti37_ok : TiOk Tryz.prog 37 ti37 := TiSaid.ok ⟨by kernel_rfl, by kernel_rfl, by kernel_rfl, by kernel_rfl, trivial⟩
noncomputable def ti39 : TI := ⟨.struct #[⟨ "Status", 5, 0, false, "", "", 0⟩, ⟨ "E", 31, 1, false, "", "", 8⟩, ⟨ "Trap", 5, 2, false, "", "", 16⟩, ⟨ "Gas", 35, 3, false, "", "", 24⟩, ⟨ "Addr", 23, 4, false, "", "", 32⟩, ⟨ "Ret", 36, 12, false, "", "", 40⟩, ⟨ "Events", 37, 13, false, "", "", 64⟩], 14, 88, .agg [.int .u8 0, .int .i64 0, .int .u8 0, .int .u64 0, .int .u8 0, .int .u8 0, .int .u8 0, .int .u8 0, .int .u8 0, .int .u8 0, .int .u8 0, .int .u8 0, .ns, .ns], [(0, 1), (1, 1), (2, 1), (3, 1), (4, 8), (12, 1), (13, 1)]⟩
theorem ti39_ok : TiOk Tryz.prog 39 ti39 := TiSaid.ok ⟨by kernel_rfl, by kernel_rfl, by kernel_rfl, by kernel_rfl, (by change (_ : Option (List (Nat × Nat))) = _; kernel_rfl)⟩
noncomputable def ti44 : TI := ⟨.struct #[⟨ "Kind", 5, 0, false, "", "", 0⟩, ⟨ "From", 23, 1, false, "", "", 1⟩, ⟨ "To", 23, 9, false, "", "", 9⟩, ⟨ "Nonce", 35, 17, false, "", "", 24⟩, ⟨ "Value", 35, 18, false, "", "", 32⟩, ⟨ "Gas", 35, 19, false, "", "", 40⟩, ⟨ "Price", 35, 20, false, "", "", 48⟩, ⟨ "Data", 36, 21, false, "", "", 56⟩], 22, 80, .agg [.int .u8 0, .int .u8 0, .int .u8 0, .int .u8 0, .int .u8 0, .int .u8 0, .int .u8 0, .int .u8 0, .int .u8 0, .int .u8 0, .int .u8 0, .int .u8 0, .int .u8 0, .int .u8 0, .int .u8 0, .int .u8 0, .int .u8 0, .int .u64 0, .int .u64 0, .int .u64 0, .int .u64 0, .ns], [(0, 1), (1, 8), (9, 8), (17, 1), (18, 1), (19, 1), (20, 1), (21, 1)]⟩
theorem ti44_ok : TiOk Tryz.prog 44 ti44 := TiSaid.ok ⟨by kernel_rfl, by kernel_rfl, by kernel_rfl, by kernel_rfl, (by change (_ : Option (List (Nat × Nat))) = _; kernel_rfl)⟩
noncomputable def ti45 : TI := ⟨.slice 139, 1, 24, .ns, []⟩
theorem ti45_ok : TiOk Tryz.prog 45 ti45 := TiSaid.ok ⟨by kernel_rfl, by kernel_rfl, by kernel_rfl, by kernel_rfl, trivial⟩
noncomputable def ti47 : TI := ⟨.struct #[⟨ "Addr", 23, 0, false, "", "", 0⟩, ⟨ "Balance", 35, 8, false, "", "", 8⟩, ⟨ "Nonce", 35, 9, false, "", "", 16⟩, ⟨ "Code", 36, 10, false, "", "", 24⟩, ⟨ "Storage", 45, 11, false, "", "", 48⟩], 12, 72, .agg [.int .u8 0, .int .u8 0, .int .u8 0, .int .u8 0, .int .u8 0, .int .u8 0, .int .u8 0, .int .u8 0, .int .u64 0, .int .u64 0, .ns, .ns], [(0, 8), (8, 1), (9, 1), (10, 1), (11, 1)]⟩
theorem ti47_ok : TiOk Tryz.prog 47 ti47 := TiSaid.ok ⟨by kernel_rfl, by kernel_rfl, by kernel_rfl, by kernel_rfl, (by change (_ : Option (List (Nat × Nat))) = _; kernel_rfl)⟩
noncomputable def ti48 : TI := ⟨.slice 39, 1, 24, .ns, []⟩
theorem ti48_ok : TiOk Tryz.prog 48 ti48 := TiSaid.ok ⟨by kernel_rfl, by kernel_rfl, by kernel_rfl, by kernel_rfl, trivial⟩
noncomputable def ti54 : TI := ⟨.pointer 78, 1, 8, .np, []⟩
theorem ti54_ok : TiOk Tryz.prog 54 ti54 := TiSaid.ok ⟨by kernel_rfl, by kernel_rfl, by kernel_rfl, by kernel_rfl, trivial⟩
noncomputable def ti61 : TI := ⟨.struct #[⟨ "w", 54, 0, false, "", "gabelle/chain", 0⟩, ⟨ "collector", 23, 1, false, "", "gabelle/chain", 8⟩, ⟨ "l", 48, 9, false, "", "gabelle/chain", 16⟩], 10, 40, .agg [.np, .int .u8 0, .int .u8 0, .int .u8 0, .int .u8 0, .int .u8 0, .int .u8 0, .int .u8 0, .int .u8 0, .ns], [(0, 1), (1, 8), (9, 1)]⟩
theorem ti61_ok : TiOk Tryz.prog 61 ti61 := TiSaid.ok ⟨by kernel_rfl, by kernel_rfl, by kernel_rfl, by kernel_rfl, (by change (_ : Option (List (Nat × Nat))) = _; kernel_rfl)⟩
noncomputable def ti69 : TI := ⟨.pointer 116, 1, 8, .np, []⟩
theorem ti69_ok : TiOk Tryz.prog 69 ti69 := TiSaid.ok ⟨by kernel_rfl, by kernel_rfl, by kernel_rfl, by kernel_rfl, trivial⟩
noncomputable def ti71 : TI := ⟨.pointer 119, 1, 8, .np, []⟩
theorem ti71_ok : TiOk Tryz.prog 71 ti71 := TiSaid.ok ⟨by kernel_rfl, by kernel_rfl, by kernel_rfl, by kernel_rfl, trivial⟩
noncomputable def ti73 : TI := ⟨.pointer 122, 1, 8, .np, []⟩
theorem ti73_ok : TiOk Tryz.prog 73 ti73 := TiSaid.ok ⟨by kernel_rfl, by kernel_rfl, by kernel_rfl, by kernel_rfl, trivial⟩
noncomputable def ti75 : TI := ⟨.slice 112, 1, 24, .ns, []⟩
theorem ti75_ok : TiOk Tryz.prog 75 ti75 := TiSaid.ok ⟨by kernel_rfl, by kernel_rfl, by kernel_rfl, by kernel_rfl, trivial⟩
noncomputable def ti76 : TI := ⟨.slice 3, 1, 24, .ns, []⟩
theorem ti76_ok : TiOk Tryz.prog 76 ti76 := TiSaid.ok ⟨by kernel_rfl, by kernel_rfl, by kernel_rfl, by kernel_rfl, trivial⟩
noncomputable def ti78 : TI := ⟨.struct #[⟨ "collector", 23, 0, false, "", "gabelle/world", 0⟩, ⟨ "money", 69, 8, false, "", "gabelle/world", 8⟩, ⟨ "store", 71, 9, false, "", "gabelle/world", 16⟩, ⟨ "book", 73, 10, false, "", "gabelle/world", 24⟩, ⟨ "undo", 75, 11, false, "", "gabelle/world", 32⟩, ⟨ "marks", 76, 12, false, "", "gabelle/world", 56⟩], 13, 80, .agg [.int .u8 0, .int .u8 0, .int .u8 0, .int .u8 0, .int .u8 0, .int .u8 0, .int .u8 0, .int .u8 0, .np, .np, .np, .ns, .ns], [(0, 8), (8, 1), (9, 1), (10, 1), (11, 1), (12, 1)]⟩
theorem ti78_ok : TiOk Tryz.prog 78 ti78 := TiSaid.ok ⟨by kernel_rfl, by kernel_rfl, by kernel_rfl, by kernel_rfl, (by change (_ : Option (List (Nat × Nat))) = _; kernel_rfl)⟩
noncomputable def ti83 : TI := ⟨.int .u64, 1, 8, .int .u64 0, []⟩
theorem ti83_ok : TiOk Tryz.prog 83 ti83 := TiSaid.ok ⟨by kernel_rfl, by kernel_rfl, by kernel_rfl, by kernel_rfl, trivial⟩
noncomputable def ti85 : TI := ⟨.pointer 35, 1, 8, .np, []⟩
theorem ti85_ok : TiOk Tryz.prog 85 ti85 := TiSaid.ok ⟨by kernel_rfl, by kernel_rfl, by kernel_rfl, by kernel_rfl, trivial⟩
noncomputable def ti86 : TI := ⟨.array 4 85, 4, 32, .agg [.np, .np, .np, .np], []⟩
theorem ti86_ok : TiOk Tryz.prog 86 ti86 := TiSaid.ok ⟨by kernel_rfl, by kernel_rfl, by kernel_rfl, by kernel_rfl, trivial⟩
noncomputable def ti89 : TI := ⟨.slice 23, 1, 24, .ns, []⟩
theorem ti89_ok : TiOk Tryz.prog 89 ti89 := TiSaid.ok ⟨by kernel_rfl, by kernel_rfl, by kernel_rfl, by kernel_rfl, trivial⟩
noncomputable def ti101 : TI := ⟨.struct #[⟨ "From", 23, 0, false, "", "", 0⟩, ⟨ "B", 36, 8, false, "", "", 8⟩], 9, 32, .agg [.int .u8 0, .int .u8 0, .int .u8 0, .int .u8 0, .int .u8 0, .int .u8 0, .int .u8 0, .int .u8 0, .ns], [(0, 8), (8, 1)]⟩
theorem ti101_ok : TiOk Tryz.prog 101 ti101 := TiSaid.ok ⟨by kernel_rfl, by kernel_rfl, by kernel_rfl, by kernel_rfl, (by change (_ : Option (List (Nat × Nat))) = _; kernel_rfl)⟩
noncomputable def ti106 : TI := ⟨.struct #[⟨ "w", 54, 0, false, "", "gabelle/proc", 0⟩, ⟨ "t", 44, 1, false, "", "gabelle/proc", 8⟩, ⟨ "left", 35, 23, false, "", "gabelle/proc", 88⟩, ⟨ "r", 39, 24, false, "", "gabelle/proc", 96⟩], 38, 184, .agg [.np, .int .u8 0, .int .u8 0, .int .u8 0, .int .u8 0, .int .u8 0, .int .u8 0, .int .u8 0, .int .u8 0, .int .u8 0, .int .u8 0, .int .u8 0, .int .u8 0, .int .u8 0, .int .u8 0, .int .u8 0, .int .u8 0, .int .u8 0, .int .u64 0, .int .u64 0, .int .u64 0, .int .u64 0, .ns, .int .u64 0, .int .u8 0, .int .i64 0, .int .u8 0, .int .u64 0, .int .u8 0, .int .u8 0, .int .u8 0, .int .u8 0, .int .u8 0, .int .u8 0, .int .u8 0, .int .u8 0, .ns, .ns], [(0, 1), (1, 22), (23, 1), (24, 14)]⟩
theorem ti106_ok : TiOk Tryz.prog 106 ti106 := TiSaid.ok ⟨by kernel_rfl, by kernel_rfl, by kernel_rfl, by kernel_rfl, (by change (_ : Option (List (Nat × Nat))) = _; kernel_rfl)⟩
noncomputable def ti112 : TI := ⟨.func #[54] #[] false, 1, 8, .nf, []⟩
theorem ti112_ok : TiOk Tryz.prog 112 ti112 := TiSaid.ok ⟨by kernel_rfl, by kernel_rfl, by kernel_rfl, by kernel_rfl, trivial⟩
noncomputable def ti114 : TI := ⟨.map 23 124, 1, 8, .nm, []⟩
theorem ti114_ok : TiOk Tryz.prog 114 ti114 := TiSaid.ok ⟨by kernel_rfl, by kernel_rfl, by kernel_rfl, by kernel_rfl, trivial⟩
noncomputable def ti116 : TI := ⟨.struct #[⟨ "of", 114, 0, false, "", "gabelle/acct", 0⟩], 1, 8, .agg [.nm], [(0, 1)]⟩
theorem ti116_ok : TiOk Tryz.prog 116 ti116 := TiSaid.ok ⟨by kernel_rfl, by kernel_rfl, by kernel_rfl, by kernel_rfl, (by change (_ : Option (List (Nat × Nat))) = _; kernel_rfl)⟩
noncomputable def ti117 : TI := ⟨.map 23 134, 1, 8, .nm, []⟩
theorem ti117_ok : TiOk Tryz.prog 117 ti117 := TiSaid.ok ⟨by kernel_rfl, by kernel_rfl, by kernel_rfl, by kernel_rfl, trivial⟩
noncomputable def ti119 : TI := ⟨.struct #[⟨ "of", 117, 0, false, "", "gabelle/kv", 0⟩], 1, 8, .agg [.nm], [(0, 1)]⟩
theorem ti119_ok : TiOk Tryz.prog 119 ti119 := TiSaid.ok ⟨by kernel_rfl, by kernel_rfl, by kernel_rfl, by kernel_rfl, (by change (_ : Option (List (Nat × Nat))) = _; kernel_rfl)⟩
noncomputable def ti120 : TI := ⟨.map 23 36, 1, 8, .nm, []⟩
theorem ti120_ok : TiOk Tryz.prog 120 ti120 := TiSaid.ok ⟨by kernel_rfl, by kernel_rfl, by kernel_rfl, by kernel_rfl, trivial⟩
noncomputable def ti122 : TI := ⟨.struct #[⟨ "l", 37, 0, false, "", "gabelle/book", 0⟩, ⟨ "codes", 120, 1, false, "", "gabelle/book", 24⟩], 2, 32, .agg [.ns, .nm], [(0, 1), (1, 1)]⟩
theorem ti122_ok : TiOk Tryz.prog 122 ti122 := TiSaid.ok ⟨by kernel_rfl, by kernel_rfl, by kernel_rfl, by kernel_rfl, (by change (_ : Option (List (Nat × Nat))) = _; kernel_rfl)⟩
noncomputable def ti124 : TI := ⟨.struct #[⟨ "balance", 35, 0, false, "", "gabelle/acct", 0⟩, ⟨ "nonce", 35, 1, false, "", "gabelle/acct", 8⟩], 2, 16, .agg [.int .u64 0, .int .u64 0], [(0, 1), (1, 1)]⟩
theorem ti124_ok : TiOk Tryz.prog 124 ti124 := TiSaid.ok ⟨by kernel_rfl, by kernel_rfl, by kernel_rfl, by kernel_rfl, (by change (_ : Option (List (Nat × Nat))) = _; kernel_rfl)⟩
noncomputable def ti127 : TI := ⟨.slice 89, 1, 24, .ns, []⟩
theorem ti127_ok : TiOk Tryz.prog 127 ti127 := TiSaid.ok ⟨by kernel_rfl, by kernel_rfl, by kernel_rfl, by kernel_rfl, trivial⟩
noncomputable def ti134 : TI := ⟨.map 9 36, 1, 8, .nm, []⟩
theorem ti134_ok : TiOk Tryz.prog 134 ti134 := TiSaid.ok ⟨by kernel_rfl, by kernel_rfl, by kernel_rfl, by kernel_rfl, trivial⟩
noncomputable def ti139 : TI := ⟨.struct #[⟨ "Key", 36, 0, false, "", "", 0⟩, ⟨ "Value", 36, 1, false, "", "", 24⟩], 2, 48, .agg [.ns, .ns], [(0, 1), (1, 1)]⟩
theorem ti139_ok : TiOk Tryz.prog 139 ti139 := TiSaid.ok ⟨by kernel_rfl, by kernel_rfl, by kernel_rfl, by kernel_rfl, (by change (_ : Option (List (Nat × Nat))) = _; kernel_rfl)⟩
noncomputable def ti162 : TI := ⟨.int .i64, 1, 8, .int .i64 0, []⟩
theorem ti162_ok : TiOk Tryz.prog 162 ti162 := TiSaid.ok ⟨by kernel_rfl, by kernel_rfl, by kernel_rfl, by kernel_rfl, trivial⟩
noncomputable def ti170 : TI := ⟨.int .u32, 1, 4, .int .u32 0, []⟩
theorem ti170_ok : TiOk Tryz.prog 170 ti170 := TiSaid.ok ⟨by kernel_rfl, by kernel_rfl, by kernel_rfl, by kernel_rfl, trivial⟩
noncomputable def ti176 : TI := ⟨.slice 178, 1, 24, .ns, []⟩
theorem ti176_ok : TiOk Tryz.prog 176 ti176 := TiSaid.ok ⟨by kernel_rfl, by kernel_rfl, by kernel_rfl, by kernel_rfl, trivial⟩
noncomputable def ti178 : TI := ⟨.struct #[⟨ "a", 23, 0, false, "", "gabelle/world", 0⟩, ⟨ "balance", 35, 8, false, "", "gabelle/world", 8⟩, ⟨ "nonce", 35, 9, false, "", "gabelle/world", 16⟩], 10, 24, .agg [.int .u8 0, .int .u8 0, .int .u8 0, .int .u8 0, .int .u8 0, .int .u8 0, .int .u8 0, .int .u8 0, .int .u64 0, .int .u64 0], [(0, 8), (8, 1), (9, 1)]⟩
theorem ti178_ok : TiOk Tryz.prog 178 ti178 := TiSaid.ok ⟨by kernel_rfl, by kernel_rfl, by kernel_rfl, by kernel_rfl, (by change (_ : Option (List (Nat × Nat))) = _; kernel_rfl)⟩
noncomputable def tiT : BT TI := (.nd (.nd (.nd (.nd (.nd (.nd .lf 3 ti3 .lf) 5 ti5 .lf) 9 ti9 (.nd (.nd .lf 23 ti23 .lf) 24 ti24 .lf)) 26 ti26 (.nd (.nd (.nd .lf 27 ti27 .lf) 30 ti30 .lf) 31 ti31 (.nd (.nd .lf 35 ti35 .lf) 36 ti36 .lf))) 37 ti37 (.nd (.nd (.nd (.nd .lf 39 ti39 .lf) 44 ti44 .lf) 45 ti45 (.nd (.nd .lf 47 ti47 .lf) 48 ti48 .lf)) 54 ti54 (.nd (.nd (.nd .lf 61 ti61 .lf) 69 ti69 .lf) 71 ti71 (.nd (.nd .lf 73 ti73 .lf) 75 ti75 .lf)))) 76 ti76 (.nd (.nd (.nd (.nd (.nd .lf 78 ti78 .lf) 83 ti83 .lf) 85 ti85 (.nd (.nd .lf 86 ti86 .lf) 89 ti89 .lf)) 101 ti101 (.nd (.nd (.nd .lf 106 ti106 .lf) 112 ti112 .lf) 114 ti114 (.nd (.nd .lf 116 ti116 .lf) 117 ti117 .lf))) 119 ti119 (.nd (.nd (.nd (.nd .lf 120 ti120 .lf) 122 ti122 .lf) 124 ti124 (.nd (.nd .lf 127 ti127 .lf) 134 ti134 .lf)) 139 ti139 (.nd (.nd (.nd .lf 162 ti162 .lf) 170 ti170 .lf) 176 ti176 (.nd .lf 178 ti178 .lf)))))
theorem tiT_ok : tiT.All (TiOk Tryz.prog) := ⟨⟨⟨⟨⟨⟨trivial, ti3_ok, trivial⟩, ti5_ok, trivial⟩, ti9_ok, ⟨⟨trivial, ti23_ok, trivial⟩, ti24_ok, trivial⟩⟩, ti26_ok, ⟨⟨⟨trivial, ti27_ok, trivial⟩, ti30_ok, trivial⟩, ti31_ok, ⟨⟨trivial, ti35_ok, trivial⟩, ti36_ok, trivial⟩⟩⟩, ti37_ok, ⟨⟨⟨⟨trivial, ti39_ok, trivial⟩, ti44_ok, trivial⟩, ti45_ok, ⟨⟨trivial, ti47_ok, trivial⟩, ti48_ok, trivial⟩⟩, ti54_ok, ⟨⟨⟨trivial, ti61_ok, trivial⟩, ti69_ok, trivial⟩, ti71_ok, ⟨⟨trivial, ti73_ok, trivial⟩, ti75_ok, trivial⟩⟩⟩⟩, ti76_ok, ⟨⟨⟨⟨⟨trivial, ti78_ok, trivial⟩, ti83_ok, trivial⟩, ti85_ok, ⟨⟨trivial, ti86_ok, trivial⟩, ti89_ok, trivial⟩⟩, ti101_ok, ⟨⟨⟨trivial, ti106_ok, trivial⟩, ti112_ok, trivial⟩, ti114_ok, ⟨⟨trivial, ti116_ok, trivial⟩, ti117_ok, trivial⟩⟩⟩, ti119_ok, ⟨⟨⟨⟨trivial, ti120_ok, trivial⟩, ti122_ok, trivial⟩, ti124_ok, ⟨⟨trivial, ti127_ok, trivial⟩, ti134_ok, trivial⟩⟩, ti139_ok, ⟨⟨⟨trivial, ti162_ok, trivial⟩, ti170_ok, trivial⟩, ti176_ok, ⟨trivial, ti178_ok, trivial⟩⟩⟩⟩⟩
noncomputable def fnT : BT Func := (.nd (.nd (.nd (.nd (.nd (.nd (.nd .lf 3 Tryz.f3 .lf) 4 Tryz.f4 .lf) 5 Tryz.f5 (.nd (.nd .lf 6 Tryz.f6 .lf) 7 Tryz.f7 .lf)) 8 Tryz.f8 (.nd (.nd (.nd .lf 9 Tryz.f9 .lf) 10 Tryz.f10 .lf) 11 Tryz.f11 (.nd (.nd .lf 12 Tryz.f12 .lf) 13 Tryz.f13 .lf))) 14 Tryz.f14 (.nd (.nd (.nd (.nd .lf 15 Tryz.f15 .lf) 16 Tryz.f16 .lf) 17 Tryz.f17 (.nd (.nd .lf 18 Tryz.f18 .lf) 19 Tryz.f19 .lf)) 20 Tryz.f20 (.nd (.nd (.nd .lf 21 Tryz.f21 .lf) 22 Tryz.f22 .lf) 24 Tryz.f24 (.nd (.nd .lf 25 Tryz.f25 .lf) 26 Tryz.f26 .lf)))) 27 Tryz.f27 (.nd (.nd (.nd (.nd (.nd .lf 28 Tryz.f28 .lf) 29 Tryz.f29 .lf) 30 Tryz.f30 (.nd (.nd .lf 31 Tryz.f31 .lf) 32 Tryz.f32 .lf)) 33 Tryz.f33 (.nd (.nd (.nd .lf 34 Tryz.f34 .lf) 35 Tryz.f35 .lf) 36 Tryz.f36 (.nd (.nd .lf 37 Tryz.f37 .lf) 38 Tryz.f38 .lf))) 39 Tryz.f39 (.nd (.nd (.nd (.nd .lf 40 Tryz.f40 .lf) 41 Tryz.f41 .lf) 42 Tryz.f42 (.nd (.nd .lf 43 Tryz.f43 .lf) 44 Tryz.f44 .lf)) 45 Tryz.f45 (.nd (.nd (.nd .lf 46 Tryz.f46 .lf) 47 Tryz.f47 .lf) 48 Tryz.f48 (.nd (.nd .lf 49 Tryz.f49 .lf) 50 Tryz.f50 .lf))))) 51 Tryz.f51 (.nd (.nd (.nd (.nd (.nd (.nd .lf 52 Tryz.f52 .lf) 55 Tryz.f55 .lf) 56 Tryz.f56 (.nd (.nd .lf 58 Tryz.f58 .lf) 64 Tryz.f64 .lf)) 65 Tryz.f65 (.nd (.nd (.nd .lf 66 Tryz.f66 .lf) 67 Tryz.f67 .lf) 68 Tryz.f68 (.nd (.nd .lf 69 Tryz.f69 .lf) 70 Tryz.f70 .lf))) 71 Tryz.f71 (.nd (.nd (.nd (.nd .lf 73 Tryz.f73 .lf) 75 Tryz.f75 .lf) 76 Tryz.f76 (.nd (.nd .lf 77 Tryz.f77 .lf) 78 Tryz.f78 .lf)) 79 Tryz.f79 (.nd (.nd (.nd .lf 81 Tryz.f81 .lf) 82 Tryz.f82 .lf) 83 Tryz.f83 (.nd (.nd .lf 84 Tryz.f84 .lf) 85 Tryz.f85 .lf)))) 86 Tryz.f86 (.nd (.nd (.nd (.nd (.nd .lf 87 Tryz.f87 .lf) 88 Tryz.f88 .lf) 89 Tryz.f89 (.nd (.nd .lf 90 Tryz.f90 .lf) 95 Tryz.f95 .lf)) 97 Tryz.f97 (.nd (.nd (.nd .lf 98 Tryz.f98 .lf) 102 Tryz.f102 .lf) 103 Tryz.f103 (.nd (.nd .lf 104 Tryz.f104 .lf) 105 Tryz.f105 .lf))) 106 Tryz.f106 (.nd (.nd (.nd (.nd .lf 115 Tryz.f115 .lf) 116 Tryz.f116 .lf) 117 Tryz.f117 (.nd (.nd .lf 118 Tryz.f118 .lf) 119 Tryz.f119 .lf)) 121 Tryz.f121 (.nd (.nd (.nd .lf 122 Tryz.f122 .lf) 123 Tryz.f123 .lf) 137 Tryz.f137 (.nd (.nd .lf 139 Tryz.f139 .lf) 145 Tryz.f145 .lf))))))
theorem fnT_ok : fnT.All (fun f g => Tryz.prog.funcs[f]? = some g) := ⟨⟨⟨⟨⟨⟨⟨trivial, Tryz.func3, trivial⟩, Tryz.func4, trivial⟩, Tryz.func5, ⟨⟨trivial, Tryz.func6, trivial⟩, Tryz.func7, trivial⟩⟩, Tryz.func8, ⟨⟨⟨trivial, Tryz.func9, trivial⟩, Tryz.func10, trivial⟩, Tryz.func11, ⟨⟨trivial, Tryz.func12, trivial⟩, Tryz.func13, trivial⟩⟩⟩, Tryz.func14, ⟨⟨⟨⟨trivial, Tryz.func15, trivial⟩, Tryz.func16, trivial⟩, Tryz.func17, ⟨⟨trivial, Tryz.func18, trivial⟩, Tryz.func19, trivial⟩⟩, Tryz.func20, ⟨⟨⟨trivial, Tryz.func21, trivial⟩, Tryz.func22, trivial⟩, Tryz.func24, ⟨⟨trivial, Tryz.func25, trivial⟩, Tryz.func26, trivial⟩⟩⟩⟩, Tryz.func27, ⟨⟨⟨⟨⟨trivial, Tryz.func28, trivial⟩, Tryz.func29, trivial⟩, Tryz.func30, ⟨⟨trivial, Tryz.func31, trivial⟩, Tryz.func32, trivial⟩⟩, Tryz.func33, ⟨⟨⟨trivial, Tryz.func34, trivial⟩, Tryz.func35, trivial⟩, Tryz.func36, ⟨⟨trivial, Tryz.func37, trivial⟩, Tryz.func38, trivial⟩⟩⟩, Tryz.func39, ⟨⟨⟨⟨trivial, Tryz.func40, trivial⟩, Tryz.func41, trivial⟩, Tryz.func42, ⟨⟨trivial, Tryz.func43, trivial⟩, Tryz.func44, trivial⟩⟩, Tryz.func45, ⟨⟨⟨trivial, Tryz.func46, trivial⟩, Tryz.func47, trivial⟩, Tryz.func48, ⟨⟨trivial, Tryz.func49, trivial⟩, Tryz.func50, trivial⟩⟩⟩⟩⟩, Tryz.func51, ⟨⟨⟨⟨⟨⟨trivial, Tryz.func52, trivial⟩, Tryz.func55, trivial⟩, Tryz.func56, ⟨⟨trivial, Tryz.func58, trivial⟩, Tryz.func64, trivial⟩⟩, Tryz.func65, ⟨⟨⟨trivial, Tryz.func66, trivial⟩, Tryz.func67, trivial⟩, Tryz.func68, ⟨⟨trivial, Tryz.func69, trivial⟩, Tryz.func70, trivial⟩⟩⟩, Tryz.func71, ⟨⟨⟨⟨trivial, Tryz.func73, trivial⟩, Tryz.func75, trivial⟩, Tryz.func76, ⟨⟨trivial, Tryz.func77, trivial⟩, Tryz.func78, trivial⟩⟩, Tryz.func79, ⟨⟨⟨trivial, Tryz.func81, trivial⟩, Tryz.func82, trivial⟩, Tryz.func83, ⟨⟨trivial, Tryz.func84, trivial⟩, Tryz.func85, trivial⟩⟩⟩⟩, Tryz.func86, ⟨⟨⟨⟨⟨trivial, Tryz.func87, trivial⟩, Tryz.func88, trivial⟩, Tryz.func89, ⟨⟨trivial, Tryz.func90, trivial⟩, Tryz.func95, trivial⟩⟩, Tryz.func97, ⟨⟨⟨trivial, Tryz.func98, trivial⟩, Tryz.func102, trivial⟩, Tryz.func103, ⟨⟨trivial, Tryz.func104, trivial⟩, Tryz.func105, trivial⟩⟩⟩, Tryz.func106, ⟨⟨⟨⟨trivial, Tryz.func115, trivial⟩, Tryz.func116, trivial⟩, Tryz.func117, ⟨⟨trivial, Tryz.func118, trivial⟩, Tryz.func119, trivial⟩⟩, Tryz.func121, ⟨⟨⟨trivial, Tryz.func122, trivial⟩, Tryz.func123, trivial⟩, Tryz.func137, ⟨⟨trivial, Tryz.func139, trivial⟩, Tryz.func145, trivial⟩⟩⟩⟩⟩⟩
theorem fnT_names : fnT.All (fun _ g => g.name ≠ "runtime.NumGoroutine") := ⟨⟨⟨⟨⟨⟨⟨trivial, (by decide), trivial⟩, (by decide), trivial⟩, (by decide), ⟨⟨trivial, (by decide), trivial⟩, (by decide), trivial⟩⟩, (by decide), ⟨⟨⟨trivial, (by decide), trivial⟩, (by decide), trivial⟩, (by decide), ⟨⟨trivial, (by decide), trivial⟩, (by decide), trivial⟩⟩⟩, (by decide), ⟨⟨⟨⟨trivial, (by decide), trivial⟩, (by decide), trivial⟩, (by decide), ⟨⟨trivial, (by decide), trivial⟩, (by decide), trivial⟩⟩, (by decide), ⟨⟨⟨trivial, (by decide), trivial⟩, (by decide), trivial⟩, (by decide), ⟨⟨trivial, (by decide), trivial⟩, (by decide), trivial⟩⟩⟩⟩, (by decide), ⟨⟨⟨⟨⟨trivial, (by decide), trivial⟩, (by decide), trivial⟩, (by decide), ⟨⟨trivial, (by decide), trivial⟩, (by decide), trivial⟩⟩, (by decide), ⟨⟨⟨trivial, (by decide), trivial⟩, (by decide), trivial⟩, (by decide), ⟨⟨trivial, (by decide), trivial⟩, (by decide), trivial⟩⟩⟩, (by decide), ⟨⟨⟨⟨trivial, (by decide), trivial⟩, (by decide), trivial⟩, (by decide), ⟨⟨trivial, (by decide), trivial⟩, (by decide), trivial⟩⟩, (by decide), ⟨⟨⟨trivial, (by decide), trivial⟩, (by decide), trivial⟩, (by decide), ⟨⟨trivial, (by decide), trivial⟩, (by decide), trivial⟩⟩⟩⟩⟩, (by decide), ⟨⟨⟨⟨⟨⟨trivial, (by decide), trivial⟩, (by decide), trivial⟩, (by decide), ⟨⟨trivial, (by decide), trivial⟩, (by decide), trivial⟩⟩, (by decide), ⟨⟨⟨trivial, (by decide), trivial⟩, (by decide), trivial⟩, (by decide), ⟨⟨trivial, (by decide), trivial⟩, (by decide), trivial⟩⟩⟩, (by decide), ⟨⟨⟨⟨trivial, (by decide), trivial⟩, (by decide), trivial⟩, (by decide), ⟨⟨trivial, (by decide), trivial⟩, (by decide), trivial⟩⟩, (by decide), ⟨⟨⟨trivial, (by decide), trivial⟩, (by decide), trivial⟩, (by decide), ⟨⟨trivial, (by decide), trivial⟩, (by decide), trivial⟩⟩⟩⟩, (by decide), ⟨⟨⟨⟨⟨trivial, (by decide), trivial⟩, (by decide), trivial⟩, (by decide), ⟨⟨trivial, (by decide), trivial⟩, (by decide), trivial⟩⟩, (by decide), ⟨⟨⟨trivial, (by decide), trivial⟩, (by decide), trivial⟩, (by decide), ⟨⟨trivial, (by decide), trivial⟩, (by decide), trivial⟩⟩⟩, (by decide), ⟨⟨⟨⟨trivial, (by decide), trivial⟩, (by decide), trivial⟩, (by decide), ⟨⟨trivial, (by decide), trivial⟩, (by decide), trivial⟩⟩, (by decide), ⟨⟨⟨trivial, (by decide), trivial⟩, (by decide), trivial⟩, (by decide), ⟨⟨trivial, (by decide), trivial⟩, (by decide), trivial⟩⟩⟩⟩⟩⟩
noncomputable def dt : Dt := ⟨Tryz.prog, tiT.get, fnT.get⟩
theorem dt_ok : dt.Ok := ⟨fun t i h => tiT_ok.get h, fun f g h => fnT_ok.get h, by kernel_rfl⟩
theorem dt_names : FnOk dt := ⟨fun _ _ h => fnT_names.get h⟩
end Go.Proofs.YtcoagfnkcbfbaaaGreatDoor
