/- The library's sort by the program's comparison, by the shelf's contract. -/
import Derived.Test.YtheiionmocfleaaDoorAISort
import Derived.Test.YtheiionmocfleaaDoorSf0
import Derived.Shelf.SlLaysF
import Derived.Shelf.SlSortCmp.NoneTotal
import Derived.Shelf.SlGeneric
import Derived.KernelRfl
import Derived.WalkKit
import Derived.Test.YtheiionmocfleaaDoorChecked
namespace Go.Proofs.YtheiionmocfleaaDoor
namespace Pf
open Go Go.AI Go.Proofs Go.Shelf
def sortL_ren : Go.Shelf.Ren := ⟨fun | 6 => 42 | 15 => 67 | 14 => 66 | 28 => 89 | 29 => 90 | 20 => 81 | 21 => 82 | 22 => 83 | 23 => 84 | 24 => 85 | 25 => 86 | 26 => 87 | 27 => 88 | 46 => 93 | 47 => 94 | 48 => 95 | 49 => 96 | 50 => 97 | 57 => 102 | n => n, fun | 22 => 25 | 24 => 3 | 25 => 70 | 3 => 3 | 39 => 104 | 0 => 0 | 53 => 126 | 55 => 128 | 4 => 4 | 46 => 119 | 45 => 118 | 50 => 123 | 5 => 5 | 9 => 9 | 66 => 132 | 70 => 136 | 76 => 142 | 77 => 143 | n => n, fun n => n⟩
theorem sortL : SlLaysF.n6 Tryd.prog sortL_ren := {
  mixed := by kernel_rfl,
  f6 := ⟨Tryd.f42.name, by decide, Tryd.func42.trans (congrArg some (by kernel_rfl))⟩,
  f14 := ⟨Tryd.f66.name, by decide, Tryd.func66.trans (congrArg some (by kernel_rfl))⟩,
  f15 := Tryd.func67.trans (congrArg some (by kernel_rfl)),
  f20 := ⟨Tryd.f81.name, by decide, Tryd.func81.trans (congrArg some (by kernel_rfl))⟩,
  f21 := ⟨Tryd.f82.name, by decide, Tryd.func82.trans (congrArg some (by kernel_rfl))⟩,
  f22 := ⟨Tryd.f83.name, by decide, Tryd.func83.trans (congrArg some (by kernel_rfl))⟩,
  f23 := ⟨Tryd.f84.name, by decide, Tryd.func84.trans (congrArg some (by kernel_rfl))⟩,
  f24 := ⟨Tryd.f85.name, by decide, Tryd.func85.trans (congrArg some (by kernel_rfl))⟩,
  f25 := ⟨Tryd.f86.name, by decide, Tryd.func86.trans (congrArg some (by kernel_rfl))⟩,
  f26 := ⟨Tryd.f87.name, by decide, Tryd.func87.trans (congrArg some (by kernel_rfl))⟩,
  f27 := ⟨Tryd.f88.name, by decide, Tryd.func88.trans (congrArg some (by kernel_rfl))⟩,
  f28 := Tryd.func89.trans (congrArg some (by kernel_rfl)),
  f29 := Tryd.func90.trans (congrArg some (by kernel_rfl)),
  f46 := ⟨Tryd.f93.name, by decide, Tryd.func93.trans (congrArg some (by kernel_rfl))⟩,
  f47 := Tryd.func94.trans (congrArg some (by kernel_rfl)),
  f48 := Tryd.func95.trans (congrArg some (by kernel_rfl)),
  f49 := ⟨Tryd.f96.name, by decide, Tryd.func96.trans (congrArg some (by kernel_rfl))⟩,
  f50 := ⟨Tryd.f97.name, by decide, Tryd.func97.trans (congrArg some (by kernel_rfl))⟩,
  f57 := ⟨Tryd.f102.name, by decide, Tryd.func102.trans (congrArg some (by kernel_rfl))⟩,
  t0 := Tryd.underlying0,
  a0 := Tryd.isAgg0,
  z0 := Tryd.sizeOf0,
  v0 := Tryd.zeroValue0,
  t3 := Tryd.underlying3,
  a3 := Tryd.isAgg3,
  z3 := Tryd.sizeOf3,
  v3 := Tryd.zeroValue3,
  t4 := Tryd.underlying4,
  a4 := Tryd.isAgg4,
  z4 := Tryd.sizeOf4,
  v4 := Tryd.zeroValue4,
  t5 := Tryd.underlying5,
  a5 := Tryd.isAgg5,
  z5 := Tryd.sizeOf5,
  v5 := Tryd.zeroValue5,
  t9 := Tryd.underlying9,
  a9 := Tryd.isAgg9,
  z9 := Tryd.sizeOf9,
  v9 := Tryd.zeroValue9,
  t22 := Tryd.underlying25,
  a22 := Tryd.isAgg25,
  z22 := Tryd.sizeOf25,
  v22 := Tryd.zeroValue25,
  a24 := Tryd.isAgg3,
  z24 := Tryd.sizeOf3,
  t25 := Tryd.underlying70,
  a25 := Tryd.isAgg70,
  z25 := Tryd.sizeOf70,
  v25 := Tryd.zeroValue70,
  t39 := Tryd.underlying104,
  a39 := Tryd.isAgg104,
  z39 := Tryd.sizeOf104,
  v39 := Tryd.zeroValue104,
  t45 := Tryd.underlying118,
  a45 := Tryd.isAgg118,
  z45 := Tryd.sizeOf118,
  v45 := Tryd.zeroValue118,
  t46 := Tryd.underlying119,
  a46 := Tryd.isAgg119,
  z46 := Tryd.sizeOf119,
  v46 := Tryd.zeroValue119,
  t50 := Tryd.underlying123,
  a50 := Tryd.isAgg123,
  z50 := Tryd.sizeOf123,
  v50 := Tryd.zeroValue123,
  t53 := Tryd.underlying126,
  a53 := Tryd.isAgg126,
  z53 := Tryd.sizeOf126,
  v53 := Tryd.zeroValue126,
  t55 := Tryd.underlying128,
  a55 := Tryd.isAgg128,
  z55 := Tryd.sizeOf128,
  v55 := Tryd.zeroValue128,
  t66 := Tryd.underlying132,
  a66 := Tryd.isAgg132,
  z66 := Tryd.sizeOf132,
  v66 := Tryd.zeroValue132,
  t70 := Tryd.underlying136,
  a70 := Tryd.isAgg136,
  z70 := Tryd.sizeOf136,
  v70 := Tryd.zeroValue136,
  t76 := Tryd.underlying142,
  a76 := Tryd.isAgg142,
  z76 := Tryd.sizeOf142,
  v76 := Tryd.zeroValue142,
  t77 := Tryd.underlying143,
  a77 := Tryd.isAgg143,
  z77 := Tryd.sizeOf143,
  v77 := Tryd.zeroValue143 }
/-- The comparison: by the amount. -/
theorem cmp43 (x y : Int) (hx : -1000000 ≤ x ∧ x ≤ 1000000) (hy : -1000000 ≤ y ∧ y ≤ 1000000) (W : World) : Calls Tryd.prog 43 #[.int .i64 x, .int .i64 y] W fun e w' => e = .returned (.int .i64 (cfA x y)) ∧ ∃ q, w' = W.drewN q := by
  go_enter Tryd.func43, Tryd.ntmps43
  go_wp2
  go_ret
  exact ⟨rfl, 0, rfl⟩
theorem cfA_lt (x y : Int) : cfA x y < 0 ↔ max x (-x) < max y (-y) := by
  unfold cfA; omega
theorem swoA (zs : List Int) : Go.Sort.SWO (ltOf fun x y : LitN zs => cfA x.1 y.1) where
  irrefl x := by simp only [ltOf, cfA_lt, decide_eq_false_iff_not]; omega
  trans x y z h1 h2 := by simp only [ltOf, cfA_lt, decide_eq_true_eq] at *; omega
  ntrans x y z h1 h2 := by simp only [ltOf, cfA_lt, decide_eq_false_iff_not] at *; omega
theorem sorter26 : SorterN Tryd.prog 42 43 cfA where
  no p cap fv w := AnyF.slices_SortFunc_none (P := Tryd.prog) (ρ := sortL_ren) { sortL with } p cap fv w
  row zs hr ht blk off cap d w hH hb hs := by
    have hin : ∀ x : LitN zs, -1000000 ≤ x.1 ∧ x.1 ≤ 1000000 := fun x => by
      rcases x.2 with h | h
      · exact hr _ h
      · rw [h.2]; decide
    have hcmp : CmpReads Tryd.prog 43 #[] (encN zs) (fun x y : LitN zs => cfA x.1 y.1) blk off d.size w := fun _ _ _ _ x y => cmp43 x.1 y.1 (hin x) (hin y) _
    exact Any.slices_SortFunc_total sortL (encN zs) (fun _ => rfl) (fun x y : LitN zs => cfA x.1 y.1) (swoA zs) 43 #[] blk off cap d w (enters_of Tryd.func43 (by kernel_rfl) rfl) hcmp.lays hH hb hs (fun x y h1 h2 => by
      have h1 : ¬ cfA x.1 y.1 < 0 := of_decide_eq_false h1
      have h2 : ¬ cfA y.1 x.1 < 0 := of_decide_eq_false h2
      refine Subtype.ext ?_
      rcases x.2 with hx | hx
      · rcases y.2 with hy | hy
        · exact ht _ hx _ hy h1 h2
        · exact absurd (List.length_pos_of_mem hx) (by rw [congrArg List.length hy.1]; exact Nat.lt_irrefl _)
      · rcases y.2 with hy | hy
        · exact absurd (List.length_pos_of_mem hy) (by rw [congrArg List.length hx.1]; exact Nat.lt_irrefl _)
        · exact hx.2.trans hy.2.symm)
end Pf
end Go.Proofs.YtheiionmocfleaaDoor
