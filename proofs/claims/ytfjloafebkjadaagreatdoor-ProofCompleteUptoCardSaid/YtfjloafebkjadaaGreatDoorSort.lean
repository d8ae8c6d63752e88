/- The library's sort by the program's comparison of literals, by the shelf's contract. -/
import Derived.Test.YtfjloafebkjadaaGreatDoorAISort
import Derived.Shelf.SlLaysF
import Derived.Shelf.SlSortCmp.NoneTotal
import Derived.Shelf.SlGeneric
import Derived.KernelRfl
import Derived.WalkKit
import Derived.Test.YtfjloafebkjadaaGreatDoorChecked
namespace Go.Proofs.YtfjloafebkjadaaGreatDoor
namespace Pf
open Go Go.AI Go.Proofs Go.Shelf
def sortL_ren : Go.Shelf.Ren := ⟨fun | 6 => 126 | 15 => 145 | 14 => 144 | 28 => 159 | 29 => 160 | 20 => 151 | 21 => 152 | 22 => 153 | 23 => 154 | 24 => 155 | 25 => 156 | 26 => 157 | 27 => 158 | 46 => 165 | 47 => 166 | 48 => 167 | 49 => 168 | 50 => 169 | 57 => 172 | n => n, fun | 22 => 35 | 24 => 3 | 25 => 179 | 3 => 3 | 39 => 154 | 0 => 0 | 53 => 211 | 55 => 196 | 4 => 4 | 46 => 205 | 45 => 204 | 50 => 142 | 5 => 5 | 9 => 9 | 66 => 215 | 70 => 219 | 76 => 221 | 77 => 222 | n => n, fun n => n⟩
theorem sortL : SlLaysF.n6 Tryz.prog sortL_ren := {
  mixed := by kernel_rfl,
  f6 := ⟨Tryz.f126.name, by decide, Tryz.func126.trans (congrArg some (by kernel_rfl))⟩,
  f14 := ⟨Tryz.f144.name, by decide, Tryz.func144.trans (congrArg some (by kernel_rfl))⟩,
  f15 := Tryz.func145.trans (congrArg some (by kernel_rfl)),
  f20 := ⟨Tryz.f151.name, by decide, Tryz.func151.trans (congrArg some (by kernel_rfl))⟩,
  f21 := ⟨Tryz.f152.name, by decide, Tryz.func152.trans (congrArg some (by kernel_rfl))⟩,
  f22 := ⟨Tryz.f153.name, by decide, Tryz.func153.trans (congrArg some (by kernel_rfl))⟩,
  f23 := ⟨Tryz.f154.name, by decide, Tryz.func154.trans (congrArg some (by kernel_rfl))⟩,
  f24 := ⟨Tryz.f155.name, by decide, Tryz.func155.trans (congrArg some (by kernel_rfl))⟩,
  f25 := ⟨Tryz.f156.name, by decide, Tryz.func156.trans (congrArg some (by kernel_rfl))⟩,
  f26 := ⟨Tryz.f157.name, by decide, Tryz.func157.trans (congrArg some (by kernel_rfl))⟩,
  f27 := ⟨Tryz.f158.name, by decide, Tryz.func158.trans (congrArg some (by kernel_rfl))⟩,
  f28 := Tryz.func159.trans (congrArg some (by kernel_rfl)),
  f29 := Tryz.func160.trans (congrArg some (by kernel_rfl)),
  f46 := ⟨Tryz.f165.name, by decide, Tryz.func165.trans (congrArg some (by kernel_rfl))⟩,
  f47 := Tryz.func166.trans (congrArg some (by kernel_rfl)),
  f48 := Tryz.func167.trans (congrArg some (by kernel_rfl)),
  f49 := ⟨Tryz.f168.name, by decide, Tryz.func168.trans (congrArg some (by kernel_rfl))⟩,
  f50 := ⟨Tryz.f169.name, by decide, Tryz.func169.trans (congrArg some (by kernel_rfl))⟩,
  f57 := ⟨Tryz.f172.name, by decide, Tryz.func172.trans (congrArg some (by kernel_rfl))⟩,
  t0 := Tryz.underlying0,
  a0 := Tryz.isAgg0,
  z0 := Tryz.sizeOf0,
  v0 := Tryz.zeroValue0,
  t3 := Tryz.underlying3,
  a3 := Tryz.isAgg3,
  z3 := Tryz.sizeOf3,
  v3 := Tryz.zeroValue3,
  t4 := Tryz.underlying4,
  a4 := Tryz.isAgg4,
  z4 := Tryz.sizeOf4,
  v4 := Tryz.zeroValue4,
  t5 := Tryz.underlying5,
  a5 := Tryz.isAgg5,
  z5 := Tryz.sizeOf5,
  v5 := Tryz.zeroValue5,
  t9 := Tryz.underlying9,
  a9 := Tryz.isAgg9,
  z9 := Tryz.sizeOf9,
  v9 := Tryz.zeroValue9,
  t22 := Tryz.underlying35,
  a22 := Tryz.isAgg35,
  z22 := Tryz.sizeOf35,
  v22 := Tryz.zeroValue35,
  a24 := Tryz.isAgg3,
  z24 := Tryz.sizeOf3,
  t25 := Tryz.underlying179,
  a25 := Tryz.isAgg179,
  z25 := Tryz.sizeOf179,
  v25 := Tryz.zeroValue179,
  t39 := Tryz.underlying154,
  a39 := Tryz.isAgg154,
  z39 := Tryz.sizeOf154,
  v39 := Tryz.zeroValue154,
  t45 := Tryz.underlying204,
  a45 := Tryz.isAgg204,
  z45 := Tryz.sizeOf204,
  v45 := Tryz.zeroValue204,
  t46 := Tryz.underlying205,
  a46 := Tryz.isAgg205,
  z46 := Tryz.sizeOf205,
  v46 := Tryz.zeroValue205,
  t50 := Tryz.underlying142,
  a50 := Tryz.isAgg142,
  z50 := Tryz.sizeOf142,
  v50 := Tryz.zeroValue142,
  t53 := Tryz.underlying211,
  a53 := Tryz.isAgg211,
  z53 := Tryz.sizeOf211,
  v53 := Tryz.zeroValue211,
  t55 := Tryz.underlying196,
  a55 := Tryz.isAgg196,
  z55 := Tryz.sizeOf196,
  v55 := Tryz.zeroValue196,
  t66 := Tryz.underlying215,
  a66 := Tryz.isAgg215,
  z66 := Tryz.sizeOf215,
  v66 := Tryz.zeroValue215,
  t70 := Tryz.underlying219,
  a70 := Tryz.isAgg219,
  z70 := Tryz.sizeOf219,
  v70 := Tryz.zeroValue219,
  t76 := Tryz.underlying221,
  a76 := Tryz.isAgg221,
  z76 := Tryz.sizeOf221,
  v76 := Tryz.zeroValue221,
  t77 := Tryz.underlying222,
  a77 := Tryz.isAgg222,
  z77 := Tryz.sizeOf222,
  v77 := Tryz.zeroValue222 }

/-- The comparison: by the amount, then by the sign. -/
theorem cmp127 (x y : Int) (hx : -1000000 ≤ x ∧ x ≤ 1000000) (hy : -1000000 ≤ y ∧ y ≤ 1000000) (W : World) : Calls Tryz.prog 127 #[.int .i64 x, .int .i64 y] W fun e w' => e = .returned (.int .i64 (cfZ x y)) ∧ ∃ q, w' = W.drewN q := by
  go_enter Tryz.func127, Tryz.ntmps127
  go_wp2
  · have h1 : ¬ max x (-x) - max y (-y) = 0 := by simpa using (by assumption : (max x (-x) - max y (-y) != 0) = true)
    go_ret
    exact ⟨by rw [cfZ, if_neg h1]; rfl, 0, rfl⟩
  · have h1 : max x (-x) - max y (-y) = 0 := by simpa using (by assumption : (max x (-x) - max y (-y) != 0) = false)
    go_ret
    exact ⟨by rw [cfZ, if_pos h1]; rfl, 0, rfl⟩
theorem cfZ_lt (x y : Int) : cfZ x y < 0 ↔ max x (-x) < max y (-y) ∨ max x (-x) = max y (-y) ∧ x < y := by
  unfold cfZ; split <;> omega
theorem swoZ : Go.Sort.SWO (ltOf fun x y : Go.AI.Lit => cfZ x.1 y.1) where
  irrefl x := by simp only [ltOf, cfZ_lt, decide_eq_false_iff_not]; omega
  trans x y z h1 h2 := by simp only [ltOf, cfZ_lt, decide_eq_true_eq] at *; omega
  ntrans x y z h1 h2 := by simp only [ltOf, cfZ_lt, decide_eq_false_iff_not] at *; omega
theorem sorter27 : Sorter Tryz.prog 126 127 cfZ where
  no p cap fv w := AnyF.slices_SortFunc_none (P := Tryz.prog) (ρ := sortL_ren) { sortL with } p cap fv w
  row blk off cap d w hH hb hs := by
    have hcmp : CmpReads Tryz.prog 127 #[] encL (fun x y : Go.AI.Lit => cfZ x.1 y.1) blk off d.size w := fun _ _ _ _ x y => cmp127 x.1 y.1 x.2 y.2 _
    exact Any.slices_SortFunc_total sortL encL (fun _ => rfl) (fun x y : Go.AI.Lit => cfZ x.1 y.1) swoZ 127 #[] blk off cap d w (enters_of Tryz.func127 (by kernel_rfl) rfl) hcmp.lays hH hb hs (fun x y h1 h2 => by
      have h1 : ¬ cfZ x.1 y.1 < 0 := of_decide_eq_false h1
      have h2 : ¬ cfZ y.1 x.1 < 0 := of_decide_eq_false h2
      rw [cfZ_lt] at h1 h2
      exact Subtype.ext (by omega))
end Pf
end Go.Proofs.YtfjloafebkjadaaGreatDoor
