/- The library's sort by the queue's comparison of pairs, by the shelf's contract. -/
import Derived.Test.YtohlmbbmeknfiaaAISortK
import Derived.Shelf.SlLaysF0
import Derived.Shelf.SlSortCmp.NoneTotal
import Derived.Shelf.SlGeneric
import Derived.KernelRfl
import Derived.WalkKit
import Derived.Test.YtohlmbbmeknfiaaChecked
namespace Go.Proofs.Ytohlmbbmeknfiaa
namespace Pf
open Go Go.AI Go.AI.Q Go.Proofs Go.Shelf Go.Sort
def sortL_ren : Go.Shelf.Ren := ⟨fun | 6 => 27 | 15 => 39 | 14 => 38 | 28 => 50 | 29 => 51 | 20 => 42 | 21 => 43 | 22 => 44 | 23 => 45 | 24 => 46 | 25 => 47 | 26 => 48 | 27 => 49 | 46 => 52 | 47 => 53 | 48 => 54 | 49 => 55 | 50 => 56 | 57 => 57 | n => n, fun | 22 => 22 | 24 => 27 | 25 => 64 | 3 => 3 | 39 => 68 | 0 => 0 | 53 => 79 | 55 => 81 | 4 => 4 | 46 => 73 | 45 => 72 | 50 => 33 | 5 => 5 | 9 => 9 | 66 => 82 | 70 => 86 | 76 => 88 | 77 => 89 | n => n, fun n => n⟩
theorem sortL : SlLaysF0.n6 Try.prog sortL_ren := {
  mixed := by kernel_rfl,
  f6 := ⟨Try.f27.name, by decide, Try.func27.trans (congrArg some (by kernel_rfl))⟩,
  f14 := ⟨Try.f38.name, by decide, Try.func38.trans (congrArg some (by kernel_rfl))⟩,
  f15 := Try.func39.trans (congrArg some (by kernel_rfl)),
  f20 := ⟨Try.f42.name, by decide, Try.func42.trans (congrArg some (by kernel_rfl))⟩,
  f21 := ⟨Try.f43.name, by decide, Try.func43.trans (congrArg some (by kernel_rfl))⟩,
  f22 := ⟨Try.f44.name, by decide, Try.func44.trans (congrArg some (by kernel_rfl))⟩,
  f23 := ⟨Try.f45.name, by decide, Try.func45.trans (congrArg some (by kernel_rfl))⟩,
  f24 := ⟨Try.f46.name, by decide, Try.func46.trans (congrArg some (by kernel_rfl))⟩,
  f25 := ⟨Try.f47.name, by decide, Try.func47.trans (congrArg some (by kernel_rfl))⟩,
  f26 := ⟨Try.f48.name, by decide, Try.func48.trans (congrArg some (by kernel_rfl))⟩,
  f27 := ⟨Try.f49.name, by decide, Try.func49.trans (congrArg some (by kernel_rfl))⟩,
  f28 := Try.func50.trans (congrArg some (by kernel_rfl)),
  f29 := Try.func51.trans (congrArg some (by kernel_rfl)),
  f46 := ⟨Try.f52.name, by decide, Try.func52.trans (congrArg some (by kernel_rfl))⟩,
  f47 := Try.func53.trans (congrArg some (by kernel_rfl)),
  f48 := Try.func54.trans (congrArg some (by kernel_rfl)),
  f49 := ⟨Try.f55.name, by decide, Try.func55.trans (congrArg some (by kernel_rfl))⟩,
  f50 := ⟨Try.f56.name, by decide, Try.func56.trans (congrArg some (by kernel_rfl))⟩,
  f57 := ⟨Try.f57.name, by decide, Try.func57.trans (congrArg some (by kernel_rfl))⟩,
  t0 := Try.underlying0,
  a0 := Try.isAgg0,
  z0 := Try.sizeOf0,
  v0 := Try.zeroValue0,
  t3 := Try.underlying3,
  a3 := Try.isAgg3,
  z3 := Try.sizeOf3,
  v3 := Try.zeroValue3,
  t4 := Try.underlying4,
  a4 := Try.isAgg4,
  z4 := Try.sizeOf4,
  v4 := Try.zeroValue4,
  t5 := Try.underlying5,
  a5 := Try.isAgg5,
  z5 := Try.sizeOf5,
  v5 := Try.zeroValue5,
  t9 := Try.underlying9,
  a9 := Try.isAgg9,
  z9 := Try.sizeOf9,
  v9 := Try.zeroValue9,
  t22 := Try.underlying22,
  a22 := Try.isAgg22,
  z22 := Try.sizeOf22,
  v22 := Try.zeroValue22,
  t25 := Try.underlying64,
  a25 := Try.isAgg64,
  z25 := Try.sizeOf64,
  v25 := Try.zeroValue64,
  t39 := Try.underlying68,
  a39 := Try.isAgg68,
  z39 := Try.sizeOf68,
  v39 := Try.zeroValue68,
  t45 := Try.underlying72,
  a45 := Try.isAgg72,
  z45 := Try.sizeOf72,
  v45 := Try.zeroValue72,
  t46 := Try.underlying73,
  a46 := Try.isAgg73,
  z46 := Try.sizeOf73,
  v46 := Try.zeroValue73,
  t50 := Try.underlying33,
  a50 := Try.isAgg33,
  z50 := Try.sizeOf33,
  v50 := Try.zeroValue33,
  t53 := Try.underlying79,
  a53 := Try.isAgg79,
  z53 := Try.sizeOf79,
  v53 := Try.zeroValue79,
  t55 := Try.underlying81,
  a55 := Try.isAgg81,
  z55 := Try.sizeOf81,
  v55 := Try.zeroValue81,
  t66 := Try.underlying82,
  a66 := Try.isAgg82,
  z66 := Try.sizeOf82,
  v66 := Try.zeroValue82,
  t70 := Try.underlying86,
  a70 := Try.isAgg86,
  z70 := Try.sizeOf86,
  v70 := Try.zeroValue86,
  t76 := Try.underlying88,
  a76 := Try.isAgg88,
  z76 := Try.sizeOf88,
  v76 := Try.zeroValue88,
  t77 := Try.underlying89,
  a77 := Try.isAgg89,
  z77 := Try.sizeOf89,
  v77 := Try.zeroValue89 }

/-- What List's comparison answers. -/
def cfQ (x y : It) : Int := if lt x y then -1 else 1
set_option maxHeartbeats 1000000 in
theorem cmp29 (x y : It) (W : World) : Calls Try.prog 29 #[.agg #[.int .i64 x.1, .int .i64 x.2], .agg #[.int .i64 y.1, .int .i64 y.2]] W fun e w' => e = .returned (.bool (decide (lt x y))) ∧ ∃ q os', w' = grow (W.drewN q) os' := by
  go_enter Try.func29, Try.ntmps29
  go_wp2
  · rename_i h1 h2
    go_ret
    refine ⟨?_, 0, _, by rw [alloc_eq_grow, alloc_eq_grow, grow_grow]; rfl⟩
    show Ending.returned (Value.bool (decide (x.2 < y.2))) = _
    rw [show decide (x.2 < y.2) = decide (lt x y) from decide_eq_decide.2 (by unfold lt; omega)]
  · rename_i h1 h2
    go_ret
    refine ⟨?_, 0, _, by rw [alloc_eq_grow, alloc_eq_grow, grow_grow]; rfl⟩
    show Ending.returned (Value.bool (decide (x.1 < y.1))) = _
    rw [show decide (x.1 < y.1) = decide (lt x y) from decide_eq_decide.2 (by unfold lt; omega)]
  · rename_i h1
    go_ret
    refine ⟨?_, 0, _, by rw [alloc_eq_grow, alloc_eq_grow, grow_grow]; rfl⟩
    show Ending.returned (Value.bool true) = _
    rw [show true = decide (lt x y) from (decide_eq_true (Or.inl h1)).symm]
set_option maxHeartbeats 1000000 in
theorem cmp28 (x y : It) (W : World) : Calls Try.prog 28 #[.agg #[.int .i64 x.1, .int .i64 x.2], .agg #[.int .i64 y.1, .int .i64 y.2]] W fun e w' => e = .returned (.int .i64 (cfQ x y)) ∧ ∃ q os', w' = grow (W.drewN q) os' := by
  have hcon := fun W' => cmp29 x y W'
  unfold cfQ
  go_enter Try.func28, Try.ntmps28
  go_wp2_with (go_at_call 29; refine (hcon _).mono ?_; rintro e w' ⟨rfl, q, os', rfl⟩)
  · go_ret
    exact ⟨rfl, q, _, by rw [alloc_eq_grow, alloc_eq_grow, grow_grow]; exact grow_grow (W.drewN q) _ os'⟩
  · go_ret
    exact ⟨rfl, q, _, by rw [alloc_eq_grow, alloc_eq_grow, grow_grow]; exact grow_grow (W.drewN q) _ os'⟩
theorem cfQ_lt (x y : It) : cfQ x y < 0 ↔ lt x y := by
  unfold cfQ; split
  · simpa
  · simp; assumption
theorem swoQ : Go.Sort.SWO (ltOf cfQ) where
  irrefl x := by simp only [ltOf, cfQ_lt, decide_eq_false_iff_not]; unfold lt; omega
  trans x y z h1 h2 := by simp only [ltOf, cfQ_lt, decide_eq_true_eq] at *; unfold lt at *; omega
  ntrans x y z h1 h2 := by simp only [ltOf, cfQ_lt, decide_eq_false_iff_not] at *; unfold lt at *; omega
theorem sorter16 : SorterK Try.prog 27 28 cfQ where
  no p cap fv w := AnyF.slices_SortFunc_none (P := Try.prog) (ρ := sortL_ren) sortL p cap fv w
  row blk off cap d w hH hb hs := by
    have hcmp : CmpLays Try.prog 28 #[] encK 2 cfQ blk off d.size w := fun _ _ _ _ x y => cmp28 x y _
    exact AnyQ.slices_SortFunc_total sortL 2 Try.isAgg27 Try.sizeOf27 encK (fun _ => rfl) (fun x v hv => by simp [encK] at hv; rcases hv with rfl | rfl <;> rfl) cfQ swoQ 28 #[] blk off cap d w (enters_of Try.func28 (by kernel_rfl) rfl) hcmp hH hb hs (fun x y h1 h2 => by
      have h1 : ¬ cfQ x y < 0 := of_decide_eq_false h1
      have h2 : ¬ cfQ y x < 0 := of_decide_eq_false h2
      rw [cfQ_lt] at h1 h2
      unfold lt at h1 h2
      exact Prod.ext (by omega) (by omega))
end Pf
end Go.Proofs.Ytohlmbbmeknfiaa
