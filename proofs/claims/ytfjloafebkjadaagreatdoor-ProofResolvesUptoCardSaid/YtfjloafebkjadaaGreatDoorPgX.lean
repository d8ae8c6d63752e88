/- ProofResolves, with its card, where what it reads is of bulk at most 1048576: whatever the clauses, the lines and the two clauses, the law is true. -/
import Derived.Test.YtfjloafebkjadaaGreatDoorPgW
namespace Go.Proofs.YtfjloafebkjadaaGreatDoor
namespace proofResolves
open Go Go.AI Go.Proofs Pf
open Go.ChangeShapes Go.WideShapes Go.ChangeAt Go.RowKit
theorem plain (f : FuncId) (fn : Func) (hf : Tryz.pinned.checked.prog.funcNamed "netwright/netwrightlaw27.ProofResolves" = some f) (hfn : Tryz.pinned.checked.prog.funcs[f]? = some fn) :
    false = Tryz.pinned.checked.prog.looks [] ∧ ∀ (j : Nat) t, fn.params[j]? = some t → Tryz.pinned.checked.prog.wantsStandIn t = false := by
  obtain rfl : f = 5 := Option.some.inj ((show Tryz.prog.funcNamed "netwright/netwrightlaw27.ProofResolves" = some 5 by kernel_rfl).symm.trans hf) |>.symm
  obtain rfl : fn = Tryz.f5 := (Option.some.inj (Tryz.func5.symm.trans hfn)).symm
  refine ⟨by kernel_rfl, fun j t ht => ?_⟩
  rw [Tryz.params5] at ht
  rcases j with _ | _ | _ | j
  · obtain rfl : 24 = t := by simpa using ht
    exact (show Tryz.prog.wantsStandIn 24 = false by kernel_rfl)
  · obtain rfl : 40 = t := by simpa using ht
    exact (show Tryz.prog.wantsStandIn 40 = false by kernel_rfl)
  · obtain rfl : 41 = t := by simpa using ht
    exact (show Tryz.prog.wantsStandIn 41 = false by kernel_rfl)
  · simp at ht
theorem proved : Rows.ProofResolvesUptoCardSaid :=
  Claim7.holds_tied_plain_at .later [] _ _ _ _ said (fun _ h => by cases h) (by kernel_rfl) (fun _ h => by cases h) proofResolvesUpto_row_tie rfl ⟨rfl, rfl⟩ (by kernel_rfl) rfl plain (by kernel_rfl)
end proofResolves
end Go.Proofs.YtfjloafebkjadaaGreatDoor
