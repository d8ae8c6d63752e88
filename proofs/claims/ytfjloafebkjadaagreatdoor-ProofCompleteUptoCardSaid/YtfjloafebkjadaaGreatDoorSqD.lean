/- ProofComplete, with its card, where what it reads is of bulk at most 1048576: whatever the clauses, the law is true. -/
import Derived.Test.YtfjloafebkjadaaGreatDoorSqC
namespace Go.Proofs.YtfjloafebkjadaaGreatDoor
namespace proofComplete
open Go Go.AI Go.Proofs Pf
open Go.ChangeShapes Go.WideShapes Go.ChangeAt Go.RowKit
theorem plain (f : FuncId) (fn : Func) (hf : Tryz.pinned.checked.prog.funcNamed "netwright/netwrightlaw27.ProofComplete" = some f) (hfn : Tryz.pinned.checked.prog.funcs[f]? = some fn) :
    false = Tryz.pinned.checked.prog.looks [] ∧ ∀ (j : Nat) t, fn.params[j]? = some t → Tryz.pinned.checked.prog.wantsStandIn t = false := by
  have hOB : f = 12 := Option.some.inj ((show Tryz.prog.funcNamed "netwright/netwrightlaw27.ProofComplete" = some 12 by kernel_rfl).symm.trans hf) |>.symm
  obtain rfl := hOB
  have hOB : fn = Tryz.f12 := (Option.some.inj (Tryz.func12.symm.trans hfn)).symm
  obtain rfl := hOB
  refine ⟨by kernel_rfl, fun j t ht => ?_⟩
  rw [Tryz.params12] at ht
  rcases j with _ | j
  · have hOB : 24 = t := by simpa using ht
    obtain rfl := hOB
    exact (show Tryz.prog.wantsStandIn 24 = false by kernel_rfl)
  · simp at ht
theorem proved : Rows.ProofCompleteUptoCardSaid :=
  Claim7.holds_tied_plain_at .later [] _ _ _ _ said (fun _ h => by cases h) (by kernel_rfl) (fun _ h => by cases h) proofCompleteUpto_row_tie rfl ⟨rfl, rfl⟩ (by kernel_rfl) rfl plain (by kernel_rfl)
end proofComplete
end Go.Proofs.YtfjloafebkjadaaGreatDoor
