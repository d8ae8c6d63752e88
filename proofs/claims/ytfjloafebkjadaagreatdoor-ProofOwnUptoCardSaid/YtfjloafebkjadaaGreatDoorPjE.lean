/- ProofOwn, with its card, where what it reads is of bulk at most 1048576: whatever the clauses, the proof and the lines, the law is true. -/
import Derived.Test.YtfjloafebkjadaaGreatDoorPjD
namespace Go.Proofs.YtfjloafebkjadaaGreatDoor
namespace proofOwn
open Go Go.AI Go.Proofs Pf
open Go.ChangeShapes Go.WideShapes Go.ChangeAt Go.RowKit
theorem plain (f : FuncId) (fn : Func) (hf : Tryz.pinned.checked.prog.funcNamed "netwright/netwrightlaw27.ProofOwn" = some f) (hfn : Tryz.pinned.checked.prog.funcs[f]? = some fn) :
    false = Tryz.pinned.checked.prog.looks [] ∧ ∀ (j : Nat) t, fn.params[j]? = some t → Tryz.pinned.checked.prog.wantsStandIn t = false := by
  have hOB : f = 8 := Option.some.inj ((show Tryz.prog.funcNamed "netwright/netwrightlaw27.ProofOwn" = some 8 by kernel_rfl).symm.trans hf) |>.symm
  obtain rfl := hOB
  have hOB : fn = Tryz.f8 := (Option.some.inj (Tryz.func8.symm.trans hfn)).symm
  obtain rfl := hOB
  refine ⟨by kernel_rfl, fun j t ht => ?_⟩
  rw [Tryz.params8] at ht
  rcases j with _ | _ | _ | j
  · have hOB : 24 = t := by simpa using ht
    obtain rfl := hOB
    exact (show Tryz.prog.wantsStandIn 24 = false by kernel_rfl)
  · have hOB : 22 = t := by simpa using ht
    obtain rfl := hOB
    exact (show Tryz.prog.wantsStandIn 22 = false by kernel_rfl)
  · have hOB : 40 = t := by simpa using ht
    obtain rfl := hOB
    exact (show Tryz.prog.wantsStandIn 40 = false by kernel_rfl)
  · simp at ht
theorem proved : Rows.ProofOwnUptoCardSaid :=
  Claim7.holds_tied_plain_at .later [] _ _ _ _ said (fun _ h => by cases h) (by kernel_rfl) (fun _ h => by cases h) proofOwnUpto_row_tie rfl ⟨rfl, rfl⟩ (by kernel_rfl) rfl plain (by kernel_rfl)
end proofOwn
end Go.Proofs.YtfjloafebkjadaaGreatDoor
