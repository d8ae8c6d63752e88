/- ProofFollowed, with its card, where what it reads is of bulk at most 1048576: whatever the clauses and lines, the law is true. -/
import Derived.Test.YtfjloafebkjadaaGreatDoorPgU
namespace Go.Proofs.YtfjloafebkjadaaGreatDoor
namespace proofFollowed
open Go Go.AI Go.Proofs Pf
open Go.ChangeShapes Go.WideShapes Go.ChangeAt Go.RowKit
theorem plain (f : FuncId) (fn : Func) (hf : Tryz.pinned.checked.prog.funcNamed "netwright/netwrightlaw27.ProofFollowed" = some f) (hfn : Tryz.pinned.checked.prog.funcs[f]? = some fn) :
    false = Tryz.pinned.checked.prog.looks [] ∧ ∀ (j : Nat) t, fn.params[j]? = some t → Tryz.pinned.checked.prog.wantsStandIn t = false := by
  obtain rfl : f = 10 := Option.some.inj ((show Tryz.prog.funcNamed "netwright/netwrightlaw27.ProofFollowed" = some 10 by kernel_rfl).symm.trans hf) |>.symm
  obtain rfl : fn = Tryz.f10 := (Option.some.inj (Tryz.func10.symm.trans hfn)).symm
  refine ⟨by kernel_rfl, fun j t ht => ?_⟩
  rw [Tryz.params10] at ht
  rcases j with _ | _ | j
  · obtain rfl : 24 = t := by simpa using ht
    exact (show Tryz.prog.wantsStandIn 24 = false by kernel_rfl)
  · obtain rfl : 40 = t := by simpa using ht
    exact (show Tryz.prog.wantsStandIn 40 = false by kernel_rfl)
  · simp at ht
theorem proved : Rows.ProofFollowedUptoCardSaid :=
  Claim7.holds_tied_plain_at .later [] _ _ _ _ said (fun _ h => by cases h) (by kernel_rfl) (fun _ h => by cases h) proofFollowedUpto_row_tie rfl ⟨rfl, rfl⟩ (by kernel_rfl) rfl plain (by kernel_rfl)
end proofFollowed
end Go.Proofs.YtfjloafebkjadaaGreatDoor
