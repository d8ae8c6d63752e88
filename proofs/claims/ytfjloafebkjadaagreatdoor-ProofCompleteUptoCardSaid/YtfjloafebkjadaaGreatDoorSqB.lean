/- The law's contract and frame. -/
import Derived.Test.YtfjloafebkjadaaGreatDoorSqA
import Derived.Test.YtfjloafebkjadaaGreatDoorPgR
namespace Go.Proofs.YtfjloafebkjadaaGreatDoor
namespace proofComplete
open Go Go.AI Go.Proofs Pf
open Go.ChangeShapes Go.WideShapes Go.ChangeAt Go.RowKit
set_option maxRecDepth 100000 in
theorem contract (H : Type) (enc : TypeId × Value → H) (W : World) (base : Nat) (args : Array Value) (ds gs : List (DataW H)) (before : List MemPlace)
    (hval : ∀ (j : Nat) t v, Tryz.f12.params[j]? = some t → args[j]? = some v → Value.okWide Tryz.prog W .any base t v)
    (hW : DataW.Whole enc Tryz.prog Tryz.f12.params.toList Rows.proofCompleteSpec.vars false W args.toList ds gs before) (hbulk : Rows.uptoSmall H (ds ++ gs) = true) (hL : laidMetH Tryz.prog laid W) :
    Calls Tryz.prog 12 args W fun e W' => ∃ v, e = .returned v ∧ Rows.proofCompleteSpec.post enc Tryz.prog Tryz.f12 false true false false W args v W' := by
  have hW' := hW
  obtain ⟨p, q, hA0, hV, hpq, hfz, hnd⟩ := hW
  have hA : DataW.TrodAll enc Tryz.prog W 0 (fun _ => true) true Tryz.f12.params.toList args.toList ds p := hA0
  rw [Tryz.params12] at hA hval
  have hOB := trodAll_cons hA
  obtain ⟨v0, vs0, d0, ds0, p0, q0, hargs, rfl, rfl, h0, r0⟩ := hOB
  have hOB := trodAll_nil r0
  obtain ⟨rfl, rfl, rfl⟩ := hOB
  have hOB : args = #[v0] := by cases args; simp_all
  obtain rfl := hOB
  obtain ⟨n0, h0⟩ := h0
  have hb : Rows.uptoBulkAll ([d0] ++ gs) ≤ 1048576 := of_decide_eq_true hbulk
  have hb0 : Rows.uptoBulk d0 ≤ 1048576 := Nat.le_trans (bulk_part (by simp)) hb
  have u22 : Tryz.prog.underlying 22 = some (.slice 35) := by kernel_rfl
  have u35 : Tryz.prog.underlying 35 = some (.slice 3) := by kernel_rfl
  have u3 : Tryz.prog.underlying 3 = some (.int .i64) := by kernel_rfl
  have c35 : Tryz.prog.cellsOf 35 = 1 := by kernel_rfl
  have c3 : Tryz.prog.cellsOf 3 = 1 := by kernel_rfl
  have hOB := set_read (B := 1048576) Tryz.underlying24 (by kernel_rfl) ⟨rfl, by kernel_rfl, by kernel_rfl⟩ ⟨rfl, by kernel_rfl, rfl⟩ u22 c35 u35 u3 c3 hb0 (by omega) h0
  obtain ⟨vars, cl, L, cv, he, C, hl1, hl2, nc⟩ := hOB
  have t1 := total_bound L hl2
  have t3 : L.length * 1048576 ≤ 1048576 * 1048576 := Nat.mul_le_mul_right _ hl1
  have run := complete_law (gt := gt) (emb_wf W) C nc (by omega) (by omega)
  rw [← he, ← tab_eq] at run
  refine (law_runsX Tryz.checked.mixed (oracle27 W) (emb_wrel (mkTab Tryz.prog gt) W (glob hL)) (embs_rel (mkTab Tryz.prog gt) W [v0]) run).mono fun e W' ⟨he, hg⟩ => ⟨_, he, post_law (s := Rows.proofCompleteSpec) (f := Tryz.f12) hW' hg (by kernel_rfl) (by kernel_rfl) rfl rfl Tryz.underlying4 ?_⟩
  intro ds hd
  match ds, hd with
  | [_], _ => rfl
theorem reads (os : Os) {H : Type} (enc : TypeId × Value → H) : ∃ places, DataW.whole enc Tryz.prog ((laidWorld os).forCall (fun _ _ => 0) ⟨#[], #[.agg #[.int .i64 0, .slice none 0 0]], []⟩).memory Tryz.f12.params.toList Rows.proofCompleteSpec.vars false #[Value.agg #[.int .i64 0, .slice none 0 0]].toList 8 = some ([.agg [.lit (.int .i64 0), .nil]], [], places) :=
  ⟨[], by kernel_rfl⟩
set_option maxRecDepth 100000 in
theorem lifted (os : Os) (started : os.Started) (H : Type) (enc : TypeId × Value → H) (F : Stop.Interp) :
    ReturnsInHanded {} Tryz.checked os 12 .any ((Rows.OpenSpec.upto Rows.proofCompleteSpec).preRow enc Tryz.prog Tryz.f12 Rows.proofCompleteUptoRow.domain false Rows.proofCompleteUptoRow.laid) (((Rows.OpenSpec.upto Rows.proofCompleteSpec).at F).post enc Tryz.prog Tryz.f12 false true false false) := by
  have hOB := reads os enc
  obtain ⟨places, hx⟩ := hOB
  refine returnsInHanded_of_row (C := Tryz.checked) (s := Rows.OpenSpec.upto Rows.proofCompleteSpec) (by kernel_rfl) started (by kernel_rfl) Tryz.func12
    (witness_row_at (enc := enc) (C := Tryz.checked) false (laidWorld os) #[.agg #[.int .i64 0, .slice none 0 0]] rfl (by kernel_rfl) (by kernel_rfl) (by kernel_rfl)
      (OpenSpec.preRow_of_cond 8 hx (by kernel_rfl) (fun k hk => by cases hk; kernel_rfl) (by kernel_rfl) (met os _))) ?_
  intro W base args ds gs before hval hW _ hcond _ hL _ _
  exact contract H enc W base args ds gs before hval hW (hcond _ rfl) hL
end proofComplete
end Go.Proofs.YtfjloafebkjadaaGreatDoor
