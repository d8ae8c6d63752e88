/- SatOrder, with its card: of any set of clauses and any three bytes, the law is true. -/
import Derived.Test.YtheiionmocfleaaDoorPa0
import Derived.Test.YtheiionmocfleaaDoorScD
import Derived.Test.YtheiionmocfleaaDoorScJ
namespace Go.Proofs.YtheiionmocfleaaDoor
namespace satOrder
open Go Go.AI Go.Proofs Pf Pf.Sa
open Go.ChangeShapes Go.WideShapes Go.ChangeAt Go.RowKit
set_option maxRecDepth 100000 in
theorem lifted (os : Os) (started : os.Started) (H : Type) (enc : TypeId × Value → H) :
    ReturnsInHanded {} Tryd.checked os 7 .any (fun w args => (Rows.satOrderSpec.pre enc Tryd.prog Tryd.f7 [] false w args ∧ laidMetH Tryd.prog Rows.satOrderRow.laid w) ∧ sizedMet enc Tryd.prog Tryd.f7 (OpenSpec.ofChange Rows.satOrderSpec) false w args)
      (Rows.satOrderSpec.post enc Tryd.prog Tryd.f7 false true false false) := by
  refine returnsInHanded_of_change_and (C := Tryd.checked) (X := fun w _ => laidMetH Tryd.prog Rows.satOrderRow.laid w) (fun _ _ _ hh h => h.of_heap hh) (by kernel_rfl) started (by kernel_rfl) Tryd.func7 ?_ ?_
  · exact ChangeSpec.witness_at (enc := enc) (C := Tryd.checked) (os := os) (X := fun w _ => laidMetH Tryd.prog Rows.satOrderRow.laid w) false (Sat.laidWorld os) #[.agg #[.int .i64 0, .slice none 0 0], .agg #[.int .u8 0, .int .u8 0, .int .u8 0]] 8 rfl (by kernel_rfl) (by kernel_rfl) (by kernel_rfl) (by kernel_rfl) (by kernel_rfl) (Sat.met os _)
  intro W base args ds gs before hval0 hW _ hsz hL _
  have hval : ∀ (j : Nat) t v, Tryd.f7.params[j]? = some t → args[j]? = some v → Value.okWide Tryd.prog W .any base t v := hval0
  have hW' : DataW.Whole enc Tryd.prog Tryd.f7.params.toList Rows.satOrderSpec.vars false W args.toList ds gs before := hW
  obtain ⟨p, q, hA0, hV, hpq, hfz, hnd⟩ := hW
  have hA : DataW.TrodAll enc Tryd.prog W 0 (fun _ => true) true Tryd.f7.params.toList args.toList ds p := hA0
  rw [Tryd.params7] at hA hval
  obtain ⟨v0, vs0, d0, ds0, p0, q0, hargs, rfl, rfl, h0, r0⟩ := trodAll_cons hA
  obtain ⟨v1, vs1, d1, ds1, p1, q1, rfl, rfl, rfl, h1, r1⟩ := trodAll_cons r0
  obtain ⟨rfl, rfl, rfl⟩ := trodAll_nil r1
  obtain rfl : args = #[v0, v1] := by cases args; simp_all
  obtain ⟨n0, h0⟩ := h0
  obtain ⟨n1, h1⟩ := h1
  have u25 : Tryd.prog.underlying 25 = some (.slice 3) := by kernel_rfl
  have u3 : Tryd.prog.underlying 3 = some (.int .i64) := by kernel_rfl
  have c3 : Tryd.prog.cellsOf 3 = 1 := by kernel_rfl
  have hwt0 : ∀ K ∈ d0.weights Tryd.prog 24, K ≤ 2 ^ 48 := by
    intro K hK
    have h2 := List.all_eq_true.1 hsz K (by
      show K ∈ DataW.weightsEach Tryd.prog (24 :: _) (d0 :: _)
      unfold DataW.weightsEach
      exact List.mem_append_left _ hK)
    have h3 : K ≤ reachBytes := of_decide_eq_true h2
    exact Nat.le_trans h3 (by decide)
  obtain ⟨vars, cl, L, cv, he, C1⟩ := cnf_read Tryd.underlying24 (by kernel_rfl) ⟨rfl, by kernel_rfl, by kernel_rfl⟩ ⟨rfl, by kernel_rfl, by kernel_rfl⟩ (by kernel_rfl) (by kernel_rfl) (by kernel_rfl) (by kernel_rfl) (by decide +kernel) (by decide +kernel) hwt0 h0
  have nz0 : NZ cl := agg_nz he
  obtain ⟨a0, a1, a2, hb1, la0, la1, la2⟩ := tri_read (show Tryd.prog.underlying 48 = some (.array 3 5) by kernel_rfl) (by kernel_rfl) (by kernel_rfl) (show Tryd.prog.underlying 5 = some (.int .u8) by kernel_rfl) h1
  have run := law_order (gt := Sat.gt) (emb_wf W) C1 la0 la1 la2
  rw [← he, ← hb1, ← tab_eq] at run
  refine (law_runsX Tryd.checked.mixed (oracle26 W) (emb_wrel (mkTab Tryd.prog Sat.gt) W (Sat.glob26 hL)) (embs_rel (mkTab Tryd.prog Sat.gt) W [v0, v1]) run).mono fun e W' ⟨he, hg⟩ => ⟨_, he, post_law (s := Rows.satOrderSpec) (f := Tryd.f7) hW' hg (by kernel_rfl) (by kernel_rfl) rfl rfl Tryd.underlying4 ?_⟩
  intro ds hd
  match ds, hd with
  | [_, _], _ => rfl
theorem over : Rows.SatOrderSaid :=
  OpenClaim.holds_of_wide 7 Tryd.f7 rfl rfl rfl rfl rfl rfl rfl ⟨rfl, rfl, rfl, rfl, rfl⟩ rfl rfl rfl rfl rfl (by kernel_rfl) Tryd.func7 (by kernel_rfl)
    (of_decide_eq_true (by kernel_rfl)) (by unfold Func.isWrapper; first | (rw [if_pos (by decide +kernel)]; kernel_rfl) | (rw [if_neg (by decide +kernel)]; exact ⟨rfl, rfl⟩))
    (fun os started H enc _ => lifted os started H enc)
theorem proved : Rows.SatOrderCardSaid :=
  Claim7.holds_tied_plain_at .later [] [.data, .data, .data] true (true, "acb7a2cfba61896ac7a7b052507c0d818ee11201fc33a88d8d96054a29989809") false
    over (fun _ h => by cases h) (by kernel_rfl) (fun _ h => by cases h) satOrder_row_tie rfl ⟨rfl, rfl⟩ (by kernel_rfl) rfl
    (fun f fn hf hfn => by
      obtain rfl : f = 7 := Option.some.inj ((show Tryd.prog.funcNamed "netwright/netwrightlaw26.SatOrder" = some 7 by kernel_rfl).symm.trans hf) |>.symm
      obtain rfl : fn = Tryd.f7 := (Option.some.inj (Tryd.func7.symm.trans hfn)).symm
      exact ⟨by kernel_rfl, fun j t ht => by
        rw [Tryd.params7] at ht
        rcases j with _ | _ | j
        · obtain rfl : 24 = t := by simpa using ht
          exact (show Tryd.prog.wantsStandIn 24 = false by kernel_rfl)
        · obtain rfl : 48 = t := by simpa using ht
          exact (show Tryd.prog.wantsStandIn 48 = false by kernel_rfl)
        · simp at ht⟩)
    (by kernel_rfl)
end satOrder
end Go.Proofs.YtheiionmocfleaaDoor
