/- SatValid, with its card: of any set of clauses and any bools, the law is true.
No condition: any set, any bools; the library's three tables are tied to the program's text. -/
import Derived.Test.YtheiionmocfleaaDoorSatFns
import Derived.Test.YtheiionmocfleaaDoorAwake
import Derived.Test.YtheiionmocfleaaDoorCards
import Derived.Test.YtheiionmocfleaaDoorTie
import Derived.LaidLaws
import Derived.SevenTiedAt
namespace Go.Proofs.YtheiionmocfleaaDoor
namespace satValid
open Go Go.AI Go.Proofs Sat
open Go.ChangeShapes Go.WideShapes Go.ChangeAt Go.RowKit
set_option maxRecDepth 100000 in
theorem lifted (os : Os) (started : os.Started) (H : Type) (enc : TypeId × Value → H) :
    ReturnsInHanded {} Tryd.checked os 8 .any (fun w args => (Rows.satValidSpec.pre enc Tryd.prog Tryd.f8 [] false w args ∧ laidMetH Tryd.prog Rows.satValidRow.laid w) ∧ sizedMet enc Tryd.prog Tryd.f8 (OpenSpec.ofChange Rows.satValidSpec) false w args)
      (Rows.satValidSpec.post enc Tryd.prog Tryd.f8 false true false false) := by
  refine returnsInHanded_of_change_and (C := Tryd.checked) (X := fun w _ => laidMetH Tryd.prog Rows.satValidRow.laid w) (fun _ _ _ hh h => h.of_heap hh) (by kernel_rfl) started (by kernel_rfl) Tryd.func8 ?_ ?_
  · exact ChangeSpec.witness_at (enc := enc) (C := Tryd.checked) (os := os) (X := fun w _ => laidMetH Tryd.prog Rows.satValidRow.laid w) false (laidWorld os) #[.agg #[.int .i64 0, .slice none 0 0], .slice none 0 0] 8 rfl (by kernel_rfl) (by kernel_rfl) (by kernel_rfl) (by kernel_rfl) (by kernel_rfl) (met os _)
  intro W base args ds gs before hval0 hW _ hsz hL _
  have hval : ∀ (j : Nat) t v, Tryd.f8.params[j]? = some t → args[j]? = some v → Value.okWide Tryd.prog W .any base t v := hval0
  have hW' : DataW.Whole enc Tryd.prog Tryd.f8.params.toList Rows.satValidSpec.vars false W args.toList ds gs before := hW
  obtain ⟨p, q, hA0, hV, hpq, hfz, hnd⟩ := hW
  have hA : DataW.TrodAll enc Tryd.prog W 0 (fun _ => true) true Tryd.f8.params.toList args.toList ds p := hA0
  rw [Tryd.params8] at hA hval
  obtain ⟨v0, vs0, d0, ds0, p0, q0, hargs, rfl, rfl, h0, r0⟩ := trodAll_cons hA
  obtain ⟨v1, vs1, d1, ds1, p1, q1, rfl, rfl, rfl, h1, r1⟩ := trodAll_cons r0
  obtain ⟨rfl, rfl, rfl⟩ := trodAll_nil r1
  obtain rfl : args = #[v0, v1] := by cases args; simp_all
  obtain ⟨n0, h0⟩ := h0
  obtain ⟨n1, h1⟩ := h1
  have hwt : ∀ K ∈ d0.weights Tryd.prog 24, K ≤ 2 ^ 48 := by
    intro K hK
    have h2 := List.all_eq_true.1 hsz K (by
      show K ∈ DataW.weightsEach Tryd.prog (24 :: _) (d0 :: _)
      unfold DataW.weightsEach
      exact List.mem_append_left _ hK)
    have h3 : K ≤ reachBytes := of_decide_eq_true h2
    exact Nat.le_trans h3 (by decide)
  obtain ⟨vars, cl, L, cv, he, C⟩ := cnf_read Tryd.underlying24 (by kernel_rfl) ⟨rfl, by kernel_rfl, by kernel_rfl⟩ ⟨rfl, by kernel_rfl, by kernel_rfl⟩ (by kernel_rfl) (by kernel_rfl) (by kernel_rfl) (by kernel_rfl) (by decide +kernel) (by decide +kernel) hwt h0
  obtain ⟨m, hm⟩ := bools_read (e := 4) (show Tryd.prog.underlying 33 = some (.slice 4) by kernel_rfl) (by kernel_rfl) (by kernel_rfl) (hval 1 33 v1 rfl rfl) h1
  have run := law_spec (facts gt) (emb_wf W) C hm
  rw [← he] at run
  refine (law_runs Tryd.checked.mixed aw (emb_wrel (mkTab Tryd.prog gt) W (glob26 hL)) (embs_rel (mkTab Tryd.prog gt) W [v0, v1]) run).mono fun e W' ⟨he, hg⟩ => ⟨_, he, post_law (s := Rows.satValidSpec) (f := Tryd.f8) hW' hg (by kernel_rfl) (by kernel_rfl) rfl rfl Tryd.underlying4 ?_⟩
  intro ds hd
  match ds, hd with
  | [_, _], _ => rfl
theorem over : Rows.SatValidSaid :=
  OpenClaim.holds_of_wide 8 Tryd.f8 rfl rfl rfl rfl rfl rfl rfl ⟨rfl, rfl, rfl, rfl, rfl⟩ rfl rfl rfl rfl rfl (by kernel_rfl) Tryd.func8 (by kernel_rfl)
    (of_decide_eq_true (by kernel_rfl)) (by unfold Func.isWrapper; first | (rw [if_pos (by decide +kernel)]; kernel_rfl) | (rw [if_neg (by decide +kernel)]; exact ⟨rfl, rfl⟩))
    (fun os started H enc _ => lifted os started H enc)
theorem proved : Rows.SatValidCardSaid :=
  Claim7.holds_tied_plain_at .later [] [.data, .data, .data] true (true, "acb7a2cfba61896ac7a7b052507c0d818ee11201fc33a88d8d96054a29989809") false
    over (fun _ h => by cases h) (by kernel_rfl) (fun _ h => by cases h) satValid_row_tie rfl ⟨rfl, rfl⟩ (by kernel_rfl) rfl
    (fun f fn hf hfn => by
      obtain rfl : f = 8 := Option.some.inj ((show Tryd.prog.funcNamed "netwright/netwrightlaw26.SatValid" = some 8 by kernel_rfl).symm.trans hf) |>.symm
      obtain rfl : fn = Tryd.f8 := (Option.some.inj (Tryd.func8.symm.trans hfn)).symm
      exact ⟨by kernel_rfl, fun j t ht => by
        rw [Tryd.params8] at ht
        rcases j with _ | _ | j
        · obtain rfl : 24 = t := by simpa using ht
          exact (show Tryd.prog.wantsStandIn 24 = false by kernel_rfl)
        · obtain rfl : 33 = t := by simpa using ht
          exact (show Tryd.prog.wantsStandIn 33 = false by kernel_rfl)
        · simp at ht⟩)
    (by kernel_rfl)
end satValid
end Go.Proofs.YtheiionmocfleaaDoor
