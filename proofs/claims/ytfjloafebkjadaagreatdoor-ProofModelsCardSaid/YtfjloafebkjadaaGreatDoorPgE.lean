/- The arguments as they are read; the law's frame. -/
import Derived.Test.YtfjloafebkjadaaGreatDoorPgD
import Derived.Test.YtfjloafebkjadaaGreatDoorPgR
import Derived.Test.YtfjloafebkjadaaGreatDoorCards
import Derived.Test.YtfjloafebkjadaaGreatDoorTie
import Derived.WalkKit
import Derived.ProofKit
import Derived.OpenShut
import Derived.SevenTiedAt
import Derived.LaidLaws
namespace Go.Proofs.YtfjloafebkjadaaGreatDoor
namespace Pf
open Go Go.AI Go.Proofs
open Go.ChangeShapes Go.WideShapes Go.ChangeAt Go.RowKit
theorem int_read {H : Type} {enc : TypeId × Value → H} {P : Program} {w W : World} {e : TypeId} {k : IntKind} {m base : Nat} {v : Value} {y : DataW H × List MemPlace} (he : P.underlying e = some (.int k)) (hok : Value.okWide P W .any base e v) (h : DataW.trod enc P w 0 (fun _ => true) true m e v.cells.toList = some y) : ∃ n, v = .int k n ∧ (Go.Lit.int k n).wf = true := by
  have hv : v.cells.toList = [v] := by
    cases v
    case agg cs =>
      exfalso
      simp [Value.okWide, he, Cell.okWide, Cell.ok] at hok
    all_goals rfl
  rw [hv] at h
  exact read_int he h
theorem ab_read {H : Type} {enc : TypeId × Value → H} {P : Program} {w : World} {m R : Nat} {v : Value} {x : DataW H × List MemPlace} (h41 : P.underlying 41 = some (.array 2 35)) (c41 : P.cellsOf 41 = 2) (c35 : P.cellsOf 35 = 1) (h35 : P.underlying 35 = some (.slice 3)) (c3 : P.cellsOf 3 = 1) (h3 : P.underlying 3 = some (.int .i64)) (hby : 0 < P.bytesOf 3)
    (hW : ∀ K ∈ x.1.weights P 41, K ≤ R) (h : DataW.trod enc P w 0 (fun _ => true) true m 41 v.cells.toList = some x) : ∃ a b A B, emb w v = .agg [embC w a, embC w b] ∧ IntRow (embH w) (embC w a) A ∧ IntRow (embH w) (embC w b) B ∧ A.length ≤ R ∧ B.length ≤ R := by
  obtain ⟨xs, k, rfl, rfl, hl, hxl, hel⟩ := DataW.trod_array h41 h
  rw [c41] at hl
  have hv : ∃ a b, v = .agg ⟨[a, b]⟩ := by
    cases v
    case agg cs =>
      obtain ⟨cs⟩ := cs
      match cs, hl with
      | [a, b], _ => exact ⟨a, b, rfl⟩
    all_goals simp [Value.cells] at hl
  obtain ⟨a, b, rfl⟩ := hv
  have e0 := hel 0 (by decide)
  have e1 := hel 1 (by decide)
  rw [c35] at e0 e1
  match xs, hxl with
  | [y0, y1], _ =>
    have e0 : DataW.trod enc P w 0 (fun _ => true) true k 35 [a] = some y0 := e0
    have e1 : DataW.trod enc P w 0 (fun _ => true) true k 35 [b] = some y1 := e1
    unfold DataW.weights at hW
    rw [h41] at hW
    have w0 : ∀ K ∈ y0.1.weights P 35, K ≤ R := fun K hK => hW K (weights_all (by simp) K hK)
    have w1 : ∀ K ∈ y1.1.weights P 35, K ≤ R := fun K hK => hW K (weights_all (by simp) K hK)
    obtain ⟨A, a1, a2, _⟩ := read_ints h35 c3 h3 hby w0 e0
    obtain ⟨B, b1, b2, _⟩ := read_ints h35 c3 h3 hby w1 e1
    exact ⟨a, b, A, B, rfl, a2, b2, a1, b1⟩
end Pf
namespace proofModels
open Go Go.AI Go.Proofs Pf
open Go.ChangeShapes Go.WideShapes Go.ChangeAt Go.RowKit
set_option maxRecDepth 100000 in
theorem lifted (os : Os) (started : os.Started) (H : Type) (enc : TypeId × Value → H) :
    ReturnsInHanded {} Tryz.checked os 6 .any (fun w args => (Rows.proofModelsSpec.pre enc Tryz.prog Tryz.f6 [] false w args ∧ laidMetH Tryz.prog Rows.proofModelsRow.laid w) ∧ sizedMet enc Tryz.prog Tryz.f6 (OpenSpec.ofChange Rows.proofModelsSpec) false w args)
      (Rows.proofModelsSpec.post enc Tryz.prog Tryz.f6 false true false false) := by
  refine returnsInHanded_of_change_and (C := Tryz.checked) (X := fun w _ => laidMetH Tryz.prog Rows.proofModelsRow.laid w) (fun _ _ _ hh h => h.of_heap hh) (by kernel_rfl) started (by kernel_rfl) Tryz.func6 ?_ ?_
  · exact ChangeSpec.witness_at (enc := enc) (C := Tryz.checked) (os := os) (X := fun w _ => laidMetH Tryz.prog Rows.proofModelsRow.laid w) false (laidWorld os) #[.agg #[.slice none 0 0, .slice none 0 0], .int .i64 0, .slice none 0 0] 8 rfl (by kernel_rfl) (by kernel_rfl) (by kernel_rfl) (by kernel_rfl) (by kernel_rfl) (met os _)
  intro W base args ds gs before hval0 hW _ hsz hL _
  have hval : ∀ (j : Nat) t v, Tryz.f6.params[j]? = some t → args[j]? = some v → Value.okWide Tryz.prog W .any base t v := hval0
  have hW' : DataW.Whole enc Tryz.prog Tryz.f6.params.toList Rows.proofModelsSpec.vars false W args.toList ds gs before := hW
  obtain ⟨p, q, hA0, hV, hpq, hfz, hnd⟩ := hW
  have hA : DataW.TrodAll enc Tryz.prog W 0 (fun _ => true) true Tryz.f6.params.toList args.toList ds p := hA0
  rw [Tryz.params6] at hA hval
  obtain ⟨v0, vs0, d0, ds0, p0, q0, hargs, rfl, rfl, h0, r0⟩ := trodAll_cons hA
  obtain ⟨v1, vs1, d1, ds1, p1, q1, rfl, rfl, rfl, h1, r1⟩ := trodAll_cons r0
  obtain ⟨v2, vs2, d2, ds2, p2, q2, rfl, rfl, rfl, h2, r2⟩ := trodAll_cons r1
  obtain ⟨rfl, rfl, rfl⟩ := trodAll_nil r2
  obtain rfl : args = #[v0, v1, v2] := by cases args; simp_all
  obtain ⟨n0, h0⟩ := h0
  obtain ⟨n1, h1⟩ := h1
  obtain ⟨n2, h2⟩ := h2
  have hwt : ∀ K ∈ d0.weights Tryz.prog 41, K ≤ 2 ^ 48 := by
    intro K hK
    have h2 := List.all_eq_true.1 hsz K (by
      show K ∈ DataW.weightsEach Tryz.prog (41 :: _) (d0 :: _)
      unfold DataW.weightsEach
      exact List.mem_append_left _ hK)
    have h3 : K ≤ reachBytes := of_decide_eq_true h2
    exact Nat.le_trans h3 (by decide)
  have u25 : Tryz.prog.underlying 25 = some (.slice 4) := by kernel_rfl
  obtain ⟨a, b, A, B, he, ra, rb, ha, hb⟩ := ab_read (R := 2 ^ 48) (show Tryz.prog.underlying 41 = some (.array 2 35) by kernel_rfl) (by kernel_rfl) (by kernel_rfl) (by kernel_rfl) (by kernel_rfl) (by kernel_rfl) (by decide +kernel) hwt h0
  obtain ⟨n, rfl, hn⟩ := int_read (show Tryz.prog.underlying 3 = some (.int .i64) by kernel_rfl) (hval 1 3 v1 rfl rfl) h1
  have hn := bounds_i64 hn
  have o2 := slice_one u25 (hval 2 25 v2 rfl rfl) h2
  obtain ⟨M, hM⟩ := bools_read u25 (by kernel_rfl) (by kernel_rfl) (hval 2 25 v2 rfl rfl) h2
  have run := models_law (gt := gt) (emb_wf W) ra rb hM (by rw [o2.2]; exact nz_emb W v2) (by omega) (by omega) n hn
  rw [← he, ← tab_eq] at run
  refine (law_runsX Tryz.checked.mixed (oracle27 W) (emb_wrel (mkTab Tryz.prog gt) W (glob hL)) (embs_rel (mkTab Tryz.prog gt) W [v0, .int .i64 n, v2]) run).mono fun e W' ⟨he, hg⟩ => ⟨_, he, post_law (s := Rows.proofModelsSpec) (f := Tryz.f6) hW' hg (by kernel_rfl) (by kernel_rfl) rfl rfl Tryz.underlying4 ?_⟩
  intro ds hd
  match ds, hd with
  | [_, _, _], _ => rfl
end proofModels
end Go.Proofs.YtfjloafebkjadaaGreatDoor
