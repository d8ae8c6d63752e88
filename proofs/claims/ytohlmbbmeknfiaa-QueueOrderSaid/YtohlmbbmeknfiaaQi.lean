/- For every list of pairs of a key and a time, and every turn, QueueOrder returns true, and its arguments read as they did. No conditions. -/
import Derived.Test.YtohlmbbmeknfiaaQh
import Derived.Test.YtohlmbbmeknfiaaQk
namespace Go.Proofs.Ytohlmbbmeknfiaa
namespace Pf
open Go Go.AI Go.AI.Q Go.Proofs
open Go.ChangeShapes Go.WideShapes Go.ChangeAt Go.RowKit
theorem int_readO {H : Type} {enc : TypeId × Value → H} {P : Program} {w W : World} {e : TypeId} {k : IntKind} {m base : Nat} {v : Value} {y : DataW H × List MemPlace} (he : P.underlying e = some (.int k)) (hok : Value.okWide P W .any base e v) (h : DataW.trod enc P w 0 (fun _ => true) true m e v.cells.toList = some y) : ∃ n, v = .int k n ∧ (Go.Lit.int k n).wf = true := by
  have hv : v.cells.toList = [v] := by
    cases v
    case agg cs =>
      exfalso
      simp [Value.okWide, he, Cell.okWide, Cell.ok] at hok
    all_goals rfl
  rw [hv] at h
  exact read_int he h
end Pf
namespace queueOrder
open Go Go.AI Go.AI.Q Go.Proofs Pf
open Go.ChangeShapes Go.WideShapes Go.ChangeAt Go.RowKit
set_option maxRecDepth 100000 in
theorem lifted (os : Os) (started : os.Started) (H : Type) (enc : TypeId × Value → H) :
    ReturnsInHanded {} Try.checked os 4 .any (Rows.queueOrderSpec.pre6 enc Try.prog Try.f4 Rows.queueOrderRow.domain false) (Rows.queueOrderSpec.post enc Try.prog Try.f4 false true false false) := by
  refine returnsInHanded_of_change (C := Try.checked) queueAll.own started (by kernel_rfl) Try.func4
    (ChangeSpec.witness6 (enc := enc) (C := Try.checked) false ⟨#[], #[.slice none 0 0, .int .u8 0], []⟩ 8 (by kernel_rfl) (by kernel_rfl) (by kernel_rfl) (by kernel_rfl)) ?_
  intro W base args ds gs before hval0 hW hcnd _
  have hval : ∀ (j : Nat) t v, Try.f4.params[j]? = some t → args[j]? = some v → Value.okWide Try.prog W .any base t v := hval0
  have hW' : DataW.Whole enc Try.prog Try.f4.params.toList Rows.queueOrderSpec.vars false W args.toList ds gs before := hW
  obtain ⟨p, q, hA0, hV, hpq, hfz, hnd⟩ := hW
  have hA : DataW.TrodAll enc Try.prog W 0 (fun _ => true) true Try.f4.params.toList args.toList ds p := hA0
  rw [Try.params4] at hA hval
  have hOB := trodAll_cons hA
  obtain ⟨v0, vs0, d0, ds0, p0, q0, hargs, rfl, rfl, h0, r0⟩ := hOB
  have hOB := trodAll_cons r0
  obtain ⟨v1, vs1, d1, ds1, p1, q1, rfl, rfl, rfl, h1, r1⟩ := hOB
  have hOB := trodAll_nil r1
  obtain ⟨rfl, rfl, rfl⟩ := hOB
  have hOB : args = #[v0, v1] := by cases args; simp_all
  obtain rfl := hOB
  obtain ⟨n0, h0⟩ := h0
  obtain ⟨n1, h1⟩ := h1
  have u22 : Try.prog.underlying 22 = some (.slice 27) := by kernel_rfl
  have u27 : Try.prog.underlying 27 = some (.array 2 3) := by kernel_rfl
  have u3 : Try.prog.underlying 3 = some (.int .i64) := by kernel_rfl
  have o0 := slice_one u22 (hval 0 22 v0 rfl rfl) h0
  rw [o0.1] at h0
  have hOB := pairs_read u22 u27 (by kernel_rfl) (by kernel_rfl) u3 h0
  obtain ⟨l, row⟩ := hOB
  have hOB := int_readO (show Try.prog.underlying 5 = some (.int .u8) by kernel_rfl) (hval 1 5 v1 rfl rfl) h1
  obtain ⟨u, rfl, hu⟩ := hOB
  have hu : 0 ≤ u ∧ u ≤ 255 := by
    simp [Go.Lit.wf] at hu
    exact hu
  have run := once_spec (gt := .leaf) (emb_wf W) row u hu.1 hu.2
  rw [← o0.2, ← tab_eq] at run
  refine (law_runsX Try.checked.mixed (queueAll.oracle16 W) (emb_wrel (mkTab Try.prog .leaf) W (queueAll.no_glob W)) (embs_rel (mkTab Try.prog .leaf) W [v0, .int .u8 u]) run).mono fun e W' ⟨he, hg⟩ => ⟨_, he, post_law (s := Rows.queueOrderSpec) (f := Try.f4) hW' hg (by kernel_rfl) (by kernel_rfl) rfl rfl Try.underlying4 ?_⟩
  intro ds hd
  match ds, hd with
  | [_, _], _ => rfl
theorem over : Rows.queueOrderRow.holds Try.pinned (OpenSpec.ofChange Rows.queueOrderSpec) :=
  OpenClaim.holds_of_wide 4 Try.f4 rfl rfl rfl rfl rfl rfl rfl ⟨rfl, rfl, rfl, rfl, rfl⟩ rfl rfl rfl rfl rfl (by kernel_rfl) Try.func4 (by kernel_rfl)
    (of_decide_eq_true (by kernel_rfl)) (by unfold Func.isWrapper; first | (rw [if_pos (by decide +kernel)]; kernel_rfl) | (rw [if_neg (by decide +kernel)]; exact ⟨rfl, rfl⟩))
    (fun os started H enc _ => lifted os started H enc)
theorem proved : Rows.QueueOrderSaid :=
  over
end queueOrder
end Go.Proofs.Ytohlmbbmeknfiaa
