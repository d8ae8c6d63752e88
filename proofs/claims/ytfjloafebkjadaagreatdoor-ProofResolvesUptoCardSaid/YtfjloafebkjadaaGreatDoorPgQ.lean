/- The law's contract and frame. -/
import Derived.Test.YtfjloafebkjadaaGreatDoorPgP
import Derived.Test.YtfjloafebkjadaaGreatDoorPgS
namespace Go.Proofs.YtfjloafebkjadaaGreatDoor
namespace Pf
open Go Go.AI Go.Proofs
open Go.ChangeShapes Go.WideShapes Go.ChangeAt Go.RowKit
theorem ab_readB {H : Type} {enc : TypeId × Value → H} {P : Program} {w : World} {m B : Nat} {v : Value} {x : DataW H × List MemPlace} (h41 : P.underlying 41 = some (.array 2 35)) (c41 : P.cellsOf 41 = 2) (c35 : P.cellsOf 35 = 1) (h35 : P.underlying 35 = some (.slice 3)) (c3 : P.cellsOf 3 = 1) (h3 : P.underlying 3 = some (.int .i64))
    (hB : Rows.uptoBulk x.1 ≤ B) (h : DataW.trod enc P w 0 (fun _ => true) true m 41 v.cells.toList = some x) : ∃ a b A C, emb w v = .agg [embC w a, embC w b] ∧ IntRow (embH w) (embC w a) A ∧ IntRow (embH w) (embC w b) C ∧ A.length ≤ B ∧ C.length ≤ B := by
  obtain ⟨xs, k, rfl, rfl, hl, hxl, hel⟩ := DataW.trod_array h41 h
  rw [c41] at hl
  have hv : ∃ a b, v = .agg ⟨[a, b]⟩ := by
    cases v
    case agg cs =>
      obtain ⟨cs⟩ := cs
      match cs, hl with
      | [a, b], _ => exact ⟨a, b, rfl⟩
    all_goals simp [Value.cells] at hl
  obtain ⟨a, b, rfl⟩ := hv
  have e0 := hel 0 (by decide)
  have e1 := hel 1 (by decide)
  rw [c35] at e0 e1
  match xs, hxl with
  | [y0, y1], _ =>
    have e0 : DataW.trod enc P w 0 (fun _ => true) true k 35 [a] = some y0 := e0
    have e1 : DataW.trod enc P w 0 (fun _ => true) true k 35 [b] = some y1 := e1
    simp only [List.map_cons, List.map_nil, Rows.uptoBulk, Rows.uptoBulkAll] at hB
    obtain ⟨A, a1, a2⟩ := list_read (B := B) c3 h35 h3 (by omega) e0
    obtain ⟨C, b1, b2⟩ := list_read (B := B) c3 h35 h3 (by omega) e1
    exact ⟨a, b, A, C, rfl, a1, b1, a2, b2⟩
end Pf
namespace proofResolves
open Go Go.AI Go.Proofs Pf
open Go.ChangeShapes Go.WideShapes Go.ChangeAt Go.RowKit
set_option maxRecDepth 100000 in
theorem contract (H : Type) (enc : TypeId × Value → H) (W : World) (base : Nat) (args : Array Value) (ds gs : List (DataW H)) (before : List MemPlace)
    (hval : ∀ (j : Nat) t v, Tryz.f5.params[j]? = some t → args[j]? = some v → Value.okWide Tryz.prog W .any base t v)
    (hW : DataW.Whole enc Tryz.prog Tryz.f5.params.toList Rows.proofResolvesSpec.vars false W args.toList ds gs before) (hbulk : Rows.uptoSmall H (ds ++ gs) = true) (hL : laidMetH Tryz.prog laid W) :
    Calls Tryz.prog 5 args W fun e W' => ∃ v, e = .returned v ∧ Rows.proofResolvesSpec.post enc Tryz.prog Tryz.f5 false true false false W args v W' := by
  have hW' := hW
  obtain ⟨p, q, hA0, hV, hpq, hfz, hnd⟩ := hW
  have hA : DataW.TrodAll enc Tryz.prog W 0 (fun _ => true) true Tryz.f5.params.toList args.toList ds p := hA0
  rw [Tryz.params5] at hA hval
  obtain ⟨v0, vs0, d0, ds0, p0, q0, hargs, rfl, rfl, h0, r0⟩ := trodAll_cons hA
  obtain ⟨v1, vs1, d1, ds1, p1, q1, rfl, rfl, rfl, h1, r1⟩ := trodAll_cons r0
  obtain ⟨v2, vs2, d2, ds2, p2, q2, rfl, rfl, rfl, h2, r2⟩ := trodAll_cons r1
  obtain ⟨rfl, rfl, rfl⟩ := trodAll_nil r2
  obtain rfl : args = #[v0, v1, v2] := by cases args; simp_all
  obtain ⟨n0, h0⟩ := h0
  obtain ⟨n1, h1⟩ := h1
  obtain ⟨n2, h2⟩ := h2
  have hb : Rows.uptoBulkAll ([d0, d1, d2] ++ gs) ≤ 1048576 := of_decide_eq_true hbulk
  have hb2 : Rows.uptoBulk d2 ≤ 1048576 := Nat.le_trans (bulk_part (by simp)) hb
  have hb0 : Rows.uptoBulk d0 ≤ 1048576 := Nat.le_trans (bulk_part (by simp)) hb
  have u22 : Tryz.prog.underlying 22 = some (.slice 35) := by kernel_rfl
  have u35 : Tryz.prog.underlying 35 = some (.slice 3) := by kernel_rfl
  have u3 : Tryz.prog.underlying 3 = some (.int .i64) := by kernel_rfl
  have u40 : Tryz.prog.underlying 40 = some (.slice 43) := by kernel_rfl
  have c35 : Tryz.prog.cellsOf 35 = 1 := by kernel_rfl
  have c3 : Tryz.prog.cellsOf 3 = 1 := by kernel_rfl
  obtain ⟨vars, cl, L, cv, he, C, hl1, hl2, nc⟩ := set_read (B := 1048576) Tryz.underlying24 (by kernel_rfl) ⟨rfl, by kernel_rfl, by kernel_rfl⟩ ⟨rfl, by kernel_rfl, rfl⟩ u22 c35 u35 u3 c3 hb0 (by omega) h0
  have o1 := slice_one u40 (hval 1 40 v1 rfl rfl) h1
  rw [o1.1] at h1
  obtain ⟨ls, row, hls⟩ := lines_read u40 Tryz.underlying43 (by kernel_rfl) ⟨rfl, by kernel_rfl, by kernel_rfl⟩ ⟨rfl, by kernel_rfl, by kernel_rfl⟩ ⟨rfl, by kernel_rfl, by kernel_rfl⟩ h1
  have t1 := total_bound L hl2
  have t3 : L.length * 1048576 ≤ 1048576 * 1048576 := Nat.mul_le_mul_right _ hl1
  obtain ⟨a, b, A, B, he2, ra, rb, ha, hb'⟩ := ab_readB (B := 1048576) (show Tryz.prog.underlying 41 = some (.array 2 35) by kernel_rfl) (by kernel_rfl) c35 u35 c3 u3 hb2 h2
  have run := resolves_law (gt := gt) (emb_wf W) C nc row hls ra rb (by omega) (by omega) (by omega) (by omega)
  rw [← he, ← he2, ← o1.2, ← tab_eq] at run
  refine (law_runsX Tryz.checked.mixed (oracle27 W) (emb_wrel (mkTab Tryz.prog gt) W (glob hL)) (embs_rel (mkTab Tryz.prog gt) W [v0, v1, v2]) run).mono fun e W' ⟨he, hg⟩ => ⟨_, he, post_law (s := Rows.proofResolvesSpec) (f := Tryz.f5) hW' hg (by kernel_rfl) (by kernel_rfl) rfl rfl Tryz.underlying4 ?_⟩
  intro ds hd
  match ds, hd with
  | [_, _, _], _ => rfl
theorem reads (os : Os) {H : Type} (enc : TypeId × Value → H) : ∃ places, DataW.whole enc Tryz.prog ((laidWorld os).forCall (fun _ _ => 0) ⟨#[], #[.agg #[.int .i64 0, .slice none 0 0], .slice none 0 0, .agg #[.slice none 0 0, .slice none 0 0]], []⟩).memory Tryz.f5.params.toList Rows.proofResolvesSpec.vars false #[Value.agg #[.int .i64 0, .slice none 0 0], .slice none 0 0, .agg #[.slice none 0 0, .slice none 0 0]].toList 8 = some ([.agg [.lit (.int .i64 0), .nil], .nil, .agg [.nil, .nil]], [], places) :=
  ⟨[], by kernel_rfl⟩
set_option maxRecDepth 100000 in
theorem lifted (os : Os) (started : os.Started) (H : Type) (enc : TypeId × Value → H) (F : Stop.Interp) :
    ReturnsInHanded {} Tryz.checked os 5 .any ((Rows.OpenSpec.upto Rows.proofResolvesSpec).preRow enc Tryz.prog Tryz.f5 Rows.proofResolvesUptoRow.domain false Rows.proofResolvesUptoRow.laid) (((Rows.OpenSpec.upto Rows.proofResolvesSpec).at F).post enc Tryz.prog Tryz.f5 false true false false) := by
  obtain ⟨places, hx⟩ := reads os enc
  refine returnsInHanded_of_row (C := Tryz.checked) (s := Rows.OpenSpec.upto Rows.proofResolvesSpec) (by kernel_rfl) started (by kernel_rfl) Tryz.func5
    (witness_row_at (enc := enc) (C := Tryz.checked) false (laidWorld os) #[.agg #[.int .i64 0, .slice none 0 0], .slice none 0 0, .agg #[.slice none 0 0, .slice none 0 0]] rfl (by kernel_rfl) (by kernel_rfl) (by kernel_rfl)
      (OpenSpec.preRow_of_cond 8 hx (by kernel_rfl) (fun k hk => by cases hk; kernel_rfl) (by kernel_rfl) (met os _))) ?_
  intro W base args ds gs before hval hW _ hcond _ hL _ _
  exact contract H enc W base args ds gs before hval hW (hcond _ rfl) hL
end proofResolves
end Go.Proofs.YtfjloafebkjadaaGreatDoor
