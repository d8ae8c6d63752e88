/- The arguments as they are read; the law's contract. -/
import Derived.Test.YtfjloafebkjadaaGreatDoorPf9
import Derived.Test.YtfjloafebkjadaaGreatDoorPfP
import Derived.Test.YtfjloafebkjadaaGreatDoorAwake
import Derived.Test.YtfjloafebkjadaaGreatDoorCards
import Derived.Test.YtfjloafebkjadaaGreatDoorTie
import Derived.WalkKit
import Derived.ProofKit
import Derived.OpenShut
import Derived.SevenTiedAt
import Derived.Deep.DeepHandedRow
import Derived.Lib.LaidTab
namespace Go.Proofs.YtfjloafebkjadaaGreatDoor
namespace Pf
open Go Go.AI Go.Proofs
open Go.ChangeShapes Go.WideShapes Go.ChangeAt Go.RowKit
/-- A list of whole numbers, as it is read, of so much bulk. -/
theorem list_read {H : Type} {enc : TypeId × Value → H} {P : Program} {w : World} {B : Nat} {n : Nat} {b : Value} {z : DataW H × List MemPlace} (c3 : P.cellsOf 3 = 1) (h35 : P.underlying 35 = some (.slice 3)) (h3 : P.underlying 3 = some (.int .i64))
    (hB : Rows.uptoBulk z.1 ≤ B) (h : DataW.trod enc P w 0 (fun _ => true) true n 35 [b] = some z) : ∃ l : List Int, IntRow (embH w) (embC w b) l ∧ l.length ≤ B := by
  obtain ⟨n', f', hr', hf'⟩ := read_row1 h35 c3 h
  have hn' : n' ≤ B := by
    rcases hf' with rfl | ⟨el', sp', h7, h8, _⟩
    · omega
    · rw [h7] at hB
      have := (bulk_slice el' sp').1
      omega
  have hints : ∀ i, i < n' → ∃ z, f' i = .int .i64 z := fun i hi => by
    rcases hf' with rfl | ⟨el', sp', h7, h8, h9⟩
    · omega
    · obtain ⟨m2, y2, h10, _⟩ := h9 i hi
      obtain ⟨z, hz, _⟩ := read_int h3 h10
      exact ⟨z, hz⟩
  refine ⟨(List.range n').map fun i => match f' i with | .int _ z => z | _ => 0, ?_, by simpa using hn'⟩
  have hlen : ((List.range n').map fun i => match f' i with | .int _ z => z | _ => 0).length = n' := by simp
  unfold IntRow
  rw [hlen]
  refine hr'.congr fun i hi => ?_
  obtain ⟨z, hz⟩ := hints i hi
  rw [List.getD_eq_getElem?_getD, List.getElem?_map, List.getElem?_range hi, hz]
  simp only [Option.map_some, Option.getD_some, hz]
  rfl
end Pf
namespace proofMore
open Go Go.AI Go.Proofs Pf
open Go.ChangeShapes Go.WideShapes Go.ChangeAt Go.RowKit
set_option maxRecDepth 100000 in
theorem contract (H : Type) (enc : TypeId × Value → H) (W : World) (base : Nat) (args : Array Value) (ds gs : List (DataW H)) (before : List MemPlace)
    (hval : ∀ (j : Nat) t v, Tryz.f11.params[j]? = some t → args[j]? = some v → Value.okWide Tryz.prog W .any base t v)
    (hW : DataW.Whole enc Tryz.prog Tryz.f11.params.toList Rows.proofMoreSpec.vars false W args.toList ds gs before) (hbulk : Rows.uptoSmall H (ds ++ gs) = true) (hL : laidMetH Tryz.prog laid W) :
    Calls Tryz.prog 11 args W fun e W' => ∃ v, e = .returned v ∧ Rows.proofMoreSpec.post enc Tryz.prog Tryz.f11 false true false false W args v W' := by
  have hW' := hW
  obtain ⟨p, q, hA0, hV, hpq, hfz, hnd⟩ := hW
  have hA : DataW.TrodAll enc Tryz.prog W 0 (fun _ => true) true Tryz.f11.params.toList args.toList ds p := hA0
  rw [Tryz.params11] at hA hval
  obtain ⟨v0, vs0, d0, ds0, p0, q0, hargs, rfl, rfl, h0, r0⟩ := trodAll_cons hA
  obtain ⟨v1, vs1, d1, ds1, p1, q1, rfl, rfl, rfl, h1, r1⟩ := trodAll_cons r0
  obtain ⟨v2, vs2, d2, ds2, p2, q2, rfl, rfl, rfl, h2, r2⟩ := trodAll_cons r1
  obtain ⟨rfl, rfl, rfl⟩ := trodAll_nil r2
  obtain rfl : args = #[v0, v1, v2] := by cases args; simp_all
  obtain ⟨n0, h0⟩ := h0
  obtain ⟨n1, h1⟩ := h1
  obtain ⟨n2, h2⟩ := h2
  have hb : Rows.uptoBulkAll ([d0, d1, d2] ++ gs) ≤ 1048576 := of_decide_eq_true hbulk
  have hb0 : Rows.uptoBulk d0 ≤ 1048576 := Nat.le_trans (bulk_part (by simp)) hb
  have hb1 : Rows.uptoBulk d1 ≤ 1048576 := Nat.le_trans (bulk_part (by simp)) hb
  have u22 : Tryz.prog.underlying 22 = some (.slice 35) := by kernel_rfl
  have u35 : Tryz.prog.underlying 35 = some (.slice 3) := by kernel_rfl
  have u3 : Tryz.prog.underlying 3 = some (.int .i64) := by kernel_rfl
  have c35 : Tryz.prog.cellsOf 35 = 1 := by kernel_rfl
  have c3 : Tryz.prog.cellsOf 3 = 1 := by kernel_rfl
  obtain ⟨vars, cl, L, cv, he, C, hl1, hl2, nc⟩ := set_read (B := 1048576) Tryz.underlying24 (by kernel_rfl) ⟨rfl, by kernel_rfl, by kernel_rfl⟩ ⟨rfl, by kernel_rfl, rfl⟩ u22 c35 u35 u3 c3 hb0 (by omega) h0
  have o1 := slice_one u22 (hval 1 22 v1 rfl rfl) h1
  have o2 := slice_one u35 (hval 2 35 v2 rfl rfl) h2
  rw [o1.1] at h1
  obtain ⟨P, pc, D, hp1, hp2⟩ := lists_read (B := 1048576) u22 c35 u35 u3 c3 hb1 (by omega) h1 vars
  have hb2 : Rows.uptoBulk d2 ≤ 1048576 := Nat.le_trans (bulk_part (by simp)) hb
  rw [o2.1] at h2
  obtain ⟨l, row, hl⟩ := list_read (B := 1048576) c3 u35 u3 hb2 h2
  have t1 := total_bound L hl2
  have t2 := total_bound P hp2
  have t3 : L.length * 1048576 ≤ 1048576 * 1048576 := Nat.mul_le_mul_right _ hl1
  have t4 : P.length * 1048576 ≤ 1048576 * 1048576 := Nat.mul_le_mul_right _ hp1
  have run := more_law (gt := gt) (emb_wf W) C D row nc (nz_emb W v1) (by omega) (by omega)
  rw [← he, ← o1.2, ← o2.2, ← tab_eq] at run
  refine (law_runs Tryz.checked.mixed aw (emb_wrel (mkTab Tryz.prog gt) W (glob hL)) (embs_rel (mkTab Tryz.prog gt) W [v0, v1, v2]) run).mono fun e W' ⟨he, hg⟩ => ⟨_, he, post_law (s := Rows.proofMoreSpec) (f := Tryz.f11) hW' hg (by kernel_rfl) (by kernel_rfl) rfl rfl Tryz.underlying4 ?_⟩
  intro ds hd
  match ds, hd with
  | [_, _, _], _ => rfl
end proofMore
end Go.Proofs.YtfjloafebkjadaaGreatDoor
