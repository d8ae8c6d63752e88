/- Copies of sets and of lines; sets that are the same. -/
import Derived.Test.YtfjloafebkjadaaGreatDoorPhB
import Derived.Test.YtfjloafebkjadaaGreatDoorPgN
import Derived.Test.YtfjloafebkjadaaGreatDoorPgR
namespace Go.Proofs.YtfjloafebkjadaaGreatDoor
namespace Pf
open Go Go.AI Go.Proofs
variable {gt : Tree (List AV)}
/-- What is read of an argument has no odd empty rows. -/
theorem nz_cells {W : World} {v : AV} {n : Nat} {g : Nat → AV} (r : RowOf (embH W) 1 v n (fun i => [g i])) : ∀ i, i < n → NZ (g i) := fun i hi => by
  cases r with
  | nil => omega
  | empty => omega
  | @mk id off _ cap ex cs _ hc hg =>
    have hOB := sub_one (hg i hi)
    obtain ⟨x, h1, h2⟩ := hOB
    injection h1 with h1 _
    rw [h1]
    unfold cellsOf at hc
    rw [embH_get] at hc
    cases hb : W.heap[id]? with
    | none => rw [hb] at hc; cases hc
    | some o =>
      rw [hb] at hc
      cases o with
      | cells c e fz =>
        have hc : some (c.toList.map (embC W)) = some cs := hc
        cases hc
        rw [lget_eq, List.getElem?_map] at h2
        cases hu : c.toList[off + i * 1]? with
        | none => rw [hu] at h2; cases h2
        | some u => rw [hu] at h2; cases h2; exact nz_emb W u
      | _ => cases hc
theorem sub_more {cs : List AV} {off k : Nat} {a b : List AV} (h1 : sub cs off (k * 3) = some a) (h2 : sub cs (off + k * 3) 3 = some b) : sub cs off ((k + 1) * 3) = some (a ++ b) := by
  have hOB := sub_some h1
  obtain ⟨x1, x2, x3⟩ := hOB
  have hOB := sub_some h2
  obtain ⟨y1, y2, y3⟩ := hOB
  unfold sub
  rw [if_pos (by omega), x2, y2, Nat.succ_mul, List.take_add, List.drop_drop]
theorem lines_first {h : AH} {v : AV} {ls : List (Int × Int × Int)} (row : LinesAt h v ls) (h0 : 0 < ls.length) : alenOf v = some ls.length ∧ afirst h 3 ls.length v = some (ls.flatMap lineC) := by
  unfold LinesAt at row
  generalize hn : ls.length = n at row
  cases row with
  | nil => omega
  | empty => omega
  | @mk id off _ cap ex cs _ hc hg =>
    refine ⟨rfl, ?_⟩
    simp only [afirst, hc]
    have : ∀ k, k ≤ n → sub cs off (k * 3) = some ((ls.take k).flatMap lineC) := by
      intro k
      induction k with
      | zero =>
        intro _
        have := sub_some (hg 0 (by omega))
        unfold sub
        rw [Nat.zero_mul, if_pos (by omega), List.take_zero, List.take_zero]; rfl
      | succ k ih =>
        intro hk
        have e : ls.take (k + 1) = ls.take k ++ [ls.getD k ln0] := by
          rw [List.take_add_one, List.getD_eq_getElem?_getD, List.getElem?_eq_getElem (by omega)]; rfl
        rw [e, List.flatMap_append]
        refine sub_more (ih (by omega)) ?_
        have := hg k (by omega)
        rw [this]
        simp [lineC]
    have h3 := this n (Nat.le_refl _)
    rw [List.take_of_length_le (by omega)] at h3
    exact h3
theorem buildCn {n : Int} {v : AV} (hv : v.cells = [v] ∧ scalar v = true) : abuild (TT gt) 24 [(0, .int .i64 n), (1, v)] = some (.agg [.int .i64 n, v]) := by
  obtain ⟨h1, h2⟩ := hv
  cases v <;> first | rfl | (cases h2)
theorem fres_cell {T : Tab} {σ : Nat → AV} {h : AH} {a : Nat} {t : TypeId} {v : AV} (e : aload T h t (σ a) = some v) : fresults T σ h [.cell a t] = some [v] := by
  simp only [fresults, e]; rfl
/-- A copy of a set. -/
theorem Own_spec {h : AH} (hw : WF h) {n : Int} {cl : AV} {L : List (List Int)} {cv : Nat → AV} (C : CnfAt h n cl L cv) (nz : ∀ i, i < L.length → NZ (cv i)) (hb : ∀ l ∈ L, l.length ≤ 2 ^ 36) (hm : L.length ≤ 2 ^ 30) :
    EvF (TT gt) X 33 [.agg [.int .i64 n, cl]] h (fun r h' => (h.le h' ∧ WF h') ∧ ∃ w, r = .agg [.int .i64 n, w] ∧ (∃ cv', CnfAt h' n w L cv') ∧ NZ w) := by
  have S0 := HS.all hw
  refine EvF.enter rfl rfl rfl ?_
  repeat (first | refine EvC.seq ?_ | refine EvC.region rfl ?_)
  (refine EvO.cons rfl rfl rfl (EvP.newR (b := .cells [.int .i64 n, cl] 24 false) (mk := .ptr) S0 rfl rfl (fun h1 b1 A1 S1 hle1 o1 _ _ => ?_)))
  skip
  (refine EvO.cons rfl rfl rfl (EvP.newC (b := .cells [.int .i64 0, .nilSlice] 24 false) (mk := .ptr) S1 1 rfl rfl (by decide) (fun h2 p2 col2 A2 S2 o2 c2 _ => ?_)))
  have b2 := S2.le _ _ (AH.get_add h b1 (.cells [.int .i64 n, cl] 24 false))
  have hle2 : h.le h2 := AH.le.trans' hle1 S2.le
  have f1 := load1 (T := TT gt) (t := 3) (off := 0) b2 rfl rfl rfl
  have f2 := load1 (T := TT gt) (t := 22) (off := 1) b2 rfl rfl rfl
  have hGG : h2.le h2 := fun _ _ e => e
  repeat (first | refine EvC.seq ?_ | refine EvO.nil ?_ | refine at_normal ?_)
  refine EvC.drawnH 1 (h2) (p := [⟨0, false, 0, 1⟩, ⟨1, false, 0, 1⟩, ⟨2, false, 0, 0⟩, ⟨3, false, 0, 0⟩, ⟨4, true, 0, 1⟩, ⟨5, false, 1, 1⟩, ⟨6, true, 1, 2⟩]) rfl (by kernel_rfl) (by kernel_rfl) ?_
  repeat (first | refine EvH.easy1 rfl rfl rfl rfl rfl rfl rfl rfl rfl rfl ?_ | refine EvH.easy1 rfl rfl rfl rfl rfl rfl rfl rfl rfl (by assumption) ?_ | refine EvH.easyG (by assumption) rfl rfl rfl rfl rfl rfl rfl rfl rfl rfl (by first | exact veq_s rfl | assumption) ?_ | refine EvH.easyG (by assumption) rfl rfl rfl rfl rfl rfl rfl rfl rfl (by assumption) (by first | exact veq_s rfl | assumption) ?_)
  refine EvH.act rfl rfl rfl rfl rfl rfl rfl (EvP.callF rfl rfl rfl rfl (EvF.mono (own_specG S2 (C.mono hle1) nz hb hm) ?_))
  rintro r h3 hn3 ⟨⟨hl3, hw3⟩, G3, S3, hG3, ⟨cv', D3⟩, nzr⟩
  refine ⟨fun _ => hl3, ?_⟩
  clear f1 f2
  have sc := D3.rows.sc
  skip
  (refine EvH.quiet1 rfl rfl rfl rfl rfl rfl rfl rfl ((show abuild (TT gt) 24 [(0, .int .i64 n), (1, r)] = _ from buildCn sc)) ?_)
  (refine EvH.act0 rfl rfl rfl rfl rfl rfl (EvP.storeC (v := .agg [.int .i64 n, r]) S3 1 (hl3 _ _ o2) c2 (by decide) rfl rfl rfl rfl (by show ([AV.int .i64 n, r].all Go.AI.scalar) = true; rw [List.all_cons, List.all_cons, sc.2]; rfl) (by show 0 + 2 ≤ 2; decide) (fun h4 A4 S4 o4 hoth _ => ⟨fun e => absurd e (by decide), ?_⟩)))
  have o4 : h4.t.get p2 = some (.cells [.int .i64 n, r] 24 false) := o4
  have f5 := loadAgg (T := TT gt) (t := 24) (off := 0) (n := 2) (r := [.int .i64 n, r]) o4 rfl rfl
  have hl4 : h.le h4 := AH.le.trans' hle1 (AH.le.trans' hG3 S4.le)
  have D4 := D3.mono S4.le
  repeat (first | refine at_normal ?_ | refine EvC.ret ?_ | refine EvH.nil ?_)
  refine end_ret (vs := [.agg [.int .i64 n, r]]) ?_ ?_
  · exact fres_cell (a := 2) f5
  exact ⟨⟨hl4, S4.wf⟩, r, rfl, ⟨cv', D4⟩, nzr⟩
theorem Same_spec {h : AH} (hw : WF h) {n : Int} {u v : AV} {t : List (List Int)} {cu cv : Nat → AV} (C : CnfAt h n u t cu) (D : CnfAt h n v t cv) :
    EvF (TT gt) X 35 [.agg [.int .i64 n, u], .agg [.int .i64 n, v]] h (fun r h' => (h.le h' ∧ WF h') ∧ r = .bool true) := by
  have S0 := HS.all hw
  refine EvF.enter rfl rfl rfl ?_
  repeat (first | refine EvC.seq ?_ | refine EvC.region rfl ?_)
  (refine EvO.cons rfl rfl rfl (EvP.newR (b := .cells [.int .i64 n, u] 24 false) (mk := .ptr) S0 rfl rfl (fun h1 b1 A1 S1 hle1 o1 _ _ => ?_)))
  skip
  (refine EvO.cons rfl rfl rfl (EvP.newR (b := .cells [.int .i64 n, v] 24 false) (mk := .ptr) S1 rfl rfl (fun h2 b2 A2 S2 hle2 o2 _ _ => ?_)))
  have e1 := S2.le _ _ (hle2 _ _ (AH.get_add h b1 (.cells [.int .i64 n, u] 24 false)))
  have f1 := load1 (T := TT gt) (t := 3) (off := 0) e1 rfl rfl rfl
  have f2 := load1 (T := TT gt) (t := 22) (off := 1) e1 rfl rfl rfl
  have f3 := load1 (T := TT gt) (t := 3) (off := 0) o2 rfl rfl rfl
  have f4 := load1 (T := TT gt) (t := 22) (off := 1) o2 rfl rfl rfl
  have hle : h.le h2 := AH.le.trans' hle1 (AH.le.trans' hle2 S2.le)
  repeat (first | refine EvO.plain rfl rfl rfl rfl rfl rfl ?_ | refine EvO.plain rfl rfl rfl rfl rfl (by assumption) ?_ | refine EvC.seq ?_ | refine EvC.region rfl ?_ | refine EvO.nil ?_ | refine at_normal ?_)
  refine EvO.cons rfl rfl rfl (EvP.quiet rfl (isB (q := true) (beq_true rfl)) ?_)
  repeat (first | refine EvO.plain rfl rfl rfl rfl rfl rfl ?_ | refine EvO.plainOn rfl rfl rfl rfl rfl rfl ?_ | refine EvO.plainOn rfl rfl rfl rfl rfl (by assumption) ?_)
  refine EvO.on rfl rfl rfl (EvP.callF rfl rfl rfl rfl (EvF.mono (sameClauses_spec (C.mono hle) (D.mono hle)) ?_))
  rintro _ h2 _ ⟨rfl, rfl⟩
  repeat (first | refine EvO.plain rfl rfl rfl rfl rfl rfl ?_ | refine EvO.nil ?_ | refine at_normal ?_ | refine EvC.ret ?_)
  (refine ret_is (v := .bool true) rfl rfl ?_)
  exact ⟨⟨hle, S2.wf⟩, rfl⟩
end Pf
end Go.Proofs.YtfjloafebkjadaaGreatDoor
