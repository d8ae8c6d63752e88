/- What the reference's Units answers. -/
import Derived.Test.YtheiionmocfleaaDoorSaW
import Derived.Test.YtheiionmocfleaaDoorPfG
import Derived.Test.YtheiionmocfleaaDoorPfC
/- The reference's Units, and the law SatUnits. -/
namespace Go.Proofs.YtheiionmocfleaaDoor
namespace Pf
namespace Sa
open Go Go.AI Go.Proofs
variable {gt : Tree (List AV)}
/-- What the reference's Units answers. -/
def RefSays (h' : AH) (vars : Int) (L : List (List Int)) (ls : List Int) (r : AV) : Prop :=
  (¬ (valid vars L ∧ ∀ x ∈ ls, ok vars x) ∧ r = .tuple [.nilSlice, .bool false, .int .i64 2]) ∨
  ((valid vars L ∧ ∀ x ∈ ls, ok vars x) ∧ ((Clash L ls ∧ r = .tuple [.nilSlice, .bool true, .int .i64 0]) ∨ ∃ a val, r = .tuple [a, .bool false, .int .i64 0] ∧ VOk vars.toNat L ls val ∧ (∀ x ∈ ls, x ∈ tr val) ∧ (∀ c ∈ L, settled (tr val) c) ∧ IntRow h' a (tr val)))
theorem tr_snoc (l : List Int) (x : Int) : tr (l ++ [x]) = tr l ++ if x = 0 then [] else [x] := by
  unfold tr
  rw [List.filter_append]
  by_cases h : x = 0
  · simp [h]
  · simp [h]
theorem tr_len (l : List Int) : (tr l).length ≤ l.length := List.length_filter_le _ _
set_option maxHeartbeats 8000000 in
theorem refUnits_spec {h : AH} (hw : WF h) {vars : Int} {cl : AV} {L : List (List Int)} {cv : Nat → AV} (C : CnfAt h vars cl L cv) {tv : AV} {ls : List Int} (rt : IntRow h tv ls) (htl : ls.length ≤ 2 ^ 50) :
    EvF (TT gt) X 14 [.agg [.int .i64 vars, cl], tv] h (fun r h' => (h.le h' ∧ WF h') ∧ RefSays h' vars L ls r) := by
  have S0 := HS.all hw
  refine EvF.enter rfl rfl rfl ?_
  repeat (first | refine EvC.seq ?_ | refine EvC.region rfl ?_)
  (refine EvO.cons rfl rfl rfl (EvP.newR (b := .cells [.int .i64 vars, cl] 24 false) (mk := .ptr) S0 rfl rfl (fun h1 b A1 S1 hle1 o1 _ _ => ?_)))
  have f1 := loadAgg (T := TT gt) (t := 24) (off := 0) (n := 2) (r := [.int .i64 vars, cl]) o1 rfl rfl
  repeat (first | refine EvO.plain rfl rfl rfl rfl rfl rfl ?_ | refine EvO.plain rfl rfl rfl rfl rfl (by assumption) ?_ | refine EvC.seq ?_ | refine EvC.region rfl ?_ | refine EvO.nil ?_ | refine at_normal ?_)
  (refine EvO.cons rfl rfl rfl (EvP.callF rfl rfl rfl rfl (EvF.mono (refValid_spec (facts gt) S1.wf (C.mono (fun i o e => S1.le _ _ (hle1 _ _ e)))) ?_)))
  rintro _ h2 _ ⟨hg2, rfl⟩
  have hle2 : h.le h2 := fun i o e => hg2.le _ _ (S1.le _ _ (hle1 _ _ e))
  have f2 := load1 (T := TT gt) (t := 3) (off := 0) (hg2.le _ _ o1) rfl rfl rfl
  clear f1
  by_cases hv : valid vars L
  · rw [decide_eq_true hv]
    have hvars : 0 ≤ vars ∧ vars ≤ 1000000 := ⟨hv.1, by have := hv.2.1; omega⟩
    repeat (first | refine EvO.plain rfl rfl rfl rfl rfl rfl ?_ | refine EvO.plainOn rfl rfl rfl rfl rfl rfl ?_ | refine EvO.plainOn rfl rfl rfl rfl rfl (by assumption) ?_)
    refine EvO.on rfl rfl rfl (EvP.callF rfl rfl rfl rfl (EvF.mono (clause_spec (facts gt) (RowOf.mono hle2 rt) htl vars hvars) ?_))
    rintro _ h2 _ ⟨rfl, rfl⟩
    by_cases hok : ∀ x ∈ ls, ok vars x
    · rw [decide_eq_true hok]
      have f3 := load1 (T := TT gt) (t := 22) (off := 1) (hg2.le _ _ o1) rfl rfl rfl
      repeat (first | refine EvO.plain rfl rfl rfl rfl rfl rfl ?_ | refine EvO.nil ?_ | refine at_normal ?_ | refine EvO.plainOn rfl rfl rfl rfl rfl rfl ?_)
      refine EvC.cond (t := false) rfl (fun e => nomatch e) (fun _ => ?_)
      have hOB : ∃ n : Nat, vars = n := ⟨vars.toNat, by have := hv.1; omega⟩
      obtain ⟨n, rfl⟩ := hOB
      have hLok : ∀ l ∈ L, ∀ x ∈ l, ok n x := fun l hl => by
        have hOB := List.getElem_of_mem hl
        obtain ⟨i, hi, rfl⟩ := hOB
        have := hv.2.2.2.2 i hi
        rwa [List.getD_eq_getElem?_getD, List.getElem?_eq_getElem hi] at this
      repeat (first | refine EvO.plain rfl rfl rfl rfl rfl rfl ?_ | refine EvO.plain rfl rfl rfl rfl rfl (by assumption) ?_ | refine EvC.seq ?_ | refine EvC.region rfl ?_ | refine at_normal ?_ | refine EvC.skip ?_)
      (refine EvO.cons rfl rfl rfl (EvP.callF rfl rfl rfl rfl (EvF.mono (follow_spec hg2.wf (by have := hv.2.1; omega) (C.mono hle2) (RowOf.mono hle2 rt) hLok hok htl) ?_)))
      rintro _ h3 _ ⟨⟨hle3, hw3⟩, a, bb, rfl, hres⟩
      clear f2 f3
      have hle03 : h.le h3 := fun i o e => hle3 _ _ (hle2 _ _ e)
      rcases hres with ⟨rfl, rfl, hcl⟩ | ⟨rfl, val, rv, V, ht, hs⟩
      · repeat (first | refine EvO.plain rfl rfl rfl rfl rfl rfl ?_ | refine EvC.seq ?_ | refine EvC.region rfl ?_ | refine EvO.nil ?_ | refine at_normal ?_ | refine EvC.block ?_)
        refine EvC.loop (fun m σ h' => h' = h3 ∧ ∃ E : Nat → AV, m = 0 ∧ σ = upds [(4, .nilSlice), (5, .bool true), (29, .nilSlice), (30, .int .i64 0), (31, .int .i64 0)] E) (0) ?_ ?_
        · exact ⟨rfl, _, rfl, hold ⟨rfl, rfl, rfl, rfl, rfl, trivial⟩⟩
        · rintro m _ h3 ⟨rfl, E, rfl, rfl⟩
          repeat (first | refine EvO.plain rfl rfl rfl rfl rfl rfl ?_ | refine EvC.seq ?_ | refine EvC.region rfl ?_ | refine EvO.nil ?_ | refine at_normal ?_)
          refine EvC.cond (t := false) rfl (fun e => nomatch e) (fun _ => ?_)
          repeat (first | refine EvO.plain rfl rfl rfl rfl rfl rfl ?_ | refine EvC.seq ?_ | refine EvC.region rfl ?_ | refine EvO.nil ?_ | refine at_normal ?_ | refine EvC.ret ?_ | refine EvC.exit ?_ | refine at_exit ?_ | refine be_same rfl ?_ | refine ro_exit ?_)
          (refine ret_are (vs := [.nilSlice, .bool true, .int .i64 0]) rfl rfl ?_)
          exact ⟨⟨hle03, hw3⟩, .inr ⟨⟨hv, hok⟩, .inl ⟨hcl, rfl⟩⟩⟩
      · have S3 := HS.all hw3
        have hvl := V.len
        have hn := hv.2.1
        have ln := RowOf.len_any (T := TT gt) (t := 25) rv rfl h3
        repeat (first | refine EvO.plain rfl rfl rfl rfl rfl rfl ?_ | refine EvO.plain rfl rfl rfl rfl rfl (by assumption) ?_ | refine EvC.seq ?_ | refine EvC.region rfl ?_ | refine EvO.nil ?_ | refine at_normal ?_ | refine EvC.block ?_)
        clear ln
        refine EvC.loop (fun m σ h' => ∃ (i : Nat) (lv : AV) (col : Nat → Nat) (E : Nat → AV), Step (fun x => x = 1) (fun _ => 0) h3 col h' ∧ HS h3 h' col ∧ Vec col 1 h' 3 1 lv (tr (val.take i)).length ((tr (val.take i)).map (AV.int .i64)) ∧ i ≤ val.length ∧ m = val.length - i ∧ σ = upds [(4, lv), (5, .bool false), (29, a), (30, .int .i64 val.length), (31, .int .i64 i)] E) (val.length) ?_ ?_
        · exact ⟨0, .nilSlice, _, _, Step.refl S3, S3, .nil, Nat.zero_le _, rfl, hold ⟨rfl, rfl, rfl, rfl, rfl, trivial⟩⟩
        · rintro m _ h4 ⟨i, lv, col4, E, A4, S4, VL, hi, rfl, rfl⟩
          repeat (first | refine EvO.plain rfl rfl rfl rfl rfl rfl ?_ | refine EvC.seq ?_ | refine EvC.region rfl ?_ | refine EvO.nil ?_ | refine at_normal ?_)
          refine EvC.decide rfl (fun hlt => ?_) (fun hlt => ?_)
          · have hlt : i < val.length := by omega
            have hOB := (RowOf.mono S4.le rv).at1 (T := TT gt) (t := 25) (e := 3) rfl rfl rfl rfl (k := .i64) (i := i) (by omega) (by omega)
            obtain ⟨q, b1, b2⟩ := hOB
            rw [Int.toNat_natCast] at b2
            have htk : val.take (i + 1) = val.take i ++ [val.getD i 0] := by
              rw [List.take_add_one, List.getElem?_eq_getElem hlt, List.getD_eq_getElem?_getD, List.getElem?_eq_getElem hlt]; rfl
            have htr := tr_snoc (val.take i) (val.getD i 0)
            rw [← htk] at htr
            have hl := tr_len (val.take i)
            rw [List.length_take] at hl
            generalize val.getD i 0 = x at *
            repeat (first | refine EvO.plain rfl rfl rfl rfl rfl rfl ?_ | refine EvO.plain rfl rfl rfl rfl rfl (by assumption) ?_ | refine EvC.seq ?_ | refine EvC.region rfl ?_ | refine EvO.nil ?_ | refine at_normal ?_ | refine EvC.skip ?_ | refine EvC.block ?_)
            clear b1 b2
            by_cases hx : x = 0
            · refine EvC.cond (t := false) (isT (bne_false hx)) (fun e => nomatch e) (fun _ => ?_)
              rw [if_pos hx, List.append_nil] at htr
              repeat (first | refine EvO.plain rfl rfl rfl rfl rfl rfl ?_ | refine EvC.region rfl ?_ | refine EvO.nil ?_ | refine at_normal ?_ | refine EvC.skip ?_ | refine be_normal ?_ | refine ro_normal ?_ | refine EvO.cons rfl rfl rfl (EvP.add64 rfl rfl (by omega) ?_))
              exact ⟨val.length - (i + 1), by omega, i + 1, lv, col4, _, A4, S4, by rw [htr]; exact VL, by omega, rfl, hold ⟨rfl, rfl, rfl, rfl, rfl, trivial⟩⟩
            · refine EvC.cond (t := true) (isT (bne_true hx)) (fun _ => ?_) (fun e => nomatch e)
              rw [if_neg hx] at htr
              repeat (first | refine EvO.plain rfl rfl rfl rfl rfl rfl ?_ | refine EvC.region rfl ?_)
              (refine EvO.cons rfl rfl rfl (EvP.newR (b := .cells [.int .i64 x] 3 false) (mk := .slice 1 1 true) S4 rfl rfl (fun h5 id A5 S5 hle o5 _ _ => ?_)))
              have VL5 := VL.step A5 S4.wf (fun e => e)
              skip
              refine EvO.cons rfl rfl rfl (EvP.appendC S5 VL5 (by decide) rfl rfl rfl rfl rfl rfl rfl rfl rfl (by decide) rfl rfl (afirst_all o5 rfl) rfl (by decide) rfl (by show ((tr (val.take i)).length + 1) * 8 ≤ 70368744177664; omega) (by omega) (fun lv2 h6 c6 A6 S6 X6 => ?_))
              repeat (first | refine EvO.plain rfl rfl rfl rfl rfl rfl ?_ | refine EvC.region rfl ?_ | refine EvO.nil ?_ | refine at_normal ?_ | refine be_normal ?_ | refine ro_normal ?_ | refine EvO.cons rfl rfl rfl (EvP.add64 rfl rfl (by omega) ?_))
              refine ⟨val.length - (i + 1), by omega, i + 1, lv2, c6, _, (A4.trans (A5.mono fun c e => e.elim)).trans A6, S6.down hle, ?_, by omega, rfl, hold ⟨rfl, rfl, rfl, rfl, rfl, trivial⟩⟩
              rw [htr, List.length_append, List.map_append]; exact X6
          · have hend : i = val.length := by omega
            subst hend
            rw [List.take_length] at VL
            repeat (first | refine EvO.plain rfl rfl rfl rfl rfl rfl ?_ | refine EvC.seq ?_ | refine EvC.region rfl ?_ | refine EvO.nil ?_ | refine at_normal ?_ | refine EvC.ret ?_ | refine EvC.exit ?_ | refine at_exit ?_ | refine be_same rfl ?_ | refine ro_exit ?_)
            (refine ret_are (vs := [lv, .bool false, .int .i64 0]) rfl rfl ?_)
            exact ⟨⟨fun i o e => S4.le _ _ (hle03 _ _ e), S4.wf⟩, .inr ⟨⟨hv, hok⟩, .inr ⟨lv, val, rfl, V, ht, hs, Vec.ints VL⟩⟩⟩
    · rw [decide_eq_false hok]
      repeat (first | refine EvO.plain rfl rfl rfl rfl rfl rfl ?_ | refine EvO.nil ?_ | refine at_normal ?_ | refine EvO.plainOn rfl rfl rfl rfl rfl rfl ?_)
      refine EvC.cond (t := true) rfl (fun _ => ?_) (fun e => nomatch e)
      repeat (first | refine EvO.plain rfl rfl rfl rfl rfl rfl ?_ | refine EvC.seq ?_ | refine EvC.region rfl ?_ | refine EvO.nil ?_ | refine at_normal ?_ | refine EvC.ret ?_ | refine at_ret ?_)
      (refine ret_are (vs := [.nilSlice, .bool false, .int .i64 2]) rfl rfl ?_)
      exact ⟨⟨hle2, hg2.wf⟩, .inl ⟨fun e => hok e.2, rfl⟩⟩
  · rw [decide_eq_false hv]
    repeat (first | refine EvO.plain rfl rfl rfl rfl rfl rfl ?_ | refine EvO.nil ?_ | refine at_normal ?_ | refine EvO.off rfl rfl rfl ?_)
    refine EvC.cond (t := true) rfl (fun _ => ?_) (fun e => nomatch e)
    repeat (first | refine EvO.plain rfl rfl rfl rfl rfl rfl ?_ | refine EvC.seq ?_ | refine EvC.region rfl ?_ | refine EvO.nil ?_ | refine at_normal ?_ | refine EvC.ret ?_ | refine at_ret ?_)
    (refine ret_are (vs := [.nilSlice, .bool false, .int .i64 2]) rfl rfl ?_)
    exact ⟨⟨hle2, hg2.wf⟩, .inl ⟨fun e => hv e.1, rfl⟩⟩
end Sa
end Pf
end Go.Proofs.YtheiionmocfleaaDoor
