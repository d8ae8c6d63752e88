/- The law SatFollows answers true. -/
import Derived.Test.YtheiionmocfleaaDoorSaX
/- The law SatFollows. -/
namespace Go.Proofs.YtheiionmocfleaaDoor
namespace Pf
namespace Sa
open Go Go.AI Go.Proofs
variable {gt : Tree (List AV)}
theorem nz_emb (w : World) (v : Value) : NZ (embC w v) := by
  unfold embC
  split
  · split <;> trivial
  · trivial
  · rename_i h1
    split
    · rename_i len _ _
      cases len with
      | zero => exact (h1 rfl).elim
      | succ k => trivial
    · trivial
  · unfold toAV
    split <;> first | trivial | simp [NZ]
theorem holdsB_neg {m : List Bool} {x : Int} (hx : ok m.length x) : holdsB m (-x) = !holdsB m x := by
  obtain ⟨h0, h1, h2⟩ := hx
  have ha : absI (-x) = absI x := by unfold absI; split <;> split <;> omega
  unfold holdsB
  rw [ha]
  have hd : decide (-x > 0) = !decide (x > 0) := by
    by_cases h : x > 0
    · rw [decide_eq_true h, decide_eq_false (by omega)]; rfl
    · rw [decide_eq_false h, decide_eq_true (by omega)]; rfl
  rw [hd]
  cases m.getD (absI x - 1).toNat false <;> cases decide (x > 0) <;> rfl
theorem der_ok {n : Int} {L : List (List Int)} {ls : List Int} (hL : ∀ l ∈ L, ∀ x ∈ l, ok n x) (hl : ∀ x ∈ ls, ok n x) {x : Int} (d : Der L ls x) : ok n x := by
  cases d with
  | tak h => exact hl x h
  | unit hc hx _ => exact hL _ hc x hx
theorem ok_neg {n x : Int} (h : ok n x) : ok n (-x) := by
  obtain ⟨h0, h1, h2⟩ := h
  exact ⟨by omega, by omega, by omega⟩
/-- What follows holds in each model in which the literals hold. -/
theorem der_holds {m : List Bool} {L : List (List Int)} {ls : List Int} (hL : ∀ l ∈ L, ∀ x ∈ l, ok m.length x) (hl : ∀ x ∈ ls, ok m.length x) (hA : ∀ c ∈ L, ∃ z ∈ c, holdsB m z = true) (hh : ∀ x ∈ ls, holdsB m x = true) {x : Int} (d : Der L ls x) : holdsB m x = true := by
  induction d with
  | tak h => exact hh _ h
  | @unit x c hc hx hd ih =>
    have hOB := hA c hc
    obtain ⟨z, hz, hz2⟩ := hOB
    by_cases e : z = x
    · rw [← e]; exact hz2
    · have := ih z hz e
      rw [holdsB_neg (hL c hc z hz), hz2] at this
      cases this
theorem clash_holds {m : List Bool} {L : List (List Int)} {ls : List Int} (hL : ∀ l ∈ L, ∀ x ∈ l, ok m.length x) (hl : ∀ x ∈ ls, ok m.length x) (hA : ∀ c ∈ L, ∃ z ∈ c, holdsB m z = true) (hh : ∀ x ∈ ls, holdsB m x = true) : ¬ Clash L ls := by
  rintro (⟨x, h1, h2⟩ | ⟨c, hc, h⟩)
  · have := der_holds hL hl hA hh h2
    rw [holdsB_neg (der_ok hL hl h1), der_holds hL hl hA hh h1] at this
    cases this
  · have hOB := hA c hc
    obtain ⟨z, hz, hz2⟩ := hOB
    have := der_holds hL hl hA hh (h z hz)
    rw [holdsB_neg (hL c hc z hz), hz2] at this
    cases this
theorem bools_cells (M : List Bool) (N : Nat) : (List.range (Nat.min M.length N)).map (fun i => AV.bool (M.getD i false)) ++ (List.replicate N (AV.bool false)).drop (Nat.min M.length N) = (M.take N ++ List.replicate (N - M.length) false).map AV.bool := by
  apply List.ext_getElem?
  intro i
  have hmin : Nat.min M.length N = min M.length N := rfl
  rw [hmin]
  have hOB := Nat.lt_or_ge i (min M.length N)
  rcases hOB with h1 | h1
  · rw [List.getElem?_append_left (by simpa using h1), List.getElem?_map, List.getElem?_range h1, List.getElem?_map, List.getElem?_append_left (by simp; omega), List.getElem?_take, if_pos (by omega)]
    show some (AV.bool (M.getD i false)) = Option.map AV.bool M[i]?
    rw [List.getD_eq_getElem?_getD, List.getElem?_eq_getElem (by omega)]
    rfl
  · rw [List.getElem?_append_right (by simpa using h1), List.getElem?_drop, List.getElem?_map, List.getElem?_append_right (by simp; omega)]
    simp only [List.length_map, List.length_range, List.length_take, List.getElem?_replicate]
    by_cases h2 : i < N
    · rw [if_pos (by omega), if_pos (by omega)]; rfl
    · rw [if_neg (by omega), if_neg (by omega)]; rfl
-- the law's other way out
set_option maxHeartbeats 8000000 in
theorem law_follows {h : AH} (hw : WF h) {vars : Int} {cl : AV} {L : List (List Int)} {cv : Nat → AV} (C : CnfAt h vars cl L cv) {tv : AV} {ls : List Int} (rt : IntRow h tv ls) {mv : AV} {M : List Bool} (hM : BoolRow h mv M) (nm : NZ mv) :
    EvF (TT gt) X 6 [.agg [.int .i64 vars, cl], tv, mv] h (fun r _ => r = .bool true) := by
  have S0 := HS.all hw
  refine EvF.enter rfl rfl rfl ?_
  repeat (first | refine EvC.seq ?_ | refine EvC.region rfl ?_)
  (refine EvO.cons rfl rfl rfl (EvP.newR (b := .cells [.int .i64 vars, cl] 24 false) (mk := .ptr) S0 rfl rfl (fun h1 b A1 S1 hle1 o1 _ _ => ?_)))
  have f1 := loadAgg (T := TT gt) (t := 24) (off := 0) (n := 2) (r := [.int .i64 vars, cl]) o1 rfl rfl
  repeat (first | refine EvO.plain rfl rfl rfl rfl rfl rfl ?_ | refine EvO.plain rfl rfl rfl rfl rfl (by assumption) ?_ | refine EvC.seq ?_ | refine EvC.region rfl ?_ | refine EvO.nil ?_ | refine at_normal ?_)
  (refine EvO.cons rfl rfl rfl (EvP.callF rfl rfl rfl rfl (EvF.mono (few_spec (facts gt) S1.wf (C.mono (fun i o e => S1.le _ _ (hle1 _ _ e)))) ?_)))
  rintro _ h2 _ ⟨hg2, q, rfl⟩
  have hle2 : h.le h2 := fun i o e => hg2.le _ _ (S1.le _ _ (hle1 _ _ e))
  have f2 := loadAgg (T := TT gt) (t := 24) (off := 0) (n := 2) (r := [.int .i64 vars, cl]) (hg2.le _ _ o1) rfl rfl
  clear f1
  cases q with
  | false =>
    repeat (first | refine EvO.plain rfl rfl rfl rfl rfl rfl ?_ | refine EvO.nil ?_ | refine at_normal ?_ | refine EvO.off rfl rfl rfl ?_)
    refine EvC.cond (t := true) rfl (fun _ => ?_) (fun e => nomatch e)
    repeat (first | refine EvC.seq ?_ | refine EvC.region rfl ?_)
    (refine EvO.cons rfl rfl rfl (EvP.callF rfl rfl rfl rfl (EvF.mono (awake_spec (facts gt)) ?_)))
    rintro _ h99 _ ⟨rfl, rfl⟩
    repeat (first | refine EvO.plain rfl rfl rfl rfl rfl rfl ?_ | refine EvO.nil ?_ | refine at_normal ?_ | refine EvC.ret ?_ | refine at_ret ?_)
    (refine ret_is (v := .bool true) rfl rfl ?_)
    rfl
  | true =>
    have ln := RowOf.len_any (T := TT gt) (t := 25) rt rfl h2
    repeat (first | refine EvO.plain rfl rfl rfl rfl rfl rfl ?_ | refine EvO.plainOn rfl rfl rfl rfl rfl rfl ?_ | refine EvO.plainOn rfl rfl rfl rfl rfl (by assumption) ?_)
    clear ln
    by_cases hlen : (ls.length : Int) > 60
    · refine EvO.on rfl rfl rfl (EvP.quiet rfl (isB (decide_eq_true hlen)) ?_)
      repeat (first | refine EvO.plain rfl rfl rfl rfl rfl rfl ?_ | refine EvO.nil ?_ | refine at_normal ?_ | refine EvO.off rfl rfl rfl ?_)
      refine EvC.cond (t := true) rfl (fun _ => ?_) (fun e => nomatch e)
      repeat (first | refine EvC.seq ?_ | refine EvC.region rfl ?_)
      (refine EvO.cons rfl rfl rfl (EvP.callF rfl rfl rfl rfl (EvF.mono (awake_spec (facts gt)) ?_)))
      rintro _ h99 _ ⟨rfl, rfl⟩
      repeat (first | refine EvO.plain rfl rfl rfl rfl rfl rfl ?_ | refine EvO.nil ?_ | refine at_normal ?_ | refine EvC.ret ?_ | refine at_ret ?_)
      (refine ret_is (v := .bool true) rfl rfl ?_)
      rfl
    · refine EvO.on rfl rfl rfl (EvP.quiet rfl (isB (decide_eq_false hlen)) ?_)
      repeat (first | refine EvO.plain rfl rfl rfl rfl rfl rfl ?_ | refine EvO.plainOn rfl rfl rfl rfl rfl (by assumption) ?_)
      refine EvO.on rfl rfl rfl (EvP.callF rfl rfl rfl rfl (EvF.mono (refValid_spec (facts gt) hg2.wf (C.mono hle2)) ?_))
      rintro _ h3 _ ⟨hg3, rfl⟩
      have hle3 : h.le h3 := fun i o e => hg3.le _ _ (hle2 _ _ e)
      have o3 := hg3.le _ _ (hg2.le _ _ o1)
      clear f2
      by_cases hv : valid vars L
      · rw [decide_eq_true hv]
        have f3 := load1 (T := TT gt) (t := 3) (off := 0) o3 rfl rfl rfl
        repeat (first | refine EvO.plain rfl rfl rfl rfl rfl rfl ?_ | refine EvO.plainOn rfl rfl rfl rfl rfl rfl ?_ | refine EvO.plainOn rfl rfl rfl rfl rfl (by assumption) ?_)
        refine EvO.on rfl rfl rfl (EvP.callF rfl rfl rfl rfl (EvF.mono (clause_spec (facts gt) (RowOf.mono hle3 rt) (by omega) vars ⟨hv.1, by have := hv.2.1; omega⟩) ?_))
        rintro _ h3 _ ⟨rfl, rfl⟩
        by_cases hok : ∀ x ∈ ls, ok vars x
        · rw [decide_eq_true hok]
          repeat (first | refine EvO.plain rfl rfl rfl rfl rfl rfl ?_ | refine EvO.nil ?_ | refine at_normal ?_ | refine EvO.plainOn rfl rfl rfl rfl rfl rfl ?_)
          refine EvC.cond (t := false) rfl (fun e => nomatch e) (fun _ => ?_)
          have hOB : ∃ N : Nat, vars = N := ⟨vars.toNat, by have := hv.1; omega⟩
          obtain ⟨N, rfl⟩ := hOB
          have hN := hv.2.1
          have S4 := HS.all hg3.wf
          repeat (first | refine EvO.plain rfl rfl rfl rfl rfl rfl ?_ | refine EvO.plain rfl rfl rfl rfl rfl (by assumption) ?_ | refine EvC.seq ?_ | refine EvC.region rfl ?_ | refine at_normal ?_ | refine EvC.skip ?_)
          (refine EvO.cons rfl rfl rfl (EvP.newC S4 1 rfl (make_vec (T := TT gt) (n := N) (t := 33) rfl rfl rfl (by omega) (by show ((N : Nat) : Int) * (1 : Nat) ≤ ((70368744177664 : Nat) : Int); omega)) (by decide) (fun h5 id col5 A5 S5 g5 c5 _ => ?_)))
          have V5 : Vec col5 1 h5 4 1 (.slice id 0 N N true) N (List.replicate N (.bool false)) := .mk (tail := []) (by rw [List.append_nil, ← rep_one]; exact g5) c5 (by simp) (fun _ => ⟨Nat.le_refl _, by simp⟩)
          repeat (first | refine EvO.plain rfl rfl rfl rfl rfl rfl ?_ | refine EvC.seq ?_ | refine EvC.region rfl ?_ | refine EvO.nil ?_ | refine at_normal ?_)
          (refine EvO.cons rfl rfl rfl (EvP.copyC S5 V5 (by decide) (hM.mono (AH.le.trans' hle3 S5.le)) nm (fun _ _ => rfl) rfl rfl rfl rfl rfl rfl rfl rfl (fun h6 A6 S6 V6 => ?_)))
          rw [bools_cells] at V6
          have hBl : (M.take N ++ List.replicate (N - M.length) false).length = N := by simp; omega
          generalize M.take N ++ List.replicate (N - M.length) false = B at *
          have hBrow : BoolRow h6 (.slice id 0 N N true) B := by
            have := V6.row
            rw [← hBl] at this ⊢
            refine this.congr fun i hi => ?_
            rw [Nat.mul_one, List.take_one, List.head?_drop, List.getElem?_map, List.getElem?_eq_getElem hi, List.getD_eq_getElem?_getD, List.getElem?_eq_getElem hi]
            rfl
          have hle6 : h.le h6 := AH.le.trans' hle3 S6.le
          have o6 := S6.le _ _ o3
          have f6 := loadAgg (T := TT gt) (t := 24) (off := 0) (n := 2) (r := [.int .i64 N, cl]) o6 rfl rfl
          clear f3
          have hLok : ∀ l ∈ L, ∀ x ∈ l, ok B.length x := fun l hl => by
            have hOB := List.getElem_of_mem hl
            obtain ⟨i, hi, rfl⟩ := hOB
            have := hv.2.2.2.2 i hi
            rw [hBl]
            rwa [List.getD_eq_getElem?_getD, List.getElem?_eq_getElem hi] at this
          repeat (first | refine EvO.plain rfl rfl rfl rfl rfl rfl ?_ | refine EvO.plain rfl rfl rfl rfl rfl (by assumption) ?_ | refine EvC.seq ?_ | refine EvC.region rfl ?_ | refine EvO.nil ?_ | refine at_normal ?_)
          (refine EvO.cons rfl rfl rfl (EvP.callF rfl rfl rfl rfl (EvF.mono (units_spec S6.wf (C.mono hle6) (RowOf.mono hle6 rt) (by omega)) ?_)))
          rintro _ h7 _ ⟨⟨hle67, hw7⟩, hU⟩
          have hle7 : h.le h7 := AH.le.trans' hle6 hle67
          have o7 := hle67 _ _ o6
          have B7 : BoolRow h7 (.slice id 0 N N true) B := RowOf.mono hle67 hBrow
          clear f6
          obtain ⟨U, ub, rfl, hub⟩ : ∃ U ub, _ = AV.tuple [U, .bool ub, .int .i64 0] ∧ ((ub = true ∧ Clash L ls) ∨ (ub = false ∧ ∃ T, Ut N L ls T ∧ IntRow h7 U (T.mergeSort (leOf cfA)))) := by
            rcases hU with ⟨hn, _⟩ | ⟨_, ⟨hc, e⟩ | ⟨a, T, e, ut, ra⟩⟩
            · exact absurd ⟨hv, hok⟩ hn
            · exact ⟨_, _, e, .inl ⟨rfl, hc⟩⟩
            · exact ⟨_, _, e, .inr ⟨rfl, T, ut, ra⟩⟩
          have ln := RowOf.len_any (T := TT gt) (t := 25) rt rfl h7
          repeat (first | refine EvO.plain rfl rfl rfl rfl rfl rfl ?_ | refine EvC.seq ?_ | refine EvC.region rfl ?_ | refine EvO.nil ?_ | refine at_normal ?_)
          refine EvC.cond (t := false) rfl (fun e => nomatch e) (fun _ => ?_)
          repeat (first | refine EvO.plain rfl rfl rfl rfl rfl rfl ?_ | refine EvO.plain rfl rfl rfl rfl rfl (by assumption) ?_ | refine EvC.seq ?_ | refine EvC.region rfl ?_ | refine EvO.nil ?_ | refine at_normal ?_ | refine EvC.skip ?_ | refine EvC.block ?_)
          clear ln
          generalize hbv : AV.slice id 0 N N true = bv at *
          have hold1 : ∀ {P : Prop}, P → P := fun h => h
          refine EvC.loop (fun m σ h' => h' = h7 ∧ ∃ (i : Nat) (E : Nat → AV), i ≤ ls.length ∧ (∀ j, j < i → holdsB B (ls.getD j 0) = true) ∧ m = ls.length - i ∧ σ = upds [(3, .ptr b 0), (7, bv), (8, U), (9, .bool ub), (51, tv), (52, .int .i64 ls.length), (53, .int .i64 i)] E) (ls.length) ?_ ?_
          · exact ⟨rfl, 0, _, Nat.zero_le _, fun j hj => absurd hj (Nat.not_lt_zero _), rfl, hold ⟨rfl, hbv, rfl, rfl, rfl, rfl, rfl, trivial⟩⟩
          · rintro m _ h7 ⟨rfl, i, E, hi, hin, rfl, rfl⟩
            repeat (first | refine EvO.plain rfl rfl rfl rfl rfl rfl ?_ | refine EvC.seq ?_ | refine EvC.region rfl ?_ | refine EvO.nil ?_ | refine at_normal ?_)
            refine EvC.decide rfl (fun hlt => ?_) (fun hlt => ?_)
            · have hlt : i < ls.length := by omega
              have hOB := (RowOf.mono hle7 rt).at1 (T := TT gt) (t := 25) (e := 3) rfl rfl rfl rfl (k := .i64) (i := i) (by omega) (by omega)
              obtain ⟨qa, b1, b2⟩ := hOB
              rw [Int.toNat_natCast] at b2
              have hx := hok _ (getD_mem hlt)
              generalize hlj : ls.getD i 0 = x at *
              have ha := absI_ok hx
              have hx2 := hx.2
              have hOB := B7.at1 (T := TT gt) (t := 33) (e := 4) rfl rfl rfl rfl (k := .i64) (i := absI x - 1) (by omega) (by omega)
              obtain ⟨qb, d1, d2⟩ := hOB
              repeat (first | refine EvO.plain rfl rfl rfl rfl rfl rfl ?_ | refine EvO.plain rfl rfl rfl rfl rfl (by assumption) ?_ | refine EvC.seq ?_ | refine EvC.region rfl ?_ | refine EvO.nil ?_ | refine at_normal ?_ | refine EvC.skip ?_ | refine EvC.block ?_)
              (refine EvO.cons rfl rfl rfl (EvP.callF rfl rfl rfl rfl (EvF.mono (var_spec (facts gt) x (by omega)) ?_)))
              rintro _ h7 _ ⟨rfl, rfl⟩
              repeat (first | refine EvO.plain rfl rfl rfl rfl rfl rfl ?_ | refine EvO.plain rfl rfl rfl rfl rfl (by assumption) ?_ | refine EvO.nil ?_ | refine at_normal ?_ | refine EvO.cons rfl rfl rfl (EvP.sub64 rfl rfl (by omega) ?_))
              clear b1 b2 d1 d2
              have hhb : holdsB B x = (B.getD (absI x - 1).toNat false == decide (x > 0)) := rfl
              generalize B.getD (absI x - 1).toNat false = y1 at *
              generalize decide (x > 0) = y2 at *
              by_cases hy : y1 = y2
              · subst hy
                refine EvC.cond (t := false) (isT (p := (y1 != y1)) (by simp)) (fun e => nomatch e) (fun _ => ?_)
                repeat (first | refine EvO.plain rfl rfl rfl rfl rfl rfl ?_ | refine EvC.region rfl ?_ | refine EvO.nil ?_ | refine at_normal ?_ | refine EvC.skip ?_ | refine be_normal ?_ | refine ro_normal ?_ | refine EvO.cons rfl rfl rfl (EvP.add64 rfl rfl (by omega) ?_))
                refine ⟨ls.length - (i + 1), by omega, rfl, i + 1, _, by omega, fun j hj => ?_, rfl, hold ⟨rfl, rfl, rfl, rfl, rfl, rfl, rfl, trivial⟩⟩
                have hOB := Nat.lt_or_ge j i
                rcases hOB with h3 | h3
                · exact hin j h3
                · have hOB : j = i := by omega
                  obtain rfl := hOB
                  rw [hlj, hhb, beq_self_eq_true]
              · refine EvC.cond (t := true) (isT (p := (y1 != y2)) (by simp [hy])) (fun _ => ?_) (fun e => nomatch e)
                repeat (first | refine EvC.seq ?_ | refine EvC.region rfl ?_)
                (refine EvO.cons rfl rfl rfl (EvP.callF rfl rfl rfl rfl (EvF.mono (awake_spec (facts gt)) ?_)))
                rintro _ h99 _ ⟨rfl, rfl⟩
                repeat (first | refine EvO.plain rfl rfl rfl rfl rfl rfl ?_ | refine EvO.nil ?_ | refine at_normal ?_ | refine EvC.ret ?_ | refine at_ret ?_ | refine be_ret ?_ | refine ro_ret ?_)
                (refine ret_is (v := .bool true) rfl rfl ?_)
                rfl
            · have hend : i = ls.length := by omega
              subst hend
              have hall : ∀ x ∈ ls, holdsB B x = true := fun x hx => by
                have hOB := List.getElem_of_mem hx
                obtain ⟨j, hj, rfl⟩ := hOB
                have := hin j hj
                rwa [List.getD_eq_getElem?_getD, List.getElem?_eq_getElem hj, Option.getD_some] at this
              have f8 := load1 (T := TT gt) (t := 22) (off := 1) o7 rfl rfl rfl
              repeat (first | refine EvO.plain rfl rfl rfl rfl rfl rfl ?_ | refine EvO.plain rfl rfl rfl rfl rfl (by assumption) ?_ | refine EvC.seq ?_ | refine EvC.region rfl ?_ | refine at_normal ?_ | refine EvC.exit ?_ | refine at_exit ?_ | refine be_same rfl ?_ | refine ro_exit ?_)
              (refine EvO.cons rfl rfl rfl (EvP.callF rfl rfl rfl rfl (EvF.mono (refAll_spec (facts gt) (C.mono hle7) B7 (by omega) (fun i hi x hx => by rw [hBl]; exact hv.2.2.2.2 i hi x hx)) ?_)))
              rintro _ h7 _ ⟨rfl, rfl⟩
              clear f8
              by_cases hA : allB L B
              · rw [decide_eq_true hA]
                have hA2 : ∀ c ∈ L, ∃ z ∈ c, holdsB B z = true := fun c hc => by
                  have hOB := List.getElem_of_mem hc
                  obtain ⟨i, hi, rfl⟩ := hOB
                  have := hA i hi
                  rw [List.getD_eq_getElem?_getD, List.getElem?_eq_getElem hi] at this
                  exact List.any_eq_true.1 this
                have hlo : ∀ x ∈ ls, ok B.length x := fun x hx => by rw [hBl]; exact hok x hx
                repeat (first | refine EvO.plain rfl rfl rfl rfl rfl rfl ?_ | refine EvO.nil ?_ | refine at_normal ?_)
                refine EvC.cond (t := false) rfl (fun e => nomatch e) (fun _ => ?_)
                rcases hub with ⟨_, hc⟩ | ⟨rfl, T, ut, ra⟩
                · exact absurd hc (clash_holds hLok hlo hA2 hall)
                · have hTl : (T.mergeSort (leOf cfA)).length ≤ 2 ^ 40 := by
                    rw [List.length_mergeSort]
                    have h9 := TI.len (n := N) (S := { cls := [], wat := [], tr := T, ends := [], head := 0 }) ⟨ut.oks, ut.cons, ut.nodup, Nat.zero_le _, fun e he => nomatch he⟩
                    exact Nat.le_trans h9 (by omega)
                  have hTh : ∀ x ∈ T.mergeSort (leOf cfA), ok N x ∧ holdsB B x = true := fun x hx => by
                    rw [List.mem_mergeSort] at hx
                    exact ⟨ut.oks x hx, der_holds hLok hlo hA2 hall (ut.der x hx)⟩
                  generalize T.mergeSort (leOf cfA) = K at *
                  have ln := RowOf.len_any (T := TT gt) (t := 25) ra rfl h7
                  repeat (first | refine EvO.plain rfl rfl rfl rfl rfl rfl ?_ | refine EvO.plain rfl rfl rfl rfl rfl (by assumption) ?_ | refine EvC.seq ?_ | refine EvC.region rfl ?_ | refine EvO.nil ?_ | refine at_normal ?_ | refine EvC.skip ?_ | refine EvC.block ?_)
                  clear ln
                  refine EvC.loop (fun m σ h' => h' = h7 ∧ ∃ (i : Nat) (E : Nat → AV), i ≤ K.length ∧ m = K.length - i ∧ σ = upds [(3, .ptr b 0), (7, bv), (9, .bool false), (74, U), (75, .int .i64 K.length), (76, .int .i64 i)] E) (K.length) ?_ ?_
                  · exact ⟨rfl, 0, _, Nat.zero_le _, rfl, hold ⟨rfl, rfl, rfl, rfl, rfl, rfl, trivial⟩⟩
                  · rintro m _ h7 ⟨rfl, i, E, hi, rfl, rfl⟩
                    repeat (first | refine EvO.plain rfl rfl rfl rfl rfl rfl ?_ | refine EvC.seq ?_ | refine EvC.region rfl ?_ | refine EvO.nil ?_ | refine at_normal ?_)
                    refine EvC.decide rfl (fun hlt => ?_) (fun hlt => ?_)
                    · have hlt : i < K.length := by omega
                      have hOB := RowOf.at1 (T := TT gt) ra (t := 25) (e := 3) rfl rfl rfl rfl (k := .i64) (i := i) (by omega) (by omega)
                      obtain ⟨qa, b1, b2⟩ := hOB
                      rw [Int.toNat_natCast] at b2
                      have hx := hTh _ (getD_mem hlt)
                      generalize hlj : K.getD i 0 = x at *
                      have ha := absI_ok hx.1
                      have hx2 := hx.1.2
                      have hOB := B7.at1 (T := TT gt) (t := 33) (e := 4) rfl rfl rfl rfl (k := .i64) (i := absI x - 1) (by omega) (by omega)
                      obtain ⟨qb, d1, d2⟩ := hOB
                      have f9 := load1 (T := TT gt) (t := 3) (off := 0) o7 rfl rfl rfl
                      repeat (first | refine EvO.plain rfl rfl rfl rfl rfl rfl ?_ | refine EvO.plain rfl rfl rfl rfl rfl (by assumption) ?_ | refine EvC.seq ?_ | refine EvC.region rfl ?_ | refine EvO.nil ?_ | refine at_normal ?_ | refine EvC.skip ?_ | refine EvC.block ?_)
                      (refine EvO.cons rfl rfl rfl (EvP.callF rfl rfl rfl rfl (EvF.mono (lit_spec (facts gt) x N (by omega)) ?_)))
                      rintro _ h7 _ ⟨rfl, rfl⟩
                      rw [decide_eq_true hx.1]
                      repeat (first | refine EvO.plain rfl rfl rfl rfl rfl rfl ?_ | refine EvO.plainOn rfl rfl rfl rfl rfl rfl ?_)
                      refine EvO.on rfl rfl rfl (EvP.callF rfl rfl rfl rfl (EvF.mono (var_spec (facts gt) x (by omega)) ?_))
                      rintro _ h7 _ ⟨rfl, rfl⟩
                      repeat (first | refine EvO.plainOn rfl rfl rfl rfl rfl rfl ?_ | refine EvO.plainOn rfl rfl rfl rfl rfl (by assumption) ?_ | refine EvO.on rfl rfl rfl (EvP.sub64 rfl rfl (by omega) ?_))
                      refine EvO.on rfl rfl rfl (EvP.quiet (v := .bool (decide (x > 0))) rfl rfl ?_)
                      clear b1 b2 d1 d2 f9
                      have hhb : holdsB B x = (B.getD (absI x - 1).toNat false == decide (x > 0)) := rfl
                      rw [hx.2] at hhb
                      generalize B.getD (absI x - 1).toNat false = y1 at *
                      generalize decide (x > 0) = y2 at *
                      have hOB : y1 = y2 := eq_of_beq hhb.symm
                      obtain rfl := hOB
                      refine EvO.on rfl rfl rfl (EvP.quiet (v := .bool false) rfl ?_ ?_)
                      · cases y1 <;> rfl
                      repeat (first | refine EvO.plain rfl rfl rfl rfl rfl rfl ?_ | refine EvO.nil ?_ | refine at_normal ?_)
                      refine EvC.cond (t := false) rfl (fun e => nomatch e) (fun _ => ?_)
                      repeat (first | refine EvO.plain rfl rfl rfl rfl rfl rfl ?_ | refine EvC.region rfl ?_ | refine EvO.nil ?_ | refine at_normal ?_ | refine EvC.skip ?_ | refine be_normal ?_ | refine ro_normal ?_ | refine EvO.cons rfl rfl rfl (EvP.add64 rfl rfl (by omega) ?_))
                      exact ⟨K.length - (i + 1), by omega, rfl, i + 1, _, by omega, rfl, hold ⟨rfl, rfl, rfl, rfl, rfl, rfl, trivial⟩⟩
                    · repeat (first | refine EvO.plain rfl rfl rfl rfl rfl rfl ?_ | refine EvC.seq ?_ | refine EvC.region rfl ?_ | refine at_normal ?_ | refine EvC.exit ?_ | refine at_exit ?_ | refine be_same rfl ?_ | refine ro_exit ?_)
                      refine EvO.on rfl rfl rfl (EvP.callF rfl rfl rfl rfl (EvF.mono (awake_spec (facts gt)) ?_))
                      rintro _ h99 _ ⟨rfl, rfl⟩
                      repeat (first | refine EvO.plain rfl rfl rfl rfl rfl rfl ?_ | refine EvO.nil ?_ | refine at_normal ?_ | refine EvC.ret ?_)
                      (refine ret_is (v := .bool true) rfl rfl ?_)
                      rfl
              · rw [decide_eq_false hA]
                repeat (first | refine EvO.plain rfl rfl rfl rfl rfl rfl ?_ | refine EvO.nil ?_ | refine at_normal ?_)
                refine EvC.cond (t := true) rfl (fun _ => ?_) (fun e => nomatch e)
                repeat (first | refine EvC.seq ?_ | refine EvC.region rfl ?_)
                (refine EvO.cons rfl rfl rfl (EvP.callF rfl rfl rfl rfl (EvF.mono (awake_spec (facts gt)) ?_)))
                rintro _ h99 _ ⟨rfl, rfl⟩
                repeat (first | refine EvO.plain rfl rfl rfl rfl rfl rfl ?_ | refine EvO.nil ?_ | refine at_normal ?_ | refine EvC.ret ?_ | refine at_ret ?_)
                (refine ret_is (v := .bool true) rfl rfl ?_)
                rfl
        · rw [decide_eq_false hok]
          repeat (first | refine EvO.plain rfl rfl rfl rfl rfl rfl ?_ | refine EvO.nil ?_ | refine at_normal ?_ | refine EvO.plainOn rfl rfl rfl rfl rfl rfl ?_)
          refine EvC.cond (t := true) rfl (fun _ => ?_) (fun e => nomatch e)
          repeat (first | refine EvC.seq ?_ | refine EvC.region rfl ?_)
          (refine EvO.cons rfl rfl rfl (EvP.callF rfl rfl rfl rfl (EvF.mono (awake_spec (facts gt)) ?_)))
          rintro _ h99 _ ⟨rfl, rfl⟩
          repeat (first | refine EvO.plain rfl rfl rfl rfl rfl rfl ?_ | refine EvO.nil ?_ | refine at_normal ?_ | refine EvC.ret ?_ | refine at_ret ?_)
          (refine ret_is (v := .bool true) rfl rfl ?_)
          rfl
      · rw [decide_eq_false hv]
        repeat (first | refine EvO.plain rfl rfl rfl rfl rfl rfl ?_ | refine EvO.nil ?_ | refine at_normal ?_ | refine EvO.off rfl rfl rfl ?_ | refine EvO.plainOn rfl rfl rfl rfl rfl rfl ?_)
        refine EvC.cond (t := true) rfl (fun _ => ?_) (fun e => nomatch e)
        repeat (first | refine EvC.seq ?_ | refine EvC.region rfl ?_)
        (refine EvO.cons rfl rfl rfl (EvP.callF rfl rfl rfl rfl (EvF.mono (awake_spec (facts gt)) ?_)))
        rintro _ h99 _ ⟨rfl, rfl⟩
        repeat (first | refine EvO.plain rfl rfl rfl rfl rfl rfl ?_ | refine EvO.nil ?_ | refine at_normal ?_ | refine EvC.ret ?_ | refine at_ret ?_)
        (refine ret_is (v := .bool true) rfl rfl ?_)
        rfl
end Sa
end Pf
end Go.Proofs.YtheiionmocfleaaDoor
