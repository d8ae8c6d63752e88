/- The law SatUnder answers true. -/
import Derived.Test.YtheiionmocfleaaDoorUaU
import Derived.Test.YtheiionmocfleaaDoorScD
/- The law SatUnder. -/
namespace Go.Proofs.YtheiionmocfleaaDoor
namespace Pf
namespace Sa
open Go Go.AI Go.Proofs
variable {gt : Tree (List AV)}
theorem among_spec {h : AH} {kv tv : AV} {out ls : List Int} (ro : IntRow h kv out) (rt : IntRow h tv ls) (hl : ls.length ≤ 2 ^ 50) (ho : out.length ≤ 2 ^ 50) (hs : out.Sublist ls) :
    EvF (TT gt) X 32 [kv, tv] h (fun r h' => h' = h ∧ r = .bool true) := by
  have ln := RowOf.len_any (T := TT gt) (t := 25) rt rfl h
  have lo := RowOf.len_any (T := TT gt) (t := 25) ro rfl h
  refine EvF.enter rfl rfl rfl ?_
  repeat (first | refine EvO.plain rfl rfl rfl rfl rfl rfl ?_ | refine EvO.plain rfl rfl rfl rfl rfl (by assumption) ?_ | refine EvC.seq ?_ | refine EvC.region rfl ?_ | refine EvO.nil ?_ | refine at_normal ?_ | refine EvC.block ?_)
  clear ln
  refine EvC.loop (fun m σ h' => h' = h ∧ ∃ (i k : Nat) (E : Nat → AV), k ≤ i ∧ i ≤ ls.length ∧ k ≤ out.length ∧ (out.drop k).Sublist (ls.drop i) ∧ m = ls.length - i ∧ σ = upds [(0, kv), (5, .int .i64 k), (8, tv), (9, .int .i64 ls.length), (10, .int .i64 i)] E) (ls.length) ?_ ?_
  · exact ⟨rfl, 0, 0, _, Nat.le_refl _, Nat.zero_le _, Nat.zero_le _, hs, rfl, hold ⟨rfl, rfl, rfl, rfl, rfl, trivial⟩⟩
  · rintro m _ h ⟨rfl, i, k, E, hki, hi, hk, hsub, rfl, rfl⟩
    repeat (first | refine EvO.plain rfl rfl rfl rfl rfl rfl ?_ | refine EvC.seq ?_ | refine EvC.region rfl ?_ | refine EvO.nil ?_ | refine at_normal ?_)
    refine EvC.decide rfl (fun hlt => ?_) (fun hlt => ?_)
    · have hlt : i < ls.length := by omega
      have hOB := rt.at1 (T := TT gt) (t := 25) (e := 3) rfl rfl rfl rfl (k := .i64) (i := i) (by omega) (by omega)
      obtain ⟨qa, b1, b2⟩ := hOB
      rw [Int.toNat_natCast] at b2
      rw [getD_drop hlt] at hsub
      generalize ls.getD i 0 = x at *
      repeat (first | refine EvO.plain rfl rfl rfl rfl rfl rfl ?_ | refine EvO.plain rfl rfl rfl rfl rfl (by assumption) ?_ | refine EvC.seq ?_ | refine EvC.region rfl ?_ | refine EvO.nil ?_ | refine at_normal ?_ | refine EvC.skip ?_ | refine EvC.block ?_)
      clear b1 b2
      by_cases hkl : (k : Int) < out.length
      · have hkl' : k < out.length := by omega
        refine EvO.on rfl rfl rfl (EvP.quiet (v := .bool true) rfl (isB (decide_eq_true hkl)) ?_)
        have hOB := ro.at1 (T := TT gt) (t := 25) (e := 3) rfl rfl rfl rfl (k := .i64) (i := k) (by omega) (by omega)
        obtain ⟨qb, d1, d2⟩ := hOB
        rw [Int.toNat_natCast] at d2
        rw [getD_drop hkl'] at hsub
        have hOB : ∃ y, out.getD k 0 = y := ⟨_, rfl⟩
        obtain ⟨y, hy⟩ := hOB
        rw [hy] at hsub d2
        repeat (first | refine EvO.plain rfl rfl rfl rfl rfl rfl ?_ | refine EvO.plainOn rfl rfl rfl rfl rfl rfl ?_ | refine EvO.plainOn rfl rfl rfl rfl rfl (by assumption) ?_)
        clear d1 d2
        by_cases hxy : y = x
        · subst hxy
          clear hy
          refine EvO.on rfl rfl rfl (EvP.quiet (v := .bool true) rfl (isB (beq_true rfl)) ?_)
          repeat (first | refine EvO.plain rfl rfl rfl rfl rfl rfl ?_ | refine EvO.nil ?_ | refine at_normal ?_)
          refine EvC.cond (t := true) rfl (fun _ => ?_) (fun e => nomatch e)
          repeat (first | refine EvO.plain rfl rfl rfl rfl rfl rfl ?_ | refine EvC.region rfl ?_ | refine EvO.nil ?_ | refine at_normal ?_ | refine be_normal ?_ | refine ro_normal ?_ | refine EvO.cons rfl rfl rfl (EvP.add64 rfl rfl (by omega) ?_))
          exact ⟨ls.length - (i + 1), by omega, rfl, i + 1, k + 1, _, by omega, by omega, by omega, List.cons_sublist_cons.1 hsub, rfl, hold ⟨rfl, rfl, rfl, rfl, rfl, trivial⟩⟩
        · refine EvO.on rfl rfl rfl (EvP.quiet (v := .bool false) rfl (isB (beq_false hxy)) ?_)
          repeat (first | refine EvO.plain rfl rfl rfl rfl rfl rfl ?_ | refine EvO.nil ?_ | refine at_normal ?_)
          refine EvC.cond (t := false) rfl (fun e => nomatch e) (fun _ => ?_)
          repeat (first | refine EvO.plain rfl rfl rfl rfl rfl rfl ?_ | refine EvC.region rfl ?_ | refine EvO.nil ?_ | refine at_normal ?_ | refine EvC.skip ?_ | refine be_normal ?_ | refine ro_normal ?_ | refine EvO.cons rfl rfl rfl (EvP.add64 rfl rfl (by omega) ?_))
          refine ⟨ls.length - (i + 1), by omega, rfl, i + 1, k, _, by omega, by omega, hk, ?_, rfl, hold ⟨rfl, rfl, rfl, rfl, rfl, trivial⟩⟩
          rw [getD_drop hkl']
          rw [hy]
          cases hsub with
          | cons _ h => exact h
          | cons_cons _ h => exact absurd rfl hxy
      · refine EvO.on rfl rfl rfl (EvP.quiet (v := .bool false) rfl (isB (decide_eq_false hkl)) ?_)
        repeat (first | refine EvO.plain rfl rfl rfl rfl rfl rfl ?_ | refine EvO.nil ?_ | refine at_normal ?_ | refine EvO.off rfl rfl rfl ?_)
        refine EvC.cond (t := false) rfl (fun e => nomatch e) (fun _ => ?_)
        repeat (first | refine EvO.plain rfl rfl rfl rfl rfl rfl ?_ | refine EvC.region rfl ?_ | refine EvO.nil ?_ | refine at_normal ?_ | refine EvC.skip ?_ | refine be_normal ?_ | refine ro_normal ?_ | refine EvO.cons rfl rfl rfl (EvP.add64 rfl rfl (by omega) ?_))
        refine ⟨ls.length - (i + 1), by omega, rfl, i + 1, k, _, by omega, by omega, hk, ?_, rfl, hold ⟨rfl, rfl, rfl, rfl, rfl, trivial⟩⟩
        rw [List.drop_eq_nil_of_le (by omega)]; exact List.nil_sublist _
    · have hend : i = ls.length := by omega
      subst hend
      rw [List.drop_length] at hsub
      have hk2 : out.length ≤ k := by
        have := hsub.length_le
        rw [List.length_drop] at this
        simp at this; omega
      have hOB : k = out.length := by omega
      obtain rfl := hOB
      repeat (first | refine EvO.plain rfl rfl rfl rfl rfl rfl ?_ | refine EvO.plain rfl rfl rfl rfl rfl (by assumption) ?_ | refine EvC.seq ?_ | refine EvC.region rfl ?_ | refine EvO.nil ?_ | refine at_normal ?_ | refine EvC.ret ?_ | refine EvC.exit ?_ | refine at_exit ?_ | refine be_same rfl ?_ | refine ro_exit ?_)
      (refine ret_is (v := .bool (((out.length : Nat) : Int) == ((out.length : Nat) : Int))) rfl rfl ?_)
      exact ⟨rfl, by rw [beq_self_eq_true]⟩
set_option maxHeartbeats 4000000 in
theorem modelsA_spec {h : AH} (hw : WF h) {n : Nat} (hn : n ≤ 30) {cl : AV} {L : List (List Int)} {cv : Nat → AV} (C : CnfAt h n cl L cv) (hall : ∀ i, i < L.length → ∀ x ∈ L.getD i [], ok n x) {tv : AV} {ls : List Int} (rt : IntRow h tv ls) (hl : ls.length ≤ 2 ^ 50) (hok : ∀ x ∈ ls, ok n x) (hno : NoM n L ls) :
    EvF (TT gt) X 21 [.agg [.int .i64 n, cl], tv] h (fun r h' => (h.le h' ∧ WF h') ∧ r = .int .i64 0) := by
  have S0 := HS.all hw
  have hpw : 2 ^ n ≤ 2 ^ 30 := Nat.pow_le_pow_right (by decide) hn
  refine EvF.enter rfl rfl rfl ?_
  repeat (first | refine EvC.seq ?_ | refine EvC.region rfl ?_)
  (refine EvO.cons rfl rfl rfl (EvP.newR (b := .cells [.int .i64 n, cl] 24 false) (mk := .ptr) S0 rfl rfl (fun h1 b A1 S1 hle1 o1 _ _ => ?_)))
  repeat (first | refine EvO.plain rfl rfl rfl rfl rfl rfl ?_ | refine EvC.seq ?_ | refine EvC.region rfl ?_ | refine EvO.nil ?_ | refine at_normal ?_ | refine EvC.block ?_)
  generalize hN : 2 ^ n = N at *
  refine EvC.loop (fun m σ h' => ∃ (s : Nat) (E : Nat → AV), HS (h.add b (.cells [.int .i64 n, cl] 24 false)) h' (fun _ => 0) ∧ s ≤ N ∧ m = N - s ∧ σ = upds [(1, tv), (2, .ptr b 0), (5, .int .i64 0), (6, .int .i64 s)] E) (N) ?_ ?_
  · exact ⟨0, _, S1, Nat.zero_le _, rfl, hold ⟨rfl, rfl, rfl, rfl, trivial⟩⟩
  · clear S1 A1 o1
    rintro m _ h2 ⟨s, E, S2, hs, rfl, rfl⟩
    have o2 := S2.le _ _ (AH.get_add h b (.cells [.int .i64 n, cl] 24 false))
    have f1 := load1 (T := TT gt) (t := 3) (off := 0) o2 rfl rfl rfl
    have hle2 : h.le h2 := fun i o e => S2.le _ _ (hle1 _ _ e)
    repeat (first | refine EvO.plain rfl rfl rfl rfl rfl rfl ?_ | refine EvO.plain rfl rfl rfl rfl rfl (by assumption) ?_ | refine EvC.seq ?_ | refine EvC.region rfl ?_)
    (refine EvO.cons rfl rfl rfl (EvP.quiet rfl (show some (AV.int .i64 (IntKind.i64.wrap (1 * 2 ^ min ((n : Nat) : Int).toNat IntKind.i64.bits))) = some (.int .i64 ((N : Nat) : Int)) by rw [shl1 n (by omega), hN]) ?_))
    repeat (first | refine EvO.plain rfl rfl rfl rfl rfl rfl ?_ | refine EvO.nil ?_ | refine at_normal ?_)
    refine EvC.decide rfl (fun hlt => ?_) (fun hlt => ?_)
    · have hlt : s < N := by omega
      repeat (first | refine EvO.plain rfl rfl rfl rfl rfl rfl ?_ | refine EvO.plain rfl rfl rfl rfl rfl (by assumption) ?_ | refine EvC.seq ?_ | refine EvC.region rfl ?_ | refine at_normal ?_ | refine EvC.skip ?_ | refine EvC.block ?_)
      (refine EvO.cons rfl rfl rfl (EvP.callF rfl rfl rfl rfl (EvF.mono (bools_spec S2.wf (n := n) (s := s) (by omega) (by omega)) ?_)))
      rintro bv h3 _ ⟨⟨hle3, hw3, hnx3⟩, row⟩
      clear f1
      have S3 := S2.grow hle3 hw3 hnx3
      have o3 := hle3 _ _ o2
      have f2 := load1 (T := TT gt) (t := 22) (off := 1) o3 rfl rfl rfl
      have hle03 : h.le h3 := fun i o e => hle3 _ _ (hle2 _ _ e)
      repeat (first | refine EvO.plain rfl rfl rfl rfl rfl rfl ?_ | refine EvO.plain rfl rfl rfl rfl rfl (by assumption) ?_ | refine EvC.seq ?_ | refine EvC.region rfl ?_ | refine EvO.nil ?_ | refine at_normal ?_)
      (refine EvO.cons rfl rfl rfl (EvP.callF rfl rfl rfl rfl (EvF.mono (refAll_spec (facts gt) (C.mono hle03) row (by rw [bitsB_len]; omega) (fun i hi x hx => by rw [bitsB_len]; exact hall i hi x hx)) ?_)))
      rintro _ h3 _ ⟨rfl, rfl⟩
      clear f2
      have ln := RowOf.len_any (T := TT gt) (t := 25) rt rfl h3
      repeat (first | refine EvO.plain rfl rfl rfl rfl rfl rfl ?_ | refine EvO.plain rfl rfl rfl rfl rfl (by assumption) ?_ | refine EvC.seq ?_ | refine EvC.region rfl ?_ | refine EvO.nil ?_ | refine at_normal ?_ | refine EvC.block ?_)
      clear ln
      refine EvC.loop (fun m σ h' => h' = h3 ∧ ∃ (i : Nat) (q : Bool) (E : Nat → AV), (q = true → allB L (bitsB s n) ∧ ∀ j, j < i → holdsB (bitsB s n) (ls.getD j 0) = true) ∧ i ≤ ls.length ∧ m = ls.length - i ∧ σ = upds [(1, tv), (2, .ptr b 0), (5, .int .i64 0), (6, .int .i64 s), (7, bv), (8, .bool q), (26, tv), (27, .int .i64 ls.length), (28, .int .i64 i)] E) (ls.length) ?_ ?_
      · exact ⟨rfl, 0, _, _, fun e => ⟨of_decide_eq_true e, fun j hj => absurd hj (Nat.not_lt_zero _)⟩, Nat.zero_le _, rfl, hold ⟨rfl, rfl, rfl, rfl, rfl, rfl, rfl, rfl, rfl, trivial⟩⟩
      · rintro m _ h3 ⟨rfl, i, q, E, hq, hi, rfl, rfl⟩
        repeat (first | refine EvO.plain rfl rfl rfl rfl rfl rfl ?_ | refine EvC.seq ?_ | refine EvC.region rfl ?_ | refine EvO.nil ?_ | refine at_normal ?_)
        refine EvC.decide rfl (fun hil => ?_) (fun hil => ?_)
        · have hil : i < ls.length := by omega
          have hOB := (RowOf.mono hle03 rt).at1 (T := TT gt) (t := 25) (e := 3) rfl rfl rfl rfl (k := .i64) (i := i) (by omega) (by omega)
          obtain ⟨qa, b1, b2⟩ := hOB
          rw [Int.toNat_natCast] at b2
          have hx := hok _ (getD_mem hil)
          have hsame : ∀ j, j < i + 1 → j < i ∨ ls.getD j 0 = ls.getD i 0 := fun j hj => by
            have hOB := Nat.lt_or_ge j i
            rcases hOB with h4 | h4
            · exact .inl h4
            · have hOB : j = i := by omega
              obtain rfl := hOB
              exact .inr rfl
          generalize ls.getD i 0 = x at *
          repeat (first | refine EvO.plain rfl rfl rfl rfl rfl rfl ?_ | refine EvO.plain rfl rfl rfl rfl rfl (by assumption) ?_ | refine EvC.seq ?_ | refine EvC.region rfl ?_ | refine EvO.nil ?_ | refine at_normal ?_ | refine EvC.skip ?_ | refine EvC.block ?_)
          clear b1 b2
          cases q with
          | false =>
            repeat (first | refine EvO.plain rfl rfl rfl rfl rfl rfl ?_ | refine EvC.region rfl ?_ | refine EvO.nil ?_ | refine at_normal ?_ | refine be_normal ?_ | refine ro_normal ?_ | refine EvO.cons rfl rfl rfl (EvP.add64 rfl rfl (by omega) ?_) | refine EvO.off rfl rfl rfl ?_)
            exact ⟨ls.length - (i + 1), by omega, rfl, i + 1, false, _, fun e => (nomatch e), by omega, rfl, hold ⟨rfl, rfl, rfl, rfl, rfl, rfl, rfl, rfl, rfl, trivial⟩⟩
          | true =>
            have hOB := hq rfl
            obtain ⟨hA, hd⟩ := hOB
            repeat (refine EvO.plainOn rfl rfl rfl rfl rfl rfl ?_)
            refine EvO.on rfl rfl rfl (EvP.callF rfl rfl rfl rfl (EvF.mono (refHolds_spec (facts gt) row (by rw [bitsB_len]; omega) x (by rw [bitsB_len]; exact hx)) ?_))
            rintro _ h3 _ ⟨rfl, rfl⟩
            repeat (first | refine EvO.plain rfl rfl rfl rfl rfl rfl ?_ | refine EvC.region rfl ?_ | refine EvO.nil ?_ | refine at_normal ?_ | refine be_normal ?_ | refine ro_normal ?_ | refine EvO.cons rfl rfl rfl (EvP.add64 rfl rfl (by omega) ?_))
            refine ⟨ls.length - (i + 1), by omega, rfl, i + 1, holdsB (bitsB s n) x, _, fun e => ⟨hA, fun j hj => ?_⟩, by omega, rfl, hold ⟨rfl, rfl, rfl, rfl, rfl, rfl, rfl, rfl, rfl, trivial⟩⟩
            have hOB := hsame j hj
            rcases hOB with h5 | h5
            · exact hd j h5
            · rw [h5]; exact e
        · have hend : i = ls.length := by omega
          have hqf : q = false := by
            cases q with
            | false => rfl
            | true =>
              have hOB := hq rfl
              obtain ⟨hA, hd⟩ := hOB
              refine absurd (fun x hx => ?_) (hno (bitsB s n) (bitsB_len s n) hA)
              have hOB := List.getElem_of_mem hx
              obtain ⟨j, hj, rfl⟩ := hOB
              have := hd j (by omega)
              rwa [List.getD_eq_getElem?_getD, List.getElem?_eq_getElem hj] at this
          subst hqf
          repeat (first | refine EvO.plain rfl rfl rfl rfl rfl rfl ?_ | refine EvC.seq ?_ | refine EvC.region rfl ?_ | refine EvO.nil ?_ | refine at_normal ?_ | refine EvC.exit ?_ | refine at_exit ?_ | refine be_same rfl ?_ | refine ro_exit ?_)
          refine EvC.cond (t := false) rfl (fun e => nomatch e) (fun _ => ?_)
          repeat (first | refine EvO.plain rfl rfl rfl rfl rfl rfl ?_ | refine EvC.region rfl ?_ | refine EvO.nil ?_ | refine at_normal ?_ | refine EvC.skip ?_ | refine be_normal ?_ | refine ro_normal ?_ | refine EvO.cons rfl rfl rfl (EvP.add64 rfl rfl (by omega) ?_))
          exact ⟨N - (s + 1), by omega, s + 1, _, S3, by omega, rfl, hold ⟨rfl, rfl, rfl, rfl, trivial⟩⟩
    · have hend : s = N := by omega
      subst hend
      repeat (first | refine EvO.plain rfl rfl rfl rfl rfl rfl ?_ | refine EvC.seq ?_ | refine EvC.region rfl ?_ | refine EvO.nil ?_ | refine at_normal ?_ | refine EvC.ret ?_ | refine EvC.exit ?_ | refine at_exit ?_ | refine be_same rfl ?_ | refine ro_exit ?_)
      (refine ret_is (v := .int .i64 0) rfl rfl ?_)
      exact ⟨⟨hle2, S2.wf⟩, rfl⟩
-- the law's other way out
-- an error of the arguments
-- the core once more; #1 the heap, #2 h.le it, #3 its WF, #4 the box, #5 from the core's heap
set_option maxHeartbeats 8000000 in
theorem law_under {h : AH} (hw : WF h) {vars : Int} {cl : AV} {L : List (List Int)} {cv : Nat → AV} (C : CnfAt h vars cl L cv) {tv : AV} {ls : List Int} (rt : IntRow h tv ls) (nt : NZ tv) {mv : AV} {M : List Bool} (hM : BoolRow h mv M) (nm : NZ mv) :
    EvF (TT gt) X 9 [.agg [.int .i64 vars, cl], tv, mv] h (fun r _ => r = .bool true) := by
  have S0 := HS.all hw
  refine EvF.enter rfl rfl rfl ?_
  repeat (first | refine EvC.seq ?_ | refine EvC.region rfl ?_)
  (refine EvO.cons rfl rfl rfl (EvP.newR (b := .cells [.int .i64 vars, cl] 24 false) (mk := .ptr) S0 rfl rfl (fun h1 b A1 S1 hle1 o1 _ _ => ?_)))
  have f1 := loadAgg (T := TT gt) (t := 24) (off := 0) (n := 2) (r := [.int .i64 vars, cl]) o1 rfl rfl
  repeat (first | refine EvO.plain rfl rfl rfl rfl rfl rfl ?_ | refine EvO.plain rfl rfl rfl rfl rfl (by assumption) ?_ | refine EvC.seq ?_ | refine EvC.region rfl ?_ | refine EvO.nil ?_ | refine at_normal ?_)
  (refine EvO.cons rfl rfl rfl (EvP.callF rfl rfl rfl rfl (EvF.mono (few_spec (facts gt) S1.wf (C.mono (fun i o e => S1.le _ _ (hle1 _ _ e)))) ?_)))
  rintro _ h2 _ ⟨hg2, q, rfl⟩
  have hle2 : h.le h2 := fun i o e => hg2.le _ _ (S1.le _ _ (hle1 _ _ e))
  have f2 := loadAgg (T := TT gt) (t := 24) (off := 0) (n := 2) (r := [.int .i64 vars, cl]) (hg2.le _ _ o1) rfl rfl
  clear f1
  cases q with
  | false =>
    repeat (first | refine EvO.plain rfl rfl rfl rfl rfl rfl ?_ | refine EvO.nil ?_ | refine at_normal ?_ | refine EvO.off rfl rfl rfl ?_)
    refine EvC.cond (t := true) rfl (fun _ => ?_) (fun e => nomatch e)
    repeat (first | refine EvC.seq ?_ | refine EvC.region rfl ?_)
    (refine EvO.cons rfl rfl rfl (EvP.callF rfl rfl rfl rfl (EvF.mono (awake_spec (facts gt)) ?_)))
    rintro _ h99 _ ⟨rfl, rfl⟩
    repeat (first | refine EvO.plain rfl rfl rfl rfl rfl rfl ?_ | refine EvO.nil ?_ | refine at_normal ?_ | refine EvC.ret ?_ | refine at_ret ?_)
    (refine ret_is (v := .bool true) rfl rfl ?_)
    rfl
  | true =>
    have ln := RowOf.len_any (T := TT gt) (t := 25) rt rfl h2
    have lm := RowOf.len_any (T := TT gt) (t := 33) hM rfl h2
    repeat (first | refine EvO.plain rfl rfl rfl rfl rfl rfl ?_ | refine EvO.plainOn rfl rfl rfl rfl rfl rfl ?_ | refine EvO.plainOn rfl rfl rfl rfl rfl (by assumption) ?_)
    by_cases hlen : (ls.length : Int) > 60
    · refine EvO.on rfl rfl rfl (EvP.quiet rfl (isB (decide_eq_true hlen)) ?_)
      repeat (first | refine EvO.plain rfl rfl rfl rfl rfl rfl ?_ | refine EvO.nil ?_ | refine at_normal ?_ | refine EvO.off rfl rfl rfl ?_)
      refine EvC.cond (t := true) rfl (fun _ => ?_) (fun e => nomatch e)
      repeat (first | refine EvC.seq ?_ | refine EvC.region rfl ?_)
      (refine EvO.cons rfl rfl rfl (EvP.callF rfl rfl rfl rfl (EvF.mono (awake_spec (facts gt)) ?_)))
      rintro _ h99 _ ⟨rfl, rfl⟩
      repeat (first | refine EvO.plain rfl rfl rfl rfl rfl rfl ?_ | refine EvO.nil ?_ | refine at_normal ?_ | refine EvC.ret ?_ | refine at_ret ?_)
      (refine ret_is (v := .bool true) rfl rfl ?_)
      rfl
    · refine EvO.on rfl rfl rfl (EvP.quiet rfl (isB (decide_eq_false hlen)) ?_)
      repeat (first | refine EvO.plain rfl rfl rfl rfl rfl rfl ?_ | refine EvO.plainOn rfl rfl rfl rfl rfl rfl ?_ | refine EvO.plainOn rfl rfl rfl rfl rfl (by assumption) ?_)
      by_cases hlenM : (M.length : Int) > 200
      · refine EvO.on rfl rfl rfl (EvP.quiet rfl (isB (decide_eq_true hlenM)) ?_)
        repeat (first | refine EvO.plain rfl rfl rfl rfl rfl rfl ?_ | refine EvO.nil ?_ | refine at_normal ?_)
        refine EvC.cond (t := true) rfl (fun _ => ?_) (fun e => nomatch e)
        repeat (first | refine EvC.seq ?_ | refine EvC.region rfl ?_)
        (refine EvO.cons rfl rfl rfl (EvP.callF rfl rfl rfl rfl (EvF.mono (awake_spec (facts gt)) ?_)))
        rintro _ h99 _ ⟨rfl, rfl⟩
        repeat (first | refine EvO.plain rfl rfl rfl rfl rfl rfl ?_ | refine EvO.nil ?_ | refine at_normal ?_ | refine EvC.ret ?_ | refine at_ret ?_)
        (refine ret_is (v := .bool true) rfl rfl ?_)
        rfl
      · refine EvO.on rfl rfl rfl (EvP.quiet rfl (isB (decide_eq_false hlenM)) ?_)
        clear ln lm
        repeat (first | refine EvO.plain rfl rfl rfl rfl rfl rfl ?_ | refine EvO.nil ?_ | refine at_normal ?_)
        refine EvC.cond (t := false) rfl (fun e => nomatch e) (fun _ => ?_)
        repeat (first | refine EvO.plain rfl rfl rfl rfl rfl rfl ?_ | refine EvO.plain rfl rfl rfl rfl rfl (by assumption) ?_ | refine EvC.seq ?_ | refine EvC.region rfl ?_ | refine at_normal ?_ | refine EvC.skip ?_)
        (refine EvO.cons rfl rfl rfl (EvP.callF rfl rfl rfl rfl (EvF.mono (under_spec hg2.wf (C.mono hle2) (RowOf.mono hle2 rt) nt (by omega)) ?_)))
        rintro _ h3 _ ⟨⟨hle23, hw3⟩, hU⟩
        have hle3 : h.le h3 := fun i o e => hle23 _ _ (hle2 _ _ e)
        have o3 := hle23 _ _ (hg2.le _ _ o1)
        have f3 := loadAgg (T := TT gt) (t := 24) (off := 0) (n := 2) (r := [.int .i64 vars, cl]) o3 rfl rfl
        clear f2
        rcases hU with ⟨hn, rfl⟩ | ⟨⟨hv, hok⟩, hU⟩
        · repeat (first | refine EvO.plain rfl rfl rfl rfl rfl rfl ?_ | refine EvO.plain rfl rfl rfl rfl rfl (by assumption) ?_ | refine EvC.seq ?_ | refine EvC.region rfl ?_ | refine EvO.nil ?_ | refine at_normal ?_)
          (refine EvO.cons rfl rfl rfl (EvP.callF rfl rfl rfl rfl (EvF.mono (refValid_spec (facts gt) hw3 (C.mono hle3)) ?_)))
          rintro _ h4 _ ⟨hg4, rfl⟩
          clear f3
          by_cases hv : valid vars L
          · rw [decide_eq_true hv]
            have f4 := load1 (T := TT gt) (t := 3) (off := 0) (hg4.le _ _ o3) rfl rfl rfl
            repeat (first | refine EvO.plain rfl rfl rfl rfl rfl rfl ?_ | refine EvO.plainOn rfl rfl rfl rfl rfl rfl ?_ | refine EvO.plainOn rfl rfl rfl rfl rfl (by assumption) ?_)
            refine EvO.on rfl rfl rfl (EvP.callF rfl rfl rfl rfl (EvF.mono (clause_spec (facts gt) (RowOf.mono (fun i o e => hg4.le _ _ (hle3 _ _ e)) rt) (by omega) vars ⟨hv.1, by have := hv.2.1; omega⟩) ?_))
            rintro _ h4 _ ⟨rfl, rfl⟩
            rw [decide_eq_false (fun hok => hn ⟨hv, hok⟩)]
            clear f4
            repeat (first | refine EvO.plain rfl rfl rfl rfl rfl rfl ?_ | refine EvO.nil ?_ | refine at_normal ?_ | refine EvO.plainOn rfl rfl rfl rfl rfl rfl ?_)
            refine EvC.cond (t := true) rfl (fun _ => ?_) (fun e => nomatch e)
            repeat (first | refine EvO.plain rfl rfl rfl rfl rfl rfl ?_ | refine EvC.seq ?_ | refine EvC.region rfl ?_ | refine EvO.plainOn rfl rfl rfl rfl rfl rfl ?_)
            refine EvO.on rfl rfl rfl (EvP.quiet (v := .bool true) rfl rfl ?_)
            repeat (first | refine EvO.plain rfl rfl rfl rfl rfl rfl ?_ | refine EvO.plainOn rfl rfl rfl rfl rfl rfl ?_)
            refine EvO.on rfl rfl rfl (EvP.quiet (v := .bool true) rfl rfl ?_)
            repeat (first | refine EvO.plain rfl rfl rfl rfl rfl rfl ?_ | refine EvO.plainOn rfl rfl rfl rfl rfl rfl ?_)
            refine EvO.on rfl rfl rfl (EvP.quiet (v := .bool true) rfl rfl ?_)
            repeat (refine EvO.plain rfl rfl rfl rfl rfl rfl ?_)
            refine EvO.on rfl rfl rfl (EvP.callF rfl rfl rfl rfl (EvF.mono (awake_spec (facts gt)) ?_))
            rintro _ h99 _ ⟨rfl, rfl⟩
            repeat (first | refine EvO.plain rfl rfl rfl rfl rfl rfl ?_ | refine EvO.nil ?_ | refine at_normal ?_ | refine EvC.ret ?_ | refine at_ret ?_)
            (refine ret_is (v := .bool true) rfl rfl ?_)
            rfl
          · rw [decide_eq_false hv]
            repeat (first | refine EvO.plain rfl rfl rfl rfl rfl rfl ?_ | refine EvO.nil ?_ | refine at_normal ?_ | refine EvO.off rfl rfl rfl ?_)
            refine EvC.cond (t := true) rfl (fun _ => ?_) (fun e => nomatch e)
            repeat (first | refine EvO.plain rfl rfl rfl rfl rfl rfl ?_ | refine EvC.seq ?_ | refine EvC.region rfl ?_ | refine EvO.plainOn rfl rfl rfl rfl rfl rfl ?_)
            refine EvO.on rfl rfl rfl (EvP.quiet (v := .bool true) rfl rfl ?_)
            repeat (first | refine EvO.plain rfl rfl rfl rfl rfl rfl ?_ | refine EvO.plainOn rfl rfl rfl rfl rfl rfl ?_)
            refine EvO.on rfl rfl rfl (EvP.quiet (v := .bool true) rfl rfl ?_)
            repeat (first | refine EvO.plain rfl rfl rfl rfl rfl rfl ?_ | refine EvO.plainOn rfl rfl rfl rfl rfl rfl ?_)
            refine EvO.on rfl rfl rfl (EvP.quiet (v := .bool true) rfl rfl ?_)
            repeat (refine EvO.plain rfl rfl rfl rfl rfl rfl ?_)
            refine EvO.on rfl rfl rfl (EvP.callF rfl rfl rfl rfl (EvF.mono (awake_spec (facts gt)) ?_))
            rintro _ h99 _ ⟨rfl, rfl⟩
            repeat (first | refine EvO.plain rfl rfl rfl rfl rfl rfl ?_ | refine EvO.nil ?_ | refine at_normal ?_ | refine EvC.ret ?_ | refine at_ret ?_)
            (refine ret_is (v := .bool true) rfl rfl ?_)
            rfl
        · have hOB : ∃ n : Nat, vars = n := ⟨vars.toNat, by have := hv.1; omega⟩
          obtain ⟨n, rfl⟩ := hOB
          rw [Int.toNat_natCast] at hU
          have hN := hv.2.1
          have hLok := valid_oks hv
          have hval : ∀ (h4 : AH), Grew h3 h4 → aload (TT gt) h4 3 (.ptr b 0) = some (.int .i64 n) := fun h4 hg4 => load1 (T := TT gt) (t := 3) (off := 0) (hg4.le _ _ o3) rfl rfl rfl
          rcases hU with ⟨rv, m, rfl, hm, hml, hA, hlm⟩ | ⟨rfl, hn, hcl⟩ | ⟨kv, out, rfl, hrow, hsub, hno⟩
          · repeat (first | refine EvO.plain rfl rfl rfl rfl rfl rfl ?_ | refine EvO.plain rfl rfl rfl rfl rfl (by assumption) ?_ | refine EvC.seq ?_ | refine EvC.region rfl ?_ | refine EvO.nil ?_ | refine at_normal ?_)
            (refine EvO.cons rfl rfl rfl (EvP.callF rfl rfl rfl rfl (EvF.mono (refValid_spec (facts gt) hw3 (C.mono hle3)) ?_)))
            rintro _ h4 _ ⟨hg4, rfl⟩
            rw [decide_eq_true hv]
            have hle4 : h.le h4 := fun i o e => hg4.le _ _ (hle3 _ _ e)
            have o4 := hg4.le _ _ o3
            have f4 := loadAgg (T := TT gt) (t := 24) (off := 0) (n := 2) (r := [.int .i64 n, cl]) o4 rfl rfl
            have f5 := hval _ hg4
            clear f3
            repeat (first | refine EvO.plain rfl rfl rfl rfl rfl rfl ?_ | refine EvO.plainOn rfl rfl rfl rfl rfl rfl ?_ | refine EvO.plainOn rfl rfl rfl rfl rfl (by assumption) ?_)
            refine EvO.on rfl rfl rfl (EvP.callF rfl rfl rfl rfl (EvF.mono (clause_spec (facts gt) (RowOf.mono hle4 rt) (by omega) n ⟨hv.1, by have := hv.2.1; omega⟩) ?_))
            rintro _ h4 _ ⟨rfl, rfl⟩
            rw [decide_eq_true hok]
            repeat (first | refine EvO.plain rfl rfl rfl rfl rfl rfl ?_ | refine EvO.nil ?_ | refine at_normal ?_ | refine EvO.plainOn rfl rfl rfl rfl rfl rfl ?_)
            refine EvC.cond (t := false) rfl (fun e => nomatch e) (fun _ => ?_)
            repeat (first | refine EvO.plain rfl rfl rfl rfl rfl rfl ?_ | refine EvC.seq ?_ | refine EvC.region rfl ?_ | refine EvO.nil ?_ | refine at_normal ?_ | refine EvC.skip ?_)
            refine EvC.cond (t := false) rfl (fun e => nomatch e) (fun _ => ?_)
            repeat (first | refine EvO.plain rfl rfl rfl rfl rfl rfl ?_ | refine EvC.seq ?_ | refine EvC.region rfl ?_ | refine EvO.nil ?_ | refine at_normal ?_ | refine EvC.skip ?_)
            refine EvC.cond (t := true) rfl (fun _ => ?_) (fun e => nomatch e)
            repeat (first | refine EvO.plain rfl rfl rfl rfl rfl rfl ?_ | refine EvO.plain rfl rfl rfl rfl rfl (by assumption) ?_ | refine EvC.seq ?_ | refine EvC.region rfl ?_)
            (refine EvO.cons rfl rfl rfl (EvP.callF rfl rfl rfl rfl (EvF.mono (refModel_spec (facts gt) hg4.wf (C.mono hle4) (RowOf.mono hg4.le hm)) ?_)))
            rintro _ h5 _ ⟨hg5, rfl⟩
            rw [modelV_good ⟨hv, by omega⟩, decide_eq_true hA]
            clear f4 f5
            have hle5 : h.le h5 := fun i o e => hg5.le _ _ (hle4 _ _ e)
            have hm5 : BoolRow h5 rv m := RowOf.mono hg5.le (RowOf.mono hg4.le hm)
            have ln := RowOf.len_any (T := TT gt) (t := 25) rt rfl h5
            repeat (first | refine EvO.plain rfl rfl rfl rfl rfl rfl ?_ | refine EvO.plain rfl rfl rfl rfl rfl (by assumption) ?_ | refine EvC.seq ?_ | refine EvC.region rfl ?_ | refine EvO.nil ?_ | refine at_normal ?_ | refine EvC.block ?_)
            clear ln
            refine EvC.loop (fun m' σ h' => h' = h5 ∧ ∃ (i : Nat) (E : Nat → AV), i ≤ ls.length ∧ m' = ls.length - i ∧ σ = upds [(8, rv), (9, .nilSlice), (11, .bool true), (12, .int .i64 0), (109, tv), (110, .int .i64 ls.length), (111, .int .i64 i)] E) (ls.length) ?_ ?_
            · exact ⟨rfl, 0, _, Nat.zero_le _, rfl, hold ⟨rfl, rfl, rfl, rfl, rfl, rfl, rfl, trivial⟩⟩
            · rintro m' _ h5 ⟨rfl, i, E, hi, rfl, rfl⟩
              repeat (first | refine EvO.plain rfl rfl rfl rfl rfl rfl ?_ | refine EvC.seq ?_ | refine EvC.region rfl ?_ | refine EvO.nil ?_ | refine at_normal ?_)
              refine EvC.decide rfl (fun hlt => ?_) (fun hlt => ?_)
              · have hlt : i < ls.length := by omega
                have hOB := (RowOf.mono hle5 rt).at1 (T := TT gt) (t := 25) (e := 3) rfl rfl rfl rfl (k := .i64) (i := i) (by omega) (by omega)
                obtain ⟨qa, b1, b2⟩ := hOB
                rw [Int.toNat_natCast] at b2
                have hx := hok _ (getD_mem hlt)
                have hxh := hlm _ (getD_mem hlt)
                generalize ls.getD i 0 = x at *
                have ha := absI_ok hx
                have hx2 := hx.2
                have hOB := hm5.at1 (T := TT gt) (t := 33) (e := 4) rfl rfl rfl rfl (k := .i64) (i := absI x - 1) (by omega) (by omega)
                obtain ⟨qb, d1, d2⟩ := hOB
                repeat (first | refine EvO.plain rfl rfl rfl rfl rfl rfl ?_ | refine EvO.plain rfl rfl rfl rfl rfl (by assumption) ?_ | refine EvC.seq ?_ | refine EvC.region rfl ?_ | refine EvO.nil ?_ | refine at_normal ?_ | refine EvC.skip ?_ | refine EvC.block ?_ | refine EvO.plainOn rfl rfl rfl rfl rfl rfl ?_)
                refine EvO.on rfl rfl rfl (EvP.callF rfl rfl rfl rfl (EvF.mono (var_spec (facts gt) x (by omega)) ?_))
                rintro _ h5 _ ⟨rfl, rfl⟩
                repeat (first | refine EvO.plainOn rfl rfl rfl rfl rfl rfl ?_ | refine EvO.plainOn rfl rfl rfl rfl rfl (by assumption) ?_ | refine EvO.on rfl rfl rfl (EvP.sub64 rfl rfl (by omega) ?_))
                refine EvO.on rfl rfl rfl (EvP.quiet (v := .bool (decide (x > 0))) rfl rfl ?_)
                skip
                have hhb : (m.getD (absI x - 1).toNat false == decide (x > 0)) = true := hxh
                refine EvO.on rfl rfl rfl (EvP.quiet (v := .bool true) rfl (isB hhb) ?_)
                clear b1 b2 d1 d2
                repeat (first | refine EvO.plain rfl rfl rfl rfl rfl rfl ?_ | refine EvC.region rfl ?_ | refine EvO.nil ?_ | refine at_normal ?_ | refine be_normal ?_ | refine ro_normal ?_ | refine EvO.cons rfl rfl rfl (EvP.add64 rfl rfl (by omega) ?_))
                exact ⟨ls.length - (i + 1), by omega, rfl, i + 1, _, by omega, rfl, hold ⟨rfl, rfl, rfl, rfl, rfl, rfl, rfl, trivial⟩⟩
              · repeat (first | refine EvO.plain rfl rfl rfl rfl rfl rfl ?_ | refine EvC.seq ?_ | refine EvC.region rfl ?_ | refine at_normal ?_ | refine EvC.exit ?_ | refine at_exit ?_ | refine be_same rfl ?_ | refine ro_exit ?_ | refine EvO.plainOn rfl rfl rfl rfl rfl rfl ?_)
                refine EvO.on rfl rfl rfl (EvP.quiet (v := .bool true) rfl rfl ?_)
                repeat (first | refine EvO.plain rfl rfl rfl rfl rfl rfl ?_ | refine EvO.plainOn rfl rfl rfl rfl rfl rfl ?_)
                refine EvO.on rfl rfl rfl (EvP.quiet (v := .bool true) rfl rfl ?_)
                repeat (refine EvO.plain rfl rfl rfl rfl rfl rfl ?_)
                refine EvO.on rfl rfl rfl (EvP.callF rfl rfl rfl rfl (EvF.mono (awake_spec (facts gt)) ?_))
                rintro _ h99 _ ⟨rfl, rfl⟩
                repeat (first | refine EvO.plain rfl rfl rfl rfl rfl rfl ?_ | refine EvO.nil ?_ | refine at_normal ?_ | refine EvC.ret ?_ | refine at_ret ?_)
                (refine ret_is (v := .bool true) rfl rfl ?_)
                rfl
          · repeat (first | refine EvO.plain rfl rfl rfl rfl rfl rfl ?_ | refine EvO.plain rfl rfl rfl rfl rfl (by assumption) ?_ | refine EvC.seq ?_ | refine EvC.region rfl ?_ | refine EvO.nil ?_ | refine at_normal ?_)
            (refine EvO.cons rfl rfl rfl (EvP.callF rfl rfl rfl rfl (EvF.mono (refValid_spec (facts gt) hw3 (C.mono hle3)) ?_)))
            rintro _ h4 _ ⟨hg4, rfl⟩
            rw [decide_eq_true hv]
            have hle4 : h.le h4 := fun i o e => hg4.le _ _ (hle3 _ _ e)
            have o4 := hg4.le _ _ o3
            have f4 := loadAgg (T := TT gt) (t := 24) (off := 0) (n := 2) (r := [.int .i64 n, cl]) o4 rfl rfl
            have f5 := hval _ hg4
            clear f3
            repeat (first | refine EvO.plain rfl rfl rfl rfl rfl rfl ?_ | refine EvO.plainOn rfl rfl rfl rfl rfl rfl ?_ | refine EvO.plainOn rfl rfl rfl rfl rfl (by assumption) ?_)
            refine EvO.on rfl rfl rfl (EvP.callF rfl rfl rfl rfl (EvF.mono (clause_spec (facts gt) (RowOf.mono hle4 rt) (by omega) n ⟨hv.1, by have := hv.2.1; omega⟩) ?_))
            rintro _ h4 _ ⟨rfl, rfl⟩
            rw [decide_eq_true hok]
            repeat (first | refine EvO.plain rfl rfl rfl rfl rfl rfl ?_ | refine EvO.nil ?_ | refine at_normal ?_ | refine EvO.plainOn rfl rfl rfl rfl rfl rfl ?_)
            refine EvC.cond (t := false) rfl (fun e => nomatch e) (fun _ => ?_)
            repeat (first | refine EvO.plain rfl rfl rfl rfl rfl rfl ?_ | refine EvC.seq ?_ | refine EvC.region rfl ?_ | refine EvO.nil ?_ | refine at_normal ?_ | refine EvC.skip ?_)
            refine EvC.cond (t := true) rfl (fun _ => ?_) (fun e => nomatch e)
            repeat (first | refine EvO.plain rfl rfl rfl rfl rfl rfl ?_ | refine EvC.seq ?_ | refine EvC.region rfl ?_)
            refine EvO.on rfl rfl rfl (EvP.quiet (v := .bool true) rfl rfl ?_)
            repeat (first | refine EvO.plain rfl rfl rfl rfl rfl rfl ?_ | refine EvO.plainOn rfl rfl rfl rfl rfl rfl ?_ | refine EvO.plainOn rfl rfl rfl rfl rfl (by assumption) ?_)
            refine EvO.on rfl rfl rfl (EvP.quiet (v := .bool true) rfl (isB (decide_eq_true (by omega))) ?_)
            repeat (first | refine EvO.plain rfl rfl rfl rfl rfl rfl ?_ | refine EvO.plainOn rfl rfl rfl rfl rfl rfl ?_ | refine EvO.plainOn rfl rfl rfl rfl rfl (by assumption) ?_)
            refine EvO.on rfl rfl rfl (EvP.callF rfl rfl rfl rfl (EvF.mono (clashes_spec hg4.wf (C.mono hle4) (RowOf.mono hle4 rt) (by omega) hv hok) ?_))
            rintro _ h5 _ ⟨⟨hle5, hw5⟩, q, rfl, hq⟩
            cases q with
            | true => exact absurd (hq.1 rfl) hcl
            | false =>
              repeat (first | refine EvO.plain rfl rfl rfl rfl rfl rfl ?_ | refine EvO.plainOn rfl rfl rfl rfl rfl rfl ?_)
              refine EvO.on rfl rfl rfl (EvP.quiet (v := .bool true) rfl rfl ?_)
              repeat (first | refine EvO.plain rfl rfl rfl rfl rfl rfl ?_ | refine EvO.plainOn rfl rfl rfl rfl rfl rfl ?_)
              refine EvO.on rfl rfl rfl (EvP.quiet (v := .bool true) rfl rfl ?_)
              repeat (refine EvO.plain rfl rfl rfl rfl rfl rfl ?_)
              refine EvO.on rfl rfl rfl (EvP.callF rfl rfl rfl rfl (EvF.mono (awake_spec (facts gt)) ?_))
              rintro _ h99 _ ⟨rfl, rfl⟩
              repeat (first | refine EvO.plain rfl rfl rfl rfl rfl rfl ?_ | refine EvO.nil ?_ | refine at_normal ?_ | refine EvC.ret ?_ | refine at_ret ?_)
              (refine ret_is (v := .bool true) rfl rfl ?_)
              rfl
          · have houtok : ∀ x ∈ out, ok n x := fun x hx => hok x (hsub.subset hx)
            have houtl : out.length ≤ ls.length := hsub.length_le
            repeat (first | refine EvO.plain rfl rfl rfl rfl rfl rfl ?_ | refine EvO.plain rfl rfl rfl rfl rfl (by assumption) ?_ | refine EvC.seq ?_ | refine EvC.region rfl ?_ | refine EvO.nil ?_ | refine at_normal ?_)
            (refine EvO.cons rfl rfl rfl (EvP.callF rfl rfl rfl rfl (EvF.mono (refValid_spec (facts gt) hw3 (C.mono hle3)) ?_)))
            rintro _ h4 _ ⟨hg4, rfl⟩
            rw [decide_eq_true hv]
            have hle4 : h.le h4 := fun i o e => hg4.le _ _ (hle3 _ _ e)
            have o4 := hg4.le _ _ o3
            have f4 := loadAgg (T := TT gt) (t := 24) (off := 0) (n := 2) (r := [.int .i64 n, cl]) o4 rfl rfl
            have f5 := hval _ hg4
            clear f3
            repeat (first | refine EvO.plain rfl rfl rfl rfl rfl rfl ?_ | refine EvO.plainOn rfl rfl rfl rfl rfl rfl ?_ | refine EvO.plainOn rfl rfl rfl rfl rfl (by assumption) ?_)
            refine EvO.on rfl rfl rfl (EvP.callF rfl rfl rfl rfl (EvF.mono (clause_spec (facts gt) (RowOf.mono hle4 rt) (by omega) n ⟨hv.1, by have := hv.2.1; omega⟩) ?_))
            rintro _ h4 _ ⟨rfl, rfl⟩
            rw [decide_eq_true hok]
            have hrow4 : IntRow h4 kv out := RowOf.mono hg4.le hrow.1
            repeat (first | refine EvO.plain rfl rfl rfl rfl rfl rfl ?_ | refine EvO.nil ?_ | refine at_normal ?_ | refine EvO.plainOn rfl rfl rfl rfl rfl rfl ?_)
            refine EvC.cond (t := false) rfl (fun e => nomatch e) (fun _ => ?_)
            repeat (first | refine EvO.plain rfl rfl rfl rfl rfl rfl ?_ | refine EvC.seq ?_ | refine EvC.region rfl ?_ | refine EvO.nil ?_ | refine at_normal ?_ | refine EvC.skip ?_)
            refine EvC.cond (t := false) rfl (fun e => nomatch e) (fun _ => ?_)
            repeat (first | refine EvO.plain rfl rfl rfl rfl rfl rfl ?_ | refine EvC.seq ?_ | refine EvC.region rfl ?_ | refine EvO.nil ?_ | refine at_normal ?_ | refine EvC.skip ?_)
            refine EvC.cond (t := false) rfl (fun e => nomatch e) (fun _ => ?_)
            repeat (first | refine EvO.plain rfl rfl rfl rfl rfl rfl ?_ | refine EvC.seq ?_ | refine EvC.region rfl ?_ | refine at_normal ?_ | refine EvC.skip ?_)
            refine EvO.on rfl rfl rfl (EvP.quiet (v := .bool false) rfl rfl ?_)
            repeat (first | refine EvO.plain rfl rfl rfl rfl rfl rfl ?_ | refine EvO.plainOn rfl rfl rfl rfl rfl rfl ?_)
            refine EvO.on rfl rfl rfl (EvP.callF rfl rfl rfl rfl (EvF.mono (among_spec hrow4 (RowOf.mono hle4 rt) (by omega) (by omega) hsub) ?_))
            rintro _ h4 _ ⟨rfl, rfl⟩
            repeat (first | refine EvO.plain rfl rfl rfl rfl rfl rfl ?_ | refine EvO.plainOn rfl rfl rfl rfl rfl rfl ?_ | refine EvO.plainOn rfl rfl rfl rfl rfl (by assumption) ?_)
            refine EvO.on rfl rfl rfl (EvP.callF rfl rfl rfl rfl (EvF.mono (lawHolds_spec hg4.wf (C.mono hle4) hrow4 (RowOf.mono hle4 hM) nm hv houtok (by omega)) ?_))
            rintro _ h5 _ ⟨⟨hle45, hw5⟩, q, rfl, hq⟩
            have hqf : q = false := by
              cases q with
              | false => rfl
              | true => obtain ⟨B, hB, hA, hh⟩ := hq rfl; exact absurd hh (hno B hB hA)
            subst hqf
            have hle5 : h.le h5 := fun i o e => hle45 _ _ (hle4 _ _ e)
            have o5 := hle45 _ _ o4
            clear f4 f5
            have f5 := load1 (T := TT gt) (t := 3) (off := 0) o5 rfl rfl rfl
            have f6 := loadAgg (T := TT gt) (t := 24) (off := 0) (n := 2) (r := [.int .i64 n, cl]) o5 rfl rfl
            repeat (first | refine EvO.plain rfl rfl rfl rfl rfl rfl ?_ | refine EvO.plainOn rfl rfl rfl rfl rfl rfl ?_ | refine EvO.plainOn rfl rfl rfl rfl rfl (by assumption) ?_)
            by_cases h10 : (n : Int) ≤ 10
            · refine EvO.on rfl rfl rfl (EvP.quiet (v := .bool true) rfl (isB (decide_eq_true h10)) ?_)
              repeat (first | refine EvO.plainOn rfl rfl rfl rfl rfl rfl ?_ | refine EvO.plainOn rfl rfl rfl rfl rfl (by assumption) ?_)
              refine EvO.on rfl rfl rfl (EvP.callF rfl rfl rfl rfl (EvF.mono (modelsA_spec hw5 (n := n) (by omega) (C.mono hle5) hv.2.2.2.2 (RowOf.mono hle45 hrow4) (by omega) houtok hno) ?_))
              rintro _ h7 _ ⟨⟨hle57, hw7⟩, rfl⟩
              have hle7 : h.le h7 := fun i o e => hle57 _ _ (hle5 _ _ e)
              have o7 := hle57 _ _ o5
              have hle37 : h3.le h7 := fun i o e => hle57 _ _ (hle45 _ _ (hg4.le _ _ e))
              clear f5 f6
              skip
              refine EvO.on rfl rfl rfl (EvP.quiet (v := .bool false) rfl rfl ?_)
              repeat (first | refine EvO.plain rfl rfl rfl rfl rfl rfl ?_ | refine EvO.nil ?_ | refine at_normal ?_ | refine EvO.plainOn rfl rfl rfl rfl rfl rfl ?_)
              refine EvC.cond (t := false) rfl (fun e => nomatch e) (fun _ => ?_)
              have f8 := loadAgg (T := TT gt) (t := 24) (off := 0) (n := 2) (r := [.int .i64 n, cl]) o7 rfl rfl
              repeat (first | refine EvO.plain rfl rfl rfl rfl rfl rfl ?_ | refine EvO.plain rfl rfl rfl rfl rfl (by assumption) ?_ | refine EvC.seq ?_ | refine EvC.region rfl ?_ | refine at_normal ?_ | refine EvC.skip ?_)
              (refine EvO.cons rfl rfl rfl (EvP.callF rfl rfl rfl rfl (EvF.mono (under_spec hw7 (C.mono hle7) (RowOf.mono hle37 hrow.1) hrow.2 (by omega)) ?_)))
              rintro _ h8 _ ⟨⟨hle78, hw8⟩, hU2⟩
              clear f8
              rcases hU2 with ⟨hn, _⟩ | ⟨_, hU2⟩
              · exact absurd ⟨hv, houtok⟩ hn
              · rw [Int.toNat_natCast] at hU2
                rcases hU2 with ⟨rv2, m2, rfl, hm2, hml2, hA2, hh2⟩ | ⟨rfl, hn2, _⟩ | ⟨kv2, out2, rfl, _, _, _⟩
                · exact absurd hh2 (hno m2 hml2 hA2)
                · have f9 := load1 (T := TT gt) (t := 3) (off := 0) (hle78 _ _ o7) rfl rfl rfl
                  repeat (first | refine EvO.plain rfl rfl rfl rfl rfl rfl ?_ | refine EvC.seq ?_ | refine EvC.region rfl ?_ | refine EvO.nil ?_ | refine at_normal ?_ | refine EvO.plainOn rfl rfl rfl rfl rfl rfl ?_)
                  refine EvO.on rfl rfl rfl (EvP.quiet (v := .bool false) rfl rfl ?_)
                  repeat (refine EvO.plainOn rfl rfl rfl rfl rfl rfl ?_)
                  refine EvO.on rfl rfl rfl (EvP.quiet (v := .bool true) rfl rfl ?_)
                  repeat (first | refine EvO.plainOn rfl rfl rfl rfl rfl rfl ?_ | refine EvO.plainOn rfl rfl rfl rfl rfl (by assumption) ?_)
                  refine EvO.on rfl rfl rfl (EvP.quiet (v := .bool true) rfl (isB (decide_eq_true (by omega))) ?_)
                  clear f9
                  repeat (first | refine EvO.plain rfl rfl rfl rfl rfl rfl ?_ | refine EvO.plainOn rfl rfl rfl rfl rfl rfl ?_)
                  refine EvO.on rfl rfl rfl (EvP.callF rfl rfl rfl rfl (EvF.mono (awake_spec (facts gt)) ?_))
                  rintro _ h99 _ ⟨rfl, rfl⟩
                  repeat (first | refine EvO.plain rfl rfl rfl rfl rfl rfl ?_ | refine EvO.nil ?_ | refine at_normal ?_ | refine EvC.ret ?_)
                  (refine ret_is (v := .bool true) rfl rfl ?_)
                  rfl
                · repeat (first | refine EvO.plain rfl rfl rfl rfl rfl rfl ?_ | refine EvC.seq ?_ | refine EvC.region rfl ?_ | refine EvO.nil ?_ | refine at_normal ?_ | refine EvO.plainOn rfl rfl rfl rfl rfl rfl ?_)
                  refine EvO.on rfl rfl rfl (EvP.quiet (v := .bool true) rfl rfl ?_)
                  repeat (first | refine EvO.plain rfl rfl rfl rfl rfl rfl ?_ | refine EvO.off rfl rfl rfl ?_ | refine EvO.plainOn rfl rfl rfl rfl rfl rfl ?_)
                  refine EvO.on rfl rfl rfl (EvP.callF rfl rfl rfl rfl (EvF.mono (awake_spec (facts gt)) ?_))
                  rintro _ h99 _ ⟨rfl, rfl⟩
                  repeat (first | refine EvO.plain rfl rfl rfl rfl rfl rfl ?_ | refine EvO.nil ?_ | refine at_normal ?_ | refine EvC.ret ?_)
                  (refine ret_is (v := .bool true) rfl rfl ?_)
                  rfl
            · refine EvO.on rfl rfl rfl (EvP.quiet (v := .bool false) rfl (isB (decide_eq_false h10)) ?_)
              have hle35 : h3.le h5 := fun i o e => hle45 _ _ (hg4.le _ _ e)
              clear f5 f6
              repeat (first | refine EvO.plain rfl rfl rfl rfl rfl rfl ?_ | refine EvO.nil ?_ | refine at_normal ?_ | refine EvO.off rfl rfl rfl ?_ | refine EvO.plainOn rfl rfl rfl rfl rfl rfl ?_)
              refine EvC.cond (t := false) rfl (fun e => nomatch e) (fun _ => ?_)
              have f8 := loadAgg (T := TT gt) (t := 24) (off := 0) (n := 2) (r := [.int .i64 n, cl]) o5 rfl rfl
              repeat (first | refine EvO.plain rfl rfl rfl rfl rfl rfl ?_ | refine EvO.plain rfl rfl rfl rfl rfl (by assumption) ?_ | refine EvC.seq ?_ | refine EvC.region rfl ?_ | refine at_normal ?_ | refine EvC.skip ?_)
              (refine EvO.cons rfl rfl rfl (EvP.callF rfl rfl rfl rfl (EvF.mono (under_spec hw5 (C.mono hle5) (RowOf.mono hle35 hrow.1) hrow.2 (by omega)) ?_)))
              rintro _ h8 _ ⟨⟨hle78, hw8⟩, hU2⟩
              clear f8
              rcases hU2 with ⟨hn, _⟩ | ⟨_, hU2⟩
              · exact absurd ⟨hv, houtok⟩ hn
              · rw [Int.toNat_natCast] at hU2
                rcases hU2 with ⟨rv2, m2, rfl, hm2, hml2, hA2, hh2⟩ | ⟨rfl, hn2, _⟩ | ⟨kv2, out2, rfl, _, _, _⟩
                · exact absurd hh2 (hno m2 hml2 hA2)
                · have f9 := load1 (T := TT gt) (t := 3) (off := 0) (hle78 _ _ o5) rfl rfl rfl
                  repeat (first | refine EvO.plain rfl rfl rfl rfl rfl rfl ?_ | refine EvC.seq ?_ | refine EvC.region rfl ?_ | refine EvO.nil ?_ | refine at_normal ?_ | refine EvO.plainOn rfl rfl rfl rfl rfl rfl ?_)
                  refine EvO.on rfl rfl rfl (EvP.quiet (v := .bool false) rfl rfl ?_)
                  repeat (refine EvO.plainOn rfl rfl rfl rfl rfl rfl ?_)
                  refine EvO.on rfl rfl rfl (EvP.quiet (v := .bool true) rfl rfl ?_)
                  repeat (first | refine EvO.plainOn rfl rfl rfl rfl rfl rfl ?_ | refine EvO.plainOn rfl rfl rfl rfl rfl (by assumption) ?_)
                  refine EvO.on rfl rfl rfl (EvP.quiet (v := .bool true) rfl (isB (decide_eq_true (by omega))) ?_)
                  clear f9
                  repeat (first | refine EvO.plain rfl rfl rfl rfl rfl rfl ?_ | refine EvO.plainOn rfl rfl rfl rfl rfl rfl ?_)
                  refine EvO.on rfl rfl rfl (EvP.callF rfl rfl rfl rfl (EvF.mono (awake_spec (facts gt)) ?_))
                  rintro _ h99 _ ⟨rfl, rfl⟩
                  repeat (first | refine EvO.plain rfl rfl rfl rfl rfl rfl ?_ | refine EvO.nil ?_ | refine at_normal ?_ | refine EvC.ret ?_)
                  (refine ret_is (v := .bool true) rfl rfl ?_)
                  rfl
                · repeat (first | refine EvO.plain rfl rfl rfl rfl rfl rfl ?_ | refine EvC.seq ?_ | refine EvC.region rfl ?_ | refine EvO.nil ?_ | refine at_normal ?_ | refine EvO.plainOn rfl rfl rfl rfl rfl rfl ?_)
                  refine EvO.on rfl rfl rfl (EvP.quiet (v := .bool true) rfl rfl ?_)
                  repeat (first | refine EvO.plain rfl rfl rfl rfl rfl rfl ?_ | refine EvO.off rfl rfl rfl ?_ | refine EvO.plainOn rfl rfl rfl rfl rfl rfl ?_)
                  refine EvO.on rfl rfl rfl (EvP.callF rfl rfl rfl rfl (EvF.mono (awake_spec (facts gt)) ?_))
                  rintro _ h99 _ ⟨rfl, rfl⟩
                  repeat (first | refine EvO.plain rfl rfl rfl rfl rfl rfl ?_ | refine EvO.nil ?_ | refine at_normal ?_ | refine EvC.ret ?_)
                  (refine ret_is (v := .bool true) rfl rfl ?_)
                  rfl
end Sa
end Pf
end Go.Proofs.YtheiionmocfleaaDoor
