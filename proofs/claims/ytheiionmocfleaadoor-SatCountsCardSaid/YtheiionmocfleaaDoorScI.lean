/- The law SatCounts answers true. -/
import Derived.Test.YtheiionmocfleaaDoorScF
/- How many models Count counts. -/
namespace Go.Proofs.YtheiionmocfleaaDoor
namespace Pf
namespace Sa
open Go Go.AI Go.Proofs
variable {gt : Tree (List AV)}
/-- What Count answers. -/
def CountSays (vars : Int) (L : List (List Int)) (r : AV) : Prop :=
  (¬ valid vars L ∧ r = .tuple [.int .i64 0, .int .i64 2]) ∨ ((valid vars L ∧ 16 < vars) ∧ r = .tuple [.int .i64 0, .int .i64 5]) ∨ (∃ n : Nat, vars = n ∧ valid n L ∧ n ≤ 16 ∧ r = .tuple [.int .i64 (cntB L n (2 ^ n) : Nat), .int .i64 0])
set_option maxHeartbeats 4000000 in
theorem refCount_spec {h : AH} (hw : WF h) {vars : Int} {cl : AV} {L : List (List Int)} {cv : Nat → AV} (C : CnfAt h vars cl L cv) :
    EvF (TT gt) X 24 [.agg [.int .i64 vars, cl]] h (fun r h' => (h.le h' ∧ WF h') ∧ CountSays vars L r) := by
  have S0 := HS.all hw
  refine EvF.enter rfl rfl rfl ?_
  repeat (first | refine EvC.seq ?_ | refine EvC.region rfl ?_)
  (refine EvO.cons rfl rfl rfl (EvP.newR (b := .cells [.int .i64 vars, cl] 24 false) (mk := .ptr) S0 rfl rfl (fun h1 b A1 S1 hle1 o1 _ _ => ?_)))
  have f1 := loadAgg (T := TT gt) (t := 24) (off := 0) (n := 2) (r := [.int .i64 vars, cl]) o1 rfl rfl
  repeat (first | refine EvO.plain rfl rfl rfl rfl rfl rfl ?_ | refine EvO.plain rfl rfl rfl rfl rfl (by assumption) ?_ | refine EvC.seq ?_ | refine EvC.region rfl ?_ | refine EvO.nil ?_ | refine at_normal ?_ | refine EvC.block ?_)
  (refine EvO.cons rfl rfl rfl (EvP.callF rfl rfl rfl rfl (EvF.mono (refValid_spec (facts gt) S1.wf (C.mono (fun i o e => S1.le _ _ (hle1 _ _ e)))) ?_)))
  rintro _ h2 _ ⟨hg2, rfl⟩
  have hle2 : h.le h2 := fun i o e => hg2.le _ _ (S1.le _ _ (hle1 _ _ e))
  have o2 := hg2.le _ _ o1
  clear f1
  by_cases hv : valid vars L
  · rw [decide_eq_true hv]
    have f2 := load1 (T := TT gt) (t := 3) (off := 0) o2 rfl rfl rfl
    repeat (first | refine EvO.plain rfl rfl rfl rfl rfl rfl ?_ | refine EvO.nil ?_ | refine at_normal ?_)
    refine EvC.cond (t := false) rfl (fun e => nomatch e) (fun _ => ?_)
    repeat (first | refine EvO.plain rfl rfl rfl rfl rfl rfl ?_ | refine EvO.plain rfl rfl rfl rfl rfl (by assumption) ?_ | refine EvC.seq ?_ | refine EvC.region rfl ?_ | refine EvO.nil ?_ | refine at_normal ?_)
    by_cases h16 : vars > 16
    · refine EvC.cond (t := true) (isT (decide_eq_true h16)) (fun _ => ?_) (fun e => nomatch e)
      repeat (first | refine EvO.plain rfl rfl rfl rfl rfl rfl ?_ | refine EvC.seq ?_ | refine EvC.region rfl ?_ | refine EvO.nil ?_ | refine at_normal ?_ | refine EvC.ret ?_ | refine at_ret ?_ | refine be_ret ?_)
      (refine ret_are (vs := [.int .i64 0, .int .i64 5]) rfl rfl ?_)
      exact ⟨⟨hle2, hg2.wf⟩, .inr (.inl ⟨⟨hv, h16⟩, rfl⟩)⟩
    · refine EvC.cond (t := false) (isT (decide_eq_false h16)) (fun e => nomatch e) (fun _ => ?_)
      have hOB : ∃ n : Nat, vars = n := ⟨vars.toNat, by have := hv.1; omega⟩
      obtain ⟨n, rfl⟩ := hOB
      have f3 := loadAgg (T := TT gt) (t := 24) (off := 0) (n := 2) (r := [.int .i64 n, cl]) o2 rfl rfl
      clear f2
      repeat (first | refine EvO.plain rfl rfl rfl rfl rfl (by assumption) ?_ | refine EvC.seq ?_ | refine EvC.region rfl ?_ | refine at_normal ?_ | refine EvC.skip ?_ | refine be_normal ?_)
      (refine EvO.cons rfl rfl rfl (EvP.callF rfl rfl rfl rfl (EvF.mono (models_spec hg2.wf (n := n) (by omega) (C.mono hle2) hv.2.2.2.2) ?_)))
      rintro _ h3 _ ⟨⟨hle3, hw3⟩, rfl⟩
      repeat (first | refine EvO.plain rfl rfl rfl rfl rfl rfl ?_ | refine EvO.nil ?_ | refine at_normal ?_ | refine EvC.ret ?_)
      (refine ret_are (vs := [.int .i64 (cntB L n (2 ^ n) : Nat), .int .i64 0]) rfl rfl ?_)
      exact ⟨⟨fun i o e => hle3 _ _ (hle2 _ _ e), hw3⟩, .inr (.inr ⟨n, rfl, hv, by omega, rfl⟩)⟩
  · rw [decide_eq_false hv]
    repeat (first | refine EvO.plain rfl rfl rfl rfl rfl rfl ?_ | refine EvO.nil ?_ | refine at_normal ?_)
    refine EvC.cond (t := true) rfl (fun _ => ?_) (fun e => nomatch e)
    repeat (first | refine EvO.plain rfl rfl rfl rfl rfl rfl ?_ | refine EvC.seq ?_ | refine EvC.region rfl ?_ | refine EvO.nil ?_ | refine at_normal ?_ | refine EvC.ret ?_ | refine at_ret ?_ | refine be_ret ?_)
    (refine ret_are (vs := [.int .i64 0, .int .i64 2]) rfl rfl ?_)
    exact ⟨⟨hle2, hg2.wf⟩, .inl ⟨hv, rfl⟩⟩
set_option maxHeartbeats 8000000 in
theorem count_spec {h : AH} (hw : WF h) {vars : Int} {cl : AV} {L : List (List Int)} {cv : Nat → AV} (C : CnfAt h vars cl L cv) :
    EvF (TT gt) X 23 [.agg [.int .i64 vars, cl]] h (fun r h' => (h.le h' ∧ WF h') ∧ CountSays vars L r) := by
  have S0 := HS.all hw
  refine EvF.enter rfl rfl rfl ?_
  repeat (first | refine EvC.seq ?_ | refine EvC.region rfl ?_)
  (refine EvO.cons rfl rfl rfl (EvP.newR (b := .cells [.int .i64 vars, cl] 24 false) (mk := .ptr) S0 rfl rfl (fun h1 b A1 S1 hle1 o1 _ _ => ?_)))
  have f1 := loadAgg (T := TT gt) (t := 24) (off := 0) (n := 2) (r := [.int .i64 vars, cl]) o1 rfl rfl
  repeat (first | refine EvO.plain rfl rfl rfl rfl rfl rfl ?_ | refine EvO.plain rfl rfl rfl rfl rfl (by assumption) ?_ | refine EvC.seq ?_ | refine EvC.region rfl ?_ | refine EvO.nil ?_ | refine at_normal ?_)
  (refine EvO.cons rfl rfl rfl (EvP.callF rfl rfl rfl rfl (EvF.mono (valid_spec (facts gt) S1.wf (C.mono (fun i o e => S1.le _ _ (hle1 _ _ e)))) ?_)))
  rintro _ h2 hn2 ⟨hg2, rfl⟩
  have hle2 : h.le h2 := fun i o e => hg2.le _ _ (S1.le _ _ (hle1 _ _ e))
  have o2 := hg2.le _ _ o1
  clear f1
  by_cases hv : valid vars L
  · rw [decide_eq_true hv]
    have f2 := load1 (T := TT gt) (t := 3) (off := 0) o2 rfl rfl rfl
    repeat (first | refine EvO.plain rfl rfl rfl rfl rfl rfl ?_ | refine EvO.nil ?_ | refine at_normal ?_)
    refine EvC.cond (t := false) rfl (fun e => nomatch e) (fun _ => ?_)
    repeat (first | refine EvO.plain rfl rfl rfl rfl rfl rfl ?_ | refine EvO.plain rfl rfl rfl rfl rfl (by assumption) ?_ | refine EvC.seq ?_ | refine EvC.region rfl ?_ | refine EvO.nil ?_ | refine at_normal ?_ | refine EvC.skip ?_)
    by_cases h16 : vars > 16
    · refine EvC.cond (t := true) (isT (decide_eq_true h16)) (fun _ => ?_) (fun e => nomatch e)
      repeat (first | refine EvO.plain rfl rfl rfl rfl rfl rfl ?_ | refine EvC.seq ?_ | refine EvC.region rfl ?_ | refine EvO.nil ?_ | refine at_normal ?_ | refine EvC.ret ?_ | refine at_ret ?_)
      (refine ret_are (vs := [.int .i64 0, .int .i64 5]) rfl rfl ?_)
      exact ⟨⟨hle2, hg2.wf⟩, .inr (.inl ⟨⟨hv, h16⟩, rfl⟩)⟩
    · refine EvC.cond (t := false) (isT (decide_eq_false h16)) (fun e => nomatch e) (fun _ => ?_)
      have hOB : ∃ n : Nat, vars = n := ⟨vars.toNat, by have := hv.1; omega⟩
      obtain ⟨n, rfl⟩ := hOB
      have hpw : 2 ^ n ≤ 2 ^ 30 := Nat.pow_le_pow_right (by decide) (by omega)
      have S2 : HS h2 h2 (fun _ => 0) := HS.all hg2.wf
      repeat (first | refine EvO.plain rfl rfl rfl rfl rfl rfl ?_ | refine EvO.plain rfl rfl rfl rfl rfl (by assumption) ?_ | refine EvC.seq ?_ | refine EvC.region rfl ?_ | refine EvO.nil ?_ | refine at_normal ?_ | refine EvC.skip ?_)
      (refine EvO.cons rfl rfl rfl (EvP.newC S2 1 rfl (make_vec (T := TT gt) (n := n) (t := 33) rfl rfl rfl (by omega) (by show ((n : Nat) : Int) * (1 : Nat) ≤ ((70368744177664 : Nat) : Int); omega)) (by decide) (fun h3 id c3 A3 S3 o3 cc3 _ => ?_)))
      have V3 : Vec c3 1 h3 4 1 (.slice id 0 n n true) n ((List.replicate n false).map AV.bool) := .mk (tail := []) (by rw [List.append_nil, List.map_replicate, ← rep_one]; exact o3) cc3 (by simp) (fun _ => ⟨Nat.le_refl _, by simp⟩)
      clear o3 cc3
      have f3 := load1 (T := TT gt) (t := 3) (off := 0) (S3.le _ _ o2) rfl rfl rfl
      clear f2
      generalize hbv : AV.slice id 0 n n true = bv at *
      repeat (first | refine EvO.plain rfl rfl rfl rfl rfl rfl ?_ | refine EvO.plain rfl rfl rfl rfl rfl (by assumption) ?_ | refine EvC.seq ?_ | refine EvC.region rfl ?_ | refine EvO.nil ?_ | refine at_normal ?_)
      (refine EvO.cons rfl rfl rfl (EvP.quiet rfl (show some (AV.int .i64 (IntKind.i64.wrap (1 * 2 ^ min ((n : Nat) : Int).toNat IntKind.i64.bits))) = some (.int .i64 ((2 ^ n : Nat) : Int)) by rw [shl1 n (by omega)]) ?_))
      repeat (first | refine EvO.plain rfl rfl rfl rfl rfl rfl ?_ | refine EvO.nil ?_ | refine at_normal ?_ | refine EvC.block ?_)
      clear f3
      generalize hN : 2 ^ n = N at *
      refine EvC.loop (fun m σ h' => ∃ (s : Nat) (cx : Nat → Nat) (bs : List Bool) (E : Nat → AV), HS h2 h' cx ∧ Vec cx 1 h' 4 1 bv n (bs.map AV.bool) ∧ bs.length = n ∧ s ≤ N ∧ m = N - s ∧ σ = upds [(1, .ptr b 0), (4, .int .i64 (cntB L n s : Nat)), (5, bv), (19, .int .i64 (N : Nat)), (20, .int .i64 s)] E) (N) ?_ ?_
      · exact ⟨0, _, List.replicate n false, _, S3, V3, by simp, Nat.zero_le _, rfl, hold ⟨rfl, rfl, hbv, rfl, rfl, trivial⟩⟩
      · clear S3 A3 V3 S2 S1 A1
        rintro m _ h4 ⟨s, c4, bs, E, S4, V4, hbl, hs, rfl, rfl⟩
        repeat (first | refine EvO.plain rfl rfl rfl rfl rfl rfl ?_ | refine EvC.seq ?_ | refine EvC.region rfl ?_ | refine EvO.nil ?_ | refine at_normal ?_)
        refine EvC.decide rfl (fun hlt => ?_) (fun hlt => ?_)
        · have hlt : s < N := by omega
          have ln := V4.row.len (T := TT gt) (t := 33) rfl
          repeat (first | refine EvO.plain rfl rfl rfl rfl rfl rfl ?_ | refine EvO.plain rfl rfl rfl rfl rfl (by assumption) ?_ | refine EvC.seq ?_ | refine EvC.region rfl ?_ | refine EvO.nil ?_ | refine at_normal ?_ | refine EvC.skip ?_ | refine EvC.block ?_)
          clear ln
          refine EvC.loop (fun m σ h' => ∃ (v : Nat) (bs : List Bool) (E : Nat → AV), HS h2 h' c4 ∧ Vec c4 1 h' 4 1 bv n (bs.map AV.bool) ∧ bs.length = n ∧ (∀ i, i < v → bs.getD i false = (s / 2 ^ i % 2 == 1)) ∧ v ≤ n ∧ m = n - v ∧ σ = upds [(1, .ptr b 0), (4, .int .i64 (cntB L n s : Nat)), (5, bv), (6, .int .i64 s), (19, .int .i64 (N : Nat)), (20, .int .i64 s), (24, .int .i64 n), (25, .int .i64 v)] E) (n) ?_ ?_
          · exact ⟨0, bs, _, S4, V4, hbl, fun i hi => absurd hi (Nat.not_lt_zero _), Nat.zero_le _, rfl, hold ⟨rfl, rfl, rfl, rfl, rfl, rfl, rfl, rfl, trivial⟩⟩
          · clear S4 V4 hbl
            clear bs
            rintro m _ h6 ⟨v, bs, E, S6, V6, hbl, hbs, hv2, rfl, rfl⟩
            repeat (first | refine EvO.plain rfl rfl rfl rfl rfl rfl ?_ | refine EvC.seq ?_ | refine EvC.region rfl ?_ | refine EvO.nil ?_ | refine at_normal ?_)
            refine EvC.decide rfl (fun hvn => ?_) (fun hvn => ?_)
            · have hvn : v < n := by omega
              have hOB := V6.at1 (T := TT gt) (t := 33) (k := .i64) (i := v) rfl rfl rfl rfl (by omega) (by omega)
              obtain ⟨qa, u2, d1, d2, d3⟩ := hOB
              clear d2 d3
              have hbit := bit_val s v (by omega) (by omega)
              generalize hz : s / 2 ^ v % 2 = z at *
              repeat (first | refine EvO.plain rfl rfl rfl rfl rfl rfl ?_ | refine EvC.seq ?_ | refine EvC.region rfl ?_ | refine EvO.nil ?_ | refine at_normal ?_ | refine EvC.skip ?_ | refine EvC.block ?_)
              (refine EvO.cons rfl rfl rfl (EvP.quiet rfl (shr_at s v) ?_))
              skip
              (refine EvO.cons rfl rfl rfl (EvP.quiet rfl (show some (AV.int .i64 (IntKind.i64.wrap ((BitVec.ofInt IntKind.i64.bits ((s : Int).fdiv (2 ^ min ((v : Nat) : Int).toNat IntKind.i64.bits)) &&& BitVec.ofInt IntKind.i64.bits 1).toNat : Nat))) = some (.int .i64 ((z : Nat) : Int)) by rw [hbit]) ?_))
              repeat (first | refine EvO.plain rfl rfl rfl rfl rfl rfl ?_ | refine EvO.plain rfl rfl rfl rfl rfl (by assumption) ?_)
              (refine EvO.cons0 rfl rfl (EvP.setV (T := TT gt) (t := 33) (k := .i64) (i := v) (u := .bool (((z : Nat) : Int) == 1)) S6 V6 (by decide) rfl rfl rfl (by omega) (by omega) d1 rfl rfl rfl rfl (fun h7 A7 S7 X7 _ => ?_)))
              rw [← List.map_set, Int.toNat_natCast] at X7
              clear d1
              repeat (first | refine EvO.plain rfl rfl rfl rfl rfl rfl ?_ | refine EvC.region rfl ?_ | refine EvO.nil ?_ | refine at_normal ?_ | refine be_normal ?_ | refine ro_normal ?_ | refine EvO.cons rfl rfl rfl (EvP.add64 rfl rfl (by omega) ?_))
              refine ⟨n - (v + 1), by omega, v + 1, _, _, S7, X7, by rw [List.length_set]; exact hbl, fun i hi => ?_, by omega, rfl, hold ⟨rfl, rfl, rfl, rfl, rfl, rfl, rfl, rfl, trivial⟩⟩
              rw [getD_set (by omega)]
              by_cases e : v = i
              · subst e
                rw [if_pos rfl, hz, Bool.eq_iff_iff, beq_iff_eq, beq_iff_eq]; omega
              · rw [if_neg e]; exact hbs i (by omega)
            · have hend : v = n := by omega
              subst hend
              have hBB : bs = bitsB s v := by
                apply List.ext_getElem (by rw [bitsB_len]; exact hbl)
                intro i h7 h8
                have h9 := hbs i (by omega)
                rw [List.getD_eq_getElem?_getD, List.getElem?_eq_getElem h7] at h9
                have h10 : bs[i] = (s / 2 ^ i % 2 == 1) := h9
                rw [h10]; simp [bitsB]
              have hrow : BoolRow h6 bv bs := bool_row (by rw [hbl]; exact V6)
              have hle6 : h.le h6 := fun i o e => S6.le _ _ (hle2 _ _ e)
              have f2 := loadAgg (T := TT gt) (t := 24) (off := 0) (n := 2) (r := [.int .i64 v, cl]) (S6.le _ _ o2) rfl rfl
              have hcs := cntB_succ L v s
              have hcl := cntB_le L v s
              repeat (first | refine EvO.plain rfl rfl rfl rfl rfl rfl ?_ | refine EvO.plain rfl rfl rfl rfl rfl (by assumption) ?_ | refine EvC.seq ?_ | refine EvC.region rfl ?_ | refine at_normal ?_ | refine EvC.exit ?_ | refine at_exit ?_ | refine be_same rfl ?_ | refine ro_exit ?_)
              (refine EvO.cons rfl rfl rfl (EvP.callF rfl rfl rfl rfl (EvF.mono (model_spec (facts gt) S6.wf (C.mono hle6) hrow (by omega) (by rw [hbl]; exact hv.2.2.2.2)) ?_)))
              rintro _ h7 _ ⟨hg7, rfl⟩
              clear f2
              have S7 := S6.grow hg7.le hg7.wf hg7.nx
              by_cases hA : allB L bs
              · rw [decide_eq_true hA]
                rw [hBB] at hA
                rw [if_pos hA] at hcs
                repeat (first | refine EvO.nil ?_ | refine at_normal ?_)
                refine EvC.cond (t := true) rfl (fun _ => ?_) (fun e => nomatch e)
                repeat (first | refine EvO.plain rfl rfl rfl rfl rfl rfl ?_ | refine EvC.region rfl ?_ | refine EvO.nil ?_ | refine at_normal ?_ | refine be_normal ?_ | refine ro_normal ?_ | refine EvO.cons rfl rfl rfl (EvP.add64 rfl rfl (by omega) ?_))
                exact ⟨N - (s + 1), by omega, s + 1, c4, bs, _, S7, V6.le hg7.le, hbl, by omega, rfl, hold ⟨rfl, congrArg (AV.int .i64) (by omega), rfl, rfl, rfl, trivial⟩⟩
              · rw [decide_eq_false hA]
                rw [hBB] at hA
                rw [if_neg hA, Nat.add_zero] at hcs
                repeat (first | refine EvO.nil ?_ | refine at_normal ?_)
                refine EvC.cond (t := false) rfl (fun e => nomatch e) (fun _ => ?_)
                repeat (first | refine EvO.plain rfl rfl rfl rfl rfl rfl ?_ | refine EvC.region rfl ?_ | refine EvO.nil ?_ | refine at_normal ?_ | refine EvC.skip ?_ | refine be_normal ?_ | refine ro_normal ?_ | refine EvO.cons rfl rfl rfl (EvP.add64 rfl rfl (by omega) ?_))
                exact ⟨N - (s + 1), by omega, s + 1, c4, bs, _, S7, V6.le hg7.le, hbl, by omega, rfl, hold ⟨rfl, congrArg (AV.int .i64) (by omega), rfl, rfl, rfl, trivial⟩⟩
        · have hend : s = N := by omega
          subst hend
          repeat (first | refine EvO.plain rfl rfl rfl rfl rfl rfl ?_ | refine EvC.seq ?_ | refine EvC.region rfl ?_ | refine EvO.nil ?_ | refine at_normal ?_ | refine EvC.ret ?_ | refine EvC.exit ?_ | refine at_exit ?_ | refine be_same rfl ?_ | refine ro_exit ?_)
          (refine ret_are (vs := [.int .i64 (cntB L n s : Nat), .int .i64 0]) rfl rfl ?_)
          exact ⟨⟨fun i o e => S4.le _ _ (hle2 _ _ e), S4.wf⟩, .inr (.inr ⟨n, rfl, hv, by omega, by rw [hN]; rfl⟩)⟩
  · rw [decide_eq_false hv]
    repeat (first | refine EvO.plain rfl rfl rfl rfl rfl rfl ?_ | refine EvO.nil ?_ | refine at_normal ?_)
    refine EvC.cond (t := true) rfl (fun _ => ?_) (fun e => nomatch e)
    repeat (first | refine EvO.plain rfl rfl rfl rfl rfl rfl ?_ | refine EvC.seq ?_ | refine EvC.region rfl ?_ | refine EvO.nil ?_ | refine at_normal ?_ | refine EvC.ret ?_ | refine at_ret ?_)
    (refine ret_are (vs := [.int .i64 0, .int .i64 2]) rfl rfl ?_)
    exact ⟨⟨hle2, hg2.wf⟩, .inl ⟨hv, rfl⟩⟩
end Sa
end Pf
end Go.Proofs.YtheiionmocfleaaDoor
/- The law SatCounts. -/
namespace Go.Proofs.YtheiionmocfleaaDoor
namespace Pf
namespace Sa
open Go Go.AI Go.Proofs
variable {gt : Tree (List AV)}
theorem CountSays.eq {vars : Int} {L : List (List Int)} {r r' : AV} (h : CountSays vars L r) (h' : CountSays vars L r') : r' = r := by
  rcases h with ⟨h1, rfl⟩ | ⟨⟨h1, h2⟩, rfl⟩ | ⟨n, rfl, h1, h2, rfl⟩
  · rcases h' with ⟨k1, rfl⟩ | ⟨⟨k1, k2⟩, rfl⟩ | ⟨m, rfl, k1, k2, rfl⟩
    · rfl
    · exact absurd k1 h1
    · exact absurd k1 h1
  · rcases h' with ⟨k1, rfl⟩ | ⟨⟨k1, k2⟩, rfl⟩ | ⟨m, rfl, k1, k2, rfl⟩
    · exact absurd h1 k1
    · rfl
    · omega
  · rcases h' with ⟨k1, rfl⟩ | ⟨⟨k1, k2⟩, rfl⟩ | ⟨m, k0, k1, k2, rfl⟩
    · exact absurd h1 k1
    · omega
    · have hOB : n = m := by omega
      obtain rfl := hOB
      rfl
theorem some_cnt {L : List (List Int)} {B : List Bool} (h : allB L B) : 0 < cntB L B.length (2 ^ B.length) := by
  have hOB := bits_all B
  obtain ⟨s, h1, h2⟩ := hOB
  unfold cntB
  rw [List.countP_pos_iff]
  exact ⟨s, List.mem_range.2 h1, by rw [h2]; exact decide_eq_true h⟩
-- the law's other way out
-- both counts, and what they say
set_option maxHeartbeats 8000000 in
theorem law_counts {h : AH} (hw : WF h) {vars : Int} {cl : AV} {L : List (List Int)} {cv : Nat → AV} (C : CnfAt h vars cl L cv) :
    EvF (TT gt) X 5 [.agg [.int .i64 vars, cl]] h (fun r _ => r = .bool true) := by
  have S0 := HS.all hw
  refine EvF.enter rfl rfl rfl ?_
  repeat (first | refine EvC.seq ?_ | refine EvC.region rfl ?_)
  (refine EvO.cons rfl rfl rfl (EvP.newR (b := .cells [.int .i64 vars, cl] 24 false) (mk := .ptr) S0 rfl rfl (fun h1 b A1 S1 hle1 o1 _ _ => ?_)))
  have f1 := loadAgg (T := TT gt) (t := 24) (off := 0) (n := 2) (r := [.int .i64 vars, cl]) o1 rfl rfl
  repeat (first | refine EvO.plain rfl rfl rfl rfl rfl rfl ?_ | refine EvO.plain rfl rfl rfl rfl rfl (by assumption) ?_ | refine EvC.seq ?_ | refine EvC.region rfl ?_ | refine EvO.nil ?_ | refine at_normal ?_)
  (refine EvO.cons rfl rfl rfl (EvP.callF rfl rfl rfl rfl (EvF.mono (few_spec (facts gt) S1.wf (C.mono (fun i o e => S1.le _ _ (hle1 _ _ e)))) ?_)))
  rintro _ h2 _ ⟨hg2, q, rfl⟩
  have hle2 : h.le h2 := fun i o e => hg2.le _ _ (S1.le _ _ (hle1 _ _ e))
  have o2 := hg2.le _ _ o1
  have f2 := loadAgg (T := TT gt) (t := 24) (off := 0) (n := 2) (r := [.int .i64 vars, cl]) o2 rfl rfl
  have f2b := load1 (T := TT gt) (t := 3) (off := 0) o2 rfl rfl rfl
  clear f1
  cases q with
  | false =>
    repeat (first | refine EvO.plain rfl rfl rfl rfl rfl rfl ?_ | refine EvO.nil ?_ | refine at_normal ?_ | refine EvO.off rfl rfl rfl ?_)
    refine EvC.cond (t := true) rfl (fun _ => ?_) (fun e => nomatch e)
    repeat (first | refine EvC.seq ?_ | refine EvC.region rfl ?_)
    (refine EvO.cons rfl rfl rfl (EvP.callF rfl rfl rfl rfl (EvF.mono (awake_spec (facts gt)) ?_)))
    rintro _ h99 _ ⟨rfl, rfl⟩
    repeat (first | refine EvO.plain rfl rfl rfl rfl rfl rfl ?_ | refine EvO.nil ?_ | refine at_normal ?_ | refine EvC.ret ?_ | refine at_ret ?_)
    (refine ret_is (v := .bool true) rfl rfl ?_)
    rfl
  | true =>
    repeat (first | refine EvO.plain rfl rfl rfl rfl rfl rfl ?_ | refine EvO.plainOn rfl rfl rfl rfl rfl rfl ?_ | refine EvO.plainOn rfl rfl rfl rfl rfl (by assumption) ?_)
    by_cases h10 : vars > 10
    · refine EvO.on rfl rfl rfl (EvP.quiet (v := .bool true) rfl (isB (decide_eq_true h10)) ?_)
      repeat (first | refine EvO.plainOn rfl rfl rfl rfl rfl rfl ?_ | refine EvO.plainOn rfl rfl rfl rfl rfl (by assumption) ?_)
      by_cases h16 : vars ≤ 16
      · refine EvO.on rfl rfl rfl (EvP.quiet (v := .bool true) rfl (isB (decide_eq_true h16)) ?_)
        repeat (first | refine EvO.plain rfl rfl rfl rfl rfl rfl ?_ | refine EvO.nil ?_ | refine at_normal ?_ | refine EvO.plainOn rfl rfl rfl rfl rfl rfl ?_)
        refine EvC.cond (t := true) rfl (fun _ => ?_) (fun e => nomatch e)
        repeat (first | refine EvC.seq ?_ | refine EvC.region rfl ?_)
        (refine EvO.cons rfl rfl rfl (EvP.callF rfl rfl rfl rfl (EvF.mono (awake_spec (facts gt)) ?_)))
        rintro _ h99 _ ⟨rfl, rfl⟩
        repeat (first | refine EvO.plain rfl rfl rfl rfl rfl rfl ?_ | refine EvO.nil ?_ | refine at_normal ?_ | refine EvC.ret ?_ | refine at_ret ?_)
        (refine ret_is (v := .bool true) rfl rfl ?_)
        rfl
      · refine EvO.on rfl rfl rfl (EvP.quiet (v := .bool false) rfl (isB (decide_eq_false h16)) ?_)
        repeat (first | refine EvO.plain rfl rfl rfl rfl rfl rfl ?_ | refine EvO.nil ?_ | refine at_normal ?_ | refine EvO.plainOn rfl rfl rfl rfl rfl rfl ?_)
        refine EvC.cond (t := false) rfl (fun e => nomatch e) (fun _ => ?_)
        repeat (first | refine EvO.plain rfl rfl rfl rfl rfl (by assumption) ?_ | refine EvC.seq ?_ | refine EvC.region rfl ?_ | refine at_normal ?_ | refine EvC.skip ?_)
        (refine EvO.cons rfl rfl rfl (EvP.callF rfl rfl rfl rfl (EvF.mono (count_spec hg2.wf (C.mono hle2)) ?_)))
        rintro r1 h3 _ ⟨⟨hle23, hw3⟩, hc1⟩
        have hle3 : h.le h3 := fun i o e => hle23 _ _ (hle2 _ _ e)
        have o3 := hle23 _ _ o2
        have f3 := loadAgg (T := TT gt) (t := 24) (off := 0) (n := 2) (r := [.int .i64 vars, cl]) o3 rfl rfl
        clear f2 f2b
        have hform : ∃ a e : Int, r1 = .tuple [.int .i64 a, .int .i64 e] ∧ (e = 0 → ∃ n : Nat, vars = n ∧ valid n L ∧ n ≤ 16 ∧ a = (cntB L n (2 ^ n) : Nat)) := by
          rcases hc1 with ⟨_, rfl⟩ | ⟨_, rfl⟩ | ⟨n, h1, h2, h4, rfl⟩
          · exact ⟨_, _, rfl, fun e => absurd e (by decide)⟩
          · exact ⟨_, _, rfl, fun e => absurd e (by decide)⟩
          · exact ⟨_, _, rfl, fun _ => ⟨n, h1, h2, h4, rfl⟩⟩
        obtain ⟨a, e, rfl, hae⟩ := hform
        repeat (first | refine EvO.plain rfl rfl rfl rfl rfl rfl ?_ | refine EvO.plain rfl rfl rfl rfl rfl (by assumption) ?_ | refine EvC.seq ?_ | refine EvC.region rfl ?_ | refine EvO.nil ?_ | refine at_normal ?_)
        (refine EvO.cons rfl rfl rfl (EvP.callF rfl rfl rfl rfl (EvF.mono (refCount_spec hw3 (C.mono hle3)) ?_)))
        rintro r2 h4 _ ⟨⟨hle34, hw4⟩, hc2⟩
        have hle4 : h.le h4 := fun i o e => hle34 _ _ (hle3 _ _ e)
        have o4 := hle34 _ _ o3
        have f4 := loadAgg (T := TT gt) (t := 24) (off := 0) (n := 2) (r := [.int .i64 vars, cl]) o4 rfl rfl
        clear f3
        have hOB := hc1.eq hc2
        obtain rfl := hOB
        clear hc1 hc2
        repeat (first | refine EvO.plain rfl rfl rfl rfl rfl rfl ?_ | refine EvC.seq ?_ | refine EvC.region rfl ?_ | refine EvO.nil ?_ | refine at_normal ?_)
        refine EvO.on rfl rfl rfl (EvP.quiet (v := .bool false) rfl (isB (bne_false rfl)) ?_)
        repeat (first | refine EvO.plain rfl rfl rfl rfl rfl rfl ?_ | refine EvO.plainOn rfl rfl rfl rfl rfl rfl ?_)
        refine EvO.on rfl rfl rfl (EvP.quiet (v := .bool false) rfl (isB (bne_false rfl)) ?_)
        repeat (first | refine EvO.plain rfl rfl rfl rfl rfl rfl ?_ | refine EvO.nil ?_ | refine at_normal ?_)
        refine EvC.cond (t := false) rfl (fun e => nomatch e) (fun _ => ?_)
        repeat (first | refine EvO.plain rfl rfl rfl rfl rfl rfl ?_ | refine EvC.seq ?_ | refine EvC.region rfl ?_ | refine EvO.nil ?_ | refine at_normal ?_ | refine EvC.skip ?_)
        by_cases he0 : e = 0
        · have hOB := hae he0
          obtain ⟨n, rfl, hv, hn, rfl⟩ := hOB
          subst he0
          refine EvC.cond (t := true) rfl (fun _ => ?_) (fun e => nomatch e)
          repeat (first | refine EvO.plain rfl rfl rfl rfl rfl (by assumption) ?_ | refine EvC.seq ?_ | refine EvC.region rfl ?_)
          (refine EvO.cons rfl rfl rfl (EvP.callF rfl rfl rfl rfl (EvF.mono (solve_spec hw4 (C.mono hle4)) ?_)))
          rintro _ h5 _ ⟨⟨hle45, hw5⟩, hS⟩
          clear f4
          rcases hS with ⟨hnv, _⟩ | ⟨_, hS⟩
          · exact absurd hv hnv
          · rw [Int.toNat_natCast] at hS
            rcases hS with ⟨rv, m, rfl, hm, hml, hA⟩ | ⟨rfl, hn12, _⟩ | ⟨pv, P, rfl, hP, hR⟩
            · have hp := some_cnt hA
              rw [hml] at hp
              repeat (first | refine EvO.plain rfl rfl rfl rfl rfl rfl ?_ | refine EvC.seq ?_ | refine EvC.region rfl ?_ | refine EvO.nil ?_ | refine at_normal ?_)
              refine EvO.on rfl rfl rfl (EvP.quiet (v := .bool true) rfl rfl ?_)
              repeat (first | refine EvO.plain rfl rfl rfl rfl rfl rfl ?_ | refine EvO.plainOn rfl rfl rfl rfl rfl rfl ?_)
              refine EvO.on rfl rfl rfl (EvP.quiet (v := .bool true) rfl (isB (decide_eq_true (by omega))) ?_)
              skip
              refine EvO.on rfl rfl rfl (EvP.quiet (v := .bool true) rfl rfl ?_)
              repeat (refine EvO.plain rfl rfl rfl rfl rfl rfl ?_)
              refine EvO.on rfl rfl rfl (EvP.callF rfl rfl rfl rfl (EvF.mono (awake_spec (facts gt)) ?_))
              rintro _ h99 _ ⟨rfl, rfl⟩
              repeat (first | refine EvO.plain rfl rfl rfl rfl rfl rfl ?_ | refine EvO.nil ?_ | refine at_normal ?_ | refine EvC.ret ?_ | refine at_ret ?_)
              (refine ret_is (v := .bool true) rfl rfl ?_)
              rfl
            · omega
            · have hOB := says_rup (valid_oks hv) hR
              obtain ⟨_, hno⟩ := hOB
              rw [none_cnt hno]
              repeat (first | refine EvO.plain rfl rfl rfl rfl rfl rfl ?_ | refine EvC.seq ?_ | refine EvC.region rfl ?_ | refine EvO.nil ?_ | refine at_normal ?_)
              refine EvO.on rfl rfl rfl (EvP.quiet (v := .bool true) rfl rfl ?_)
              repeat (first | refine EvO.plain rfl rfl rfl rfl rfl rfl ?_ | refine EvO.plainOn rfl rfl rfl rfl rfl rfl ?_)
              refine EvO.on rfl rfl rfl (EvP.quiet (v := .bool false) rfl rfl ?_)
              skip
              refine EvO.on rfl rfl rfl (EvP.quiet (v := .bool true) rfl rfl ?_)
              repeat (refine EvO.plain rfl rfl rfl rfl rfl rfl ?_)
              refine EvO.on rfl rfl rfl (EvP.callF rfl rfl rfl rfl (EvF.mono (awake_spec (facts gt)) ?_))
              rintro _ h99 _ ⟨rfl, rfl⟩
              repeat (first | refine EvO.plain rfl rfl rfl rfl rfl rfl ?_ | refine EvO.nil ?_ | refine at_normal ?_ | refine EvC.ret ?_ | refine at_ret ?_)
              (refine ret_is (v := .bool true) rfl rfl ?_)
              rfl
        · refine EvC.cond (t := false) (isT (beq_false he0)) (fun e => nomatch e) (fun _ => ?_)
          clear f4
          repeat (first | refine EvC.seq ?_ | refine EvC.region rfl ?_ | refine at_normal ?_ | refine EvC.skip ?_)
          (refine EvO.cons rfl rfl rfl (EvP.callF rfl rfl rfl rfl (EvF.mono (awake_spec (facts gt)) ?_)))
          rintro _ h99 _ ⟨rfl, rfl⟩
          repeat (first | refine EvO.plain rfl rfl rfl rfl rfl rfl ?_ | refine EvO.nil ?_ | refine at_normal ?_ | refine EvC.ret ?_)
          (refine ret_is (v := .bool true) rfl rfl ?_)
          rfl
    · refine EvO.on rfl rfl rfl (EvP.quiet (v := .bool false) rfl (isB (decide_eq_false h10)) ?_)
      repeat (first | refine EvO.plain rfl rfl rfl rfl rfl rfl ?_ | refine EvO.nil ?_ | refine at_normal ?_ | refine EvO.off rfl rfl rfl ?_ | refine EvO.plainOn rfl rfl rfl rfl rfl rfl ?_)
      refine EvC.cond (t := false) rfl (fun e => nomatch e) (fun _ => ?_)
      repeat (first | refine EvO.plain rfl rfl rfl rfl rfl (by assumption) ?_ | refine EvC.seq ?_ | refine EvC.region rfl ?_ | refine at_normal ?_ | refine EvC.skip ?_)
      (refine EvO.cons rfl rfl rfl (EvP.callF rfl rfl rfl rfl (EvF.mono (count_spec hg2.wf (C.mono hle2)) ?_)))
      rintro r1 h3 _ ⟨⟨hle23, hw3⟩, hc1⟩
      have hle3 : h.le h3 := fun i o e => hle23 _ _ (hle2 _ _ e)
      have o3 := hle23 _ _ o2
      have f3 := loadAgg (T := TT gt) (t := 24) (off := 0) (n := 2) (r := [.int .i64 vars, cl]) o3 rfl rfl
      clear f2 f2b
      have hform : ∃ a e : Int, r1 = .tuple [.int .i64 a, .int .i64 e] ∧ (e = 0 → ∃ n : Nat, vars = n ∧ valid n L ∧ n ≤ 16 ∧ a = (cntB L n (2 ^ n) : Nat)) := by
        rcases hc1 with ⟨_, rfl⟩ | ⟨_, rfl⟩ | ⟨n, h1, h2, h4, rfl⟩
        · exact ⟨_, _, rfl, fun e => absurd e (by decide)⟩
        · exact ⟨_, _, rfl, fun e => absurd e (by decide)⟩
        · exact ⟨_, _, rfl, fun _ => ⟨n, h1, h2, h4, rfl⟩⟩
      obtain ⟨a, e, rfl, hae⟩ := hform
      repeat (first | refine EvO.plain rfl rfl rfl rfl rfl rfl ?_ | refine EvO.plain rfl rfl rfl rfl rfl (by assumption) ?_ | refine EvC.seq ?_ | refine EvC.region rfl ?_ | refine EvO.nil ?_ | refine at_normal ?_)
      (refine EvO.cons rfl rfl rfl (EvP.callF rfl rfl rfl rfl (EvF.mono (refCount_spec hw3 (C.mono hle3)) ?_)))
      rintro r2 h4 _ ⟨⟨hle34, hw4⟩, hc2⟩
      have hle4 : h.le h4 := fun i o e => hle34 _ _ (hle3 _ _ e)
      have o4 := hle34 _ _ o3
      have f4 := loadAgg (T := TT gt) (t := 24) (off := 0) (n := 2) (r := [.int .i64 vars, cl]) o4 rfl rfl
      clear f3
      have hOB := hc1.eq hc2
      obtain rfl := hOB
      clear hc1 hc2
      repeat (first | refine EvO.plain rfl rfl rfl rfl rfl rfl ?_ | refine EvC.seq ?_ | refine EvC.region rfl ?_ | refine EvO.nil ?_ | refine at_normal ?_)
      refine EvO.on rfl rfl rfl (EvP.quiet (v := .bool false) rfl (isB (bne_false rfl)) ?_)
      repeat (first | refine EvO.plain rfl rfl rfl rfl rfl rfl ?_ | refine EvO.plainOn rfl rfl rfl rfl rfl rfl ?_)
      refine EvO.on rfl rfl rfl (EvP.quiet (v := .bool false) rfl (isB (bne_false rfl)) ?_)
      repeat (first | refine EvO.plain rfl rfl rfl rfl rfl rfl ?_ | refine EvO.nil ?_ | refine at_normal ?_)
      refine EvC.cond (t := false) rfl (fun e => nomatch e) (fun _ => ?_)
      repeat (first | refine EvO.plain rfl rfl rfl rfl rfl rfl ?_ | refine EvC.seq ?_ | refine EvC.region rfl ?_ | refine EvO.nil ?_ | refine at_normal ?_ | refine EvC.skip ?_)
      by_cases he0 : e = 0
      · have hOB := hae he0
        obtain ⟨n, rfl, hv, hn, rfl⟩ := hOB
        subst he0
        refine EvC.cond (t := true) rfl (fun _ => ?_) (fun e => nomatch e)
        repeat (first | refine EvO.plain rfl rfl rfl rfl rfl (by assumption) ?_ | refine EvC.seq ?_ | refine EvC.region rfl ?_)
        (refine EvO.cons rfl rfl rfl (EvP.callF rfl rfl rfl rfl (EvF.mono (solve_spec hw4 (C.mono hle4)) ?_)))
        rintro _ h5 _ ⟨⟨hle45, hw5⟩, hS⟩
        clear f4
        rcases hS with ⟨hnv, _⟩ | ⟨_, hS⟩
        · exact absurd hv hnv
        · rw [Int.toNat_natCast] at hS
          rcases hS with ⟨rv, m, rfl, hm, hml, hA⟩ | ⟨rfl, hn12, _⟩ | ⟨pv, P, rfl, hP, hR⟩
          · have hp := some_cnt hA
            rw [hml] at hp
            repeat (first | refine EvO.plain rfl rfl rfl rfl rfl rfl ?_ | refine EvC.seq ?_ | refine EvC.region rfl ?_ | refine EvO.nil ?_ | refine at_normal ?_)
            refine EvO.on rfl rfl rfl (EvP.quiet (v := .bool true) rfl rfl ?_)
            repeat (first | refine EvO.plain rfl rfl rfl rfl rfl rfl ?_ | refine EvO.plainOn rfl rfl rfl rfl rfl rfl ?_)
            refine EvO.on rfl rfl rfl (EvP.quiet (v := .bool true) rfl (isB (decide_eq_true (by omega))) ?_)
            skip
            refine EvO.on rfl rfl rfl (EvP.quiet (v := .bool true) rfl rfl ?_)
            repeat (refine EvO.plain rfl rfl rfl rfl rfl rfl ?_)
            refine EvO.on rfl rfl rfl (EvP.callF rfl rfl rfl rfl (EvF.mono (awake_spec (facts gt)) ?_))
            rintro _ h99 _ ⟨rfl, rfl⟩
            repeat (first | refine EvO.plain rfl rfl rfl rfl rfl rfl ?_ | refine EvO.nil ?_ | refine at_normal ?_ | refine EvC.ret ?_ | refine at_ret ?_)
            (refine ret_is (v := .bool true) rfl rfl ?_)
            rfl
          · omega
          · have hOB := says_rup (valid_oks hv) hR
            obtain ⟨_, hno⟩ := hOB
            rw [none_cnt hno]
            repeat (first | refine EvO.plain rfl rfl rfl rfl rfl rfl ?_ | refine EvC.seq ?_ | refine EvC.region rfl ?_ | refine EvO.nil ?_ | refine at_normal ?_)
            refine EvO.on rfl rfl rfl (EvP.quiet (v := .bool true) rfl rfl ?_)
            repeat (first | refine EvO.plain rfl rfl rfl rfl rfl rfl ?_ | refine EvO.plainOn rfl rfl rfl rfl rfl rfl ?_)
            refine EvO.on rfl rfl rfl (EvP.quiet (v := .bool false) rfl rfl ?_)
            skip
            refine EvO.on rfl rfl rfl (EvP.quiet (v := .bool true) rfl rfl ?_)
            repeat (refine EvO.plain rfl rfl rfl rfl rfl rfl ?_)
            refine EvO.on rfl rfl rfl (EvP.callF rfl rfl rfl rfl (EvF.mono (awake_spec (facts gt)) ?_))
            rintro _ h99 _ ⟨rfl, rfl⟩
            repeat (first | refine EvO.plain rfl rfl rfl rfl rfl rfl ?_ | refine EvO.nil ?_ | refine at_normal ?_ | refine EvC.ret ?_ | refine at_ret ?_)
            (refine ret_is (v := .bool true) rfl rfl ?_)
            rfl
      · refine EvC.cond (t := false) (isT (beq_false he0)) (fun e => nomatch e) (fun _ => ?_)
        clear f4
        repeat (first | refine EvC.seq ?_ | refine EvC.region rfl ?_ | refine at_normal ?_ | refine EvC.skip ?_)
        (refine EvO.cons rfl rfl rfl (EvP.callF rfl rfl rfl rfl (EvF.mono (awake_spec (facts gt)) ?_)))
        rintro _ h99 _ ⟨rfl, rfl⟩
        repeat (first | refine EvO.plain rfl rfl rfl rfl rfl rfl ?_ | refine EvO.nil ?_ | refine at_normal ?_ | refine EvC.ret ?_)
        (refine ret_is (v := .bool true) rfl rfl ?_)
        rfl
end Sa
end Pf
end Go.Proofs.YtheiionmocfleaaDoor
