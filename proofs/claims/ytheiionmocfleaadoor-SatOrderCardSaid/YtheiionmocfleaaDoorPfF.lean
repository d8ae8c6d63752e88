/- The reference: what is left of a clause. -/
import Derived.Test.YtheiionmocfleaaDoorPfB
namespace Go.Proofs.YtheiionmocfleaaDoor
namespace Pf
open Go Go.AI Go.Proofs
variable {gt : Tree (List AV)}
theorem getD_drop {l : List Int} {i : Nat} (hi : i < l.length) : l.drop i = l.getD i 0 :: l.drop (i + 1) := by
  rw [List.drop_eq_getElem_cons hi, List.getD_eq_getElem?_getD, List.getElem?_eq_getElem hi, Option.getD_some]
theorem rep_one {α : Type} : ∀ (n : Nat) (z : α), rep n [z] = List.replicate n z
  | 0, _ => rfl
  | n + 1, z => by rw [rep, rep_one n z, List.replicate_succ]; rfl
theorem row_ints {G : AH} {v : AV} {l : List Int} (r : RowOf G 1 v l.length (fun i => ((l.map (AV.int .i64)).drop (i * 1)).take 1)) : IntRow G v l := by
  refine r.congr fun i hi => ?_
  rw [Nat.mul_one, List.take_one, List.head?_drop, List.getElem?_map, List.getElem?_eq_getElem hi, List.getD_eq_getElem?_getD, List.getElem?_eq_getElem hi]
  rfl
/-- What is known speaks against a literal. -/
def Fv (val : List Int) (x : Int) : Bool := decide (val.getD x.natAbs 0 = -x)
theorem absI_nat (x : Int) : (absI x).toNat = x.natAbs := by unfold absI; split <;> omega
theorem absI_rng {n : Nat} {x : Int} (hx : ok n x) : 0 ≤ absI x ∧ absI x < ((n + 1 : Nat) : Int) := by
  obtain ⟨h0, h1, h2⟩ := hx
  unfold absI; split <;> omega
set_option maxHeartbeats 4000000 in
theorem left_spec {h : AH} {n : Nat} (hn : n ≤ 1000000) {all : List (List Int)} {taken val : List Int} (VO : VOk n all taken val) {lv vv : AV} {c : List Int} (rc : IntRow h lv c) (rv : IntRow h vv val) (hok : ∀ x ∈ c, ok n x) (hlen : c.length ≤ 2 ^ 50) :
    EvF (TT gt) X 68 [lv, vv] h (fun r h' => h' = h ∧ r = .tuple [.int .i64 (leftG (Fv val) 0 c).1, .bool (leftG (Fv val) 0 c).2.1, .bool (leftG (Fv val) 0 c).2.2]) := by
  have ln := rc.len (T := TT gt) (t := 25) rfl
  refine EvF.enter rfl rfl rfl ?_
  repeat (first | refine EvO.plain rfl rfl rfl rfl rfl rfl ?_ | refine EvO.plain rfl rfl rfl rfl rfl (by assumption) ?_ | refine EvC.seq ?_ | refine EvC.region rfl ?_ | refine EvO.nil ?_ | refine at_normal ?_ | refine EvC.block ?_)
  clear ln
  refine EvC.loop (fun m σ h' => h' = h ∧ ∃ (i : Nat) (one : Int) (E : Nat → AV), i ≤ c.length ∧ m = c.length - i ∧ leftG (Fv val) 0 c = leftG (Fv val) one (c.drop i) ∧ σ = upds [(0, lv), (1, vv), (4, .int .i64 one), (10, lv), (11, .int .i64 c.length), (12, .int .i64 i)] E) (c.length) ?_ ?_
  · exact ⟨rfl, 0, 0, _, Nat.zero_le _, rfl, rfl, hold ⟨rfl, rfl, rfl, rfl, rfl, rfl, trivial⟩⟩
  · rintro m _ h ⟨rfl, i, one, E, hi, rfl, hL, rfl⟩
    repeat (first | refine EvO.plain rfl rfl rfl rfl rfl rfl ?_ | refine EvC.seq ?_ | refine EvC.region rfl ?_ | refine EvO.nil ?_ | refine at_normal ?_)
    refine EvC.decide rfl (fun hc => ?_) (fun hc => ?_)
    · have hlt : i < c.length := by omega
      have hOB := rc.at1 (T := TT gt) (t := 25) (e := 3) rfl rfl rfl rfl (k := .i64) (i := i) (by omega) (by omega)
      obtain ⟨q, b1, b2⟩ := hOB
      rw [Int.toNat_natCast] at b2
      have hoki := hok _ (getD_mem hlt)
      rw [getD_drop hlt, leftG] at hL
      generalize c.getD i 0 = x at *
      have hr := absI_rng hoki
      obtain ⟨x0, x1, x2⟩ := hoki
      repeat (first | refine EvO.plain rfl rfl rfl rfl rfl rfl ?_ | refine EvO.plain rfl rfl rfl rfl rfl (by assumption) ?_ | refine EvC.seq ?_ | refine EvC.region rfl ?_ | refine EvO.nil ?_ | refine at_normal ?_ | refine EvC.skip ?_ | refine EvC.block ?_)
      (refine EvO.cons rfl rfl rfl (EvP.callF rfl rfl rfl rfl (EvF.mono (var_spec (facts gt) x (by omega)) ?_)))
      rintro _ h _ ⟨rfl, rfl⟩
      have hOB := rv.at1 (T := TT gt) (t := 25) (e := 3) rfl rfl rfl rfl (k := .i64) (i := absI x) hr.1 (by rw [VO.len]; exact hr.2)
      obtain ⟨q2, d1, d2⟩ := hOB
      rw [absI_nat] at d2
      have hent := VO.ent x.natAbs (by omega)
      have hF : Fv val x = decide (val.getD x.natAbs 0 = -x) := rfl
      rw [hF] at hL
      generalize val.getD x.natAbs 0 = v at *
      clear b1 b2
      repeat (first | refine EvO.plain rfl rfl rfl rfl rfl rfl ?_ | refine EvO.plain rfl rfl rfl rfl rfl (by assumption) ?_ | refine EvC.seq ?_ | refine EvC.region rfl ?_ | refine EvO.nil ?_ | refine at_normal ?_)
      clear d1 d2
      have skip : (v = -x ∨ x = one) → leftG (Fv val) 0 c = leftG (Fv val) one (c.drop (i + 1)) := fun e => by
        rw [hL, if_pos]
        rcases e with e | e
        · exact .inl (decide_eq_true e)
        · exact .inr e
      have cs : v = 0 ∨ (v = x ∧ v ≠ 0 ∧ x > 0) ∨ (v = x ∧ v ≠ 0 ∧ ¬ x > 0) ∨ (v = -x ∧ v ≠ 0 ∧ x > 0) ∨ (v = -x ∧ v ≠ 0 ∧ ¬ x > 0) := by omega
      rcases cs with v0 | ⟨hvx, hv, hx⟩ | ⟨hvx, hv, hx⟩ | ⟨hvx, hv, hx⟩ | ⟨hvx, hv, hx⟩
      · refine EvO.cons rfl rfl rfl (EvP.quiet rfl (isB (bne_false v0)) ?_)
        repeat (first | refine EvO.plain rfl rfl rfl rfl rfl rfl ?_ | refine EvO.off rfl rfl rfl ?_ | refine EvO.plainOn rfl rfl rfl rfl rfl rfl ?_)
        by_cases e1 : x = one
        · refine EvO.on rfl rfl rfl (EvP.quiet rfl (isB (beq_true e1)) ?_)
          repeat (first | refine EvO.plain rfl rfl rfl rfl rfl rfl ?_ | refine EvO.nil ?_ | refine at_normal ?_)
          refine EvC.cond (t := true) rfl (fun _ => ?_) (fun e => nomatch e)
          repeat (first | refine EvO.plain rfl rfl rfl rfl rfl rfl ?_ | refine EvC.region rfl ?_ | refine EvO.nil ?_ | refine at_normal ?_ | refine EvC.exit ?_ | refine at_exit ?_ | refine be_same rfl ?_ | refine ro_normal ?_ | refine EvO.cons rfl rfl rfl (EvP.add64 rfl rfl (by omega) ?_))
          exact ⟨c.length - (i + 1), by omega, rfl, i + 1, one, _, by omega, rfl, skip (.inr e1), hold ⟨rfl, rfl, rfl, rfl, rfl, rfl, trivial⟩⟩
        · refine EvO.on rfl rfl rfl (EvP.quiet rfl (isB (beq_false e1)) ?_)
          have hL := hL.trans (if_neg (fun e => e.elim (fun e => absurd (of_decide_eq_true e) (by omega)) e1))
          repeat (first | refine EvO.plain rfl rfl rfl rfl rfl rfl ?_ | refine EvO.nil ?_ | refine at_normal ?_)
          refine EvC.cond (t := false) rfl (fun e => nomatch e) (fun _ => ?_)
          repeat (first | refine EvO.plain rfl rfl rfl rfl rfl rfl ?_ | refine EvC.seq ?_ | refine EvC.region rfl ?_ | refine EvO.nil ?_ | refine at_normal ?_ | refine EvC.skip ?_)
          by_cases e2 : one = 0
          · refine EvC.cond (t := false) (isT (bne_false e2)) (fun e => nomatch e) (fun _ => ?_)
            have hL := hL.trans (if_neg (fun e => e e2))
            repeat (first | refine EvO.plain rfl rfl rfl rfl rfl rfl ?_ | refine EvC.region rfl ?_ | refine EvO.nil ?_ | refine at_normal ?_ | refine EvC.skip ?_ | refine be_normal ?_ | refine ro_normal ?_ | refine EvO.cons rfl rfl rfl (EvP.add64 rfl rfl (by omega) ?_))
            exact ⟨c.length - (i + 1), by omega, rfl, i + 1, x, _, by omega, rfl, hL, hold ⟨rfl, rfl, rfl, rfl, rfl, rfl, trivial⟩⟩
          · refine EvC.cond (t := true) (isT (bne_true e2)) (fun _ => ?_) (fun e => nomatch e)
            have hL := hL.trans (if_pos e2)
            repeat (first | refine EvO.plain rfl rfl rfl rfl rfl rfl ?_ | refine EvC.seq ?_ | refine EvC.region rfl ?_ | refine EvO.nil ?_ | refine at_normal ?_ | refine EvC.ret ?_ | refine at_ret ?_ | refine be_ret ?_ | refine ro_ret ?_)
            (refine ret_are (vs := [.int .i64 0, .bool true, .bool false]) rfl rfl ?_)
            exact ⟨rfl, by rw [hL]; rfl⟩
      · refine EvO.cons rfl rfl rfl (EvP.quiet rfl (isB (bne_true hv)) ?_)
        repeat (first | refine EvO.plain rfl rfl rfl rfl rfl rfl ?_ | refine EvO.plainOn rfl rfl rfl rfl rfl rfl ?_)
        refine EvO.on rfl rfl rfl (EvP.quiet rfl (isB (decide_eq_true (by omega))) ?_)
        repeat (refine EvO.plainOn rfl rfl rfl rfl rfl rfl ?_)
        refine EvO.on rfl rfl rfl (EvP.quiet rfl (isB (decide_eq_true (by omega))) ?_)
        skip
        refine EvO.on rfl rfl rfl (EvP.quiet (v := .bool false) rfl rfl ?_)
        repeat (first | refine EvO.plain rfl rfl rfl rfl rfl rfl ?_ | refine EvO.plainOn rfl rfl rfl rfl rfl rfl ?_)
        by_cases e1 : x = one
        · refine EvO.on rfl rfl rfl (EvP.quiet rfl (isB (beq_true e1)) ?_)
          repeat (first | refine EvO.plain rfl rfl rfl rfl rfl rfl ?_ | refine EvO.nil ?_ | refine at_normal ?_)
          refine EvC.cond (t := true) rfl (fun _ => ?_) (fun e => nomatch e)
          repeat (first | refine EvO.plain rfl rfl rfl rfl rfl rfl ?_ | refine EvC.region rfl ?_ | refine EvO.nil ?_ | refine at_normal ?_ | refine EvC.exit ?_ | refine at_exit ?_ | refine be_same rfl ?_ | refine ro_normal ?_ | refine EvO.cons rfl rfl rfl (EvP.add64 rfl rfl (by omega) ?_))
          exact ⟨c.length - (i + 1), by omega, rfl, i + 1, one, _, by omega, rfl, skip (.inr e1), hold ⟨rfl, rfl, rfl, rfl, rfl, rfl, trivial⟩⟩
        · refine EvO.on rfl rfl rfl (EvP.quiet rfl (isB (beq_false e1)) ?_)
          have hL := hL.trans (if_neg (fun e => e.elim (fun e => absurd (of_decide_eq_true e) (by omega)) e1))
          repeat (first | refine EvO.plain rfl rfl rfl rfl rfl rfl ?_ | refine EvO.nil ?_ | refine at_normal ?_)
          refine EvC.cond (t := false) rfl (fun e => nomatch e) (fun _ => ?_)
          repeat (first | refine EvO.plain rfl rfl rfl rfl rfl rfl ?_ | refine EvC.seq ?_ | refine EvC.region rfl ?_ | refine EvO.nil ?_ | refine at_normal ?_ | refine EvC.skip ?_)
          by_cases e2 : one = 0
          · refine EvC.cond (t := false) (isT (bne_false e2)) (fun e => nomatch e) (fun _ => ?_)
            have hL := hL.trans (if_neg (fun e => e e2))
            repeat (first | refine EvO.plain rfl rfl rfl rfl rfl rfl ?_ | refine EvC.region rfl ?_ | refine EvO.nil ?_ | refine at_normal ?_ | refine EvC.skip ?_ | refine be_normal ?_ | refine ro_normal ?_ | refine EvO.cons rfl rfl rfl (EvP.add64 rfl rfl (by omega) ?_))
            exact ⟨c.length - (i + 1), by omega, rfl, i + 1, x, _, by omega, rfl, hL, hold ⟨rfl, rfl, rfl, rfl, rfl, rfl, trivial⟩⟩
          · refine EvC.cond (t := true) (isT (bne_true e2)) (fun _ => ?_) (fun e => nomatch e)
            have hL := hL.trans (if_pos e2)
            repeat (first | refine EvO.plain rfl rfl rfl rfl rfl rfl ?_ | refine EvC.seq ?_ | refine EvC.region rfl ?_ | refine EvO.nil ?_ | refine at_normal ?_ | refine EvC.ret ?_ | refine at_ret ?_ | refine be_ret ?_ | refine ro_ret ?_)
            (refine ret_are (vs := [.int .i64 0, .bool true, .bool false]) rfl rfl ?_)
            exact ⟨rfl, by rw [hL]; rfl⟩
      · refine EvO.cons rfl rfl rfl (EvP.quiet rfl (isB (bne_true hv)) ?_)
        repeat (first | refine EvO.plain rfl rfl rfl rfl rfl rfl ?_ | refine EvO.plainOn rfl rfl rfl rfl rfl rfl ?_)
        refine EvO.on rfl rfl rfl (EvP.quiet rfl (isB (decide_eq_false (by omega))) ?_)
        repeat (refine EvO.plainOn rfl rfl rfl rfl rfl rfl ?_)
        refine EvO.on rfl rfl rfl (EvP.quiet rfl (isB (decide_eq_false (by omega))) ?_)
        skip
        refine EvO.on rfl rfl rfl (EvP.quiet (v := .bool false) rfl rfl ?_)
        repeat (first | refine EvO.plain rfl rfl rfl rfl rfl rfl ?_ | refine EvO.plainOn rfl rfl rfl rfl rfl rfl ?_)
        by_cases e1 : x = one
        · refine EvO.on rfl rfl rfl (EvP.quiet rfl (isB (beq_true e1)) ?_)
          repeat (first | refine EvO.plain rfl rfl rfl rfl rfl rfl ?_ | refine EvO.nil ?_ | refine at_normal ?_)
          refine EvC.cond (t := true) rfl (fun _ => ?_) (fun e => nomatch e)
          repeat (first | refine EvO.plain rfl rfl rfl rfl rfl rfl ?_ | refine EvC.region rfl ?_ | refine EvO.nil ?_ | refine at_normal ?_ | refine EvC.exit ?_ | refine at_exit ?_ | refine be_same rfl ?_ | refine ro_normal ?_ | refine EvO.cons rfl rfl rfl (EvP.add64 rfl rfl (by omega) ?_))
          exact ⟨c.length - (i + 1), by omega, rfl, i + 1, one, _, by omega, rfl, skip (.inr e1), hold ⟨rfl, rfl, rfl, rfl, rfl, rfl, trivial⟩⟩
        · refine EvO.on rfl rfl rfl (EvP.quiet rfl (isB (beq_false e1)) ?_)
          have hL := hL.trans (if_neg (fun e => e.elim (fun e => absurd (of_decide_eq_true e) (by omega)) e1))
          repeat (first | refine EvO.plain rfl rfl rfl rfl rfl rfl ?_ | refine EvO.nil ?_ | refine at_normal ?_)
          refine EvC.cond (t := false) rfl (fun e => nomatch e) (fun _ => ?_)
          repeat (first | refine EvO.plain rfl rfl rfl rfl rfl rfl ?_ | refine EvC.seq ?_ | refine EvC.region rfl ?_ | refine EvO.nil ?_ | refine at_normal ?_ | refine EvC.skip ?_)
          by_cases e2 : one = 0
          · refine EvC.cond (t := false) (isT (bne_false e2)) (fun e => nomatch e) (fun _ => ?_)
            have hL := hL.trans (if_neg (fun e => e e2))
            repeat (first | refine EvO.plain rfl rfl rfl rfl rfl rfl ?_ | refine EvC.region rfl ?_ | refine EvO.nil ?_ | refine at_normal ?_ | refine EvC.skip ?_ | refine be_normal ?_ | refine ro_normal ?_ | refine EvO.cons rfl rfl rfl (EvP.add64 rfl rfl (by omega) ?_))
            exact ⟨c.length - (i + 1), by omega, rfl, i + 1, x, _, by omega, rfl, hL, hold ⟨rfl, rfl, rfl, rfl, rfl, rfl, trivial⟩⟩
          · refine EvC.cond (t := true) (isT (bne_true e2)) (fun _ => ?_) (fun e => nomatch e)
            have hL := hL.trans (if_pos e2)
            repeat (first | refine EvO.plain rfl rfl rfl rfl rfl rfl ?_ | refine EvC.seq ?_ | refine EvC.region rfl ?_ | refine EvO.nil ?_ | refine at_normal ?_ | refine EvC.ret ?_ | refine at_ret ?_ | refine be_ret ?_ | refine ro_ret ?_)
            (refine ret_are (vs := [.int .i64 0, .bool true, .bool false]) rfl rfl ?_)
            exact ⟨rfl, by rw [hL]; rfl⟩
      · refine EvO.cons rfl rfl rfl (EvP.quiet rfl (isB (bne_true hv)) ?_)
        repeat (first | refine EvO.plain rfl rfl rfl rfl rfl rfl ?_ | refine EvO.plainOn rfl rfl rfl rfl rfl rfl ?_)
        refine EvO.on rfl rfl rfl (EvP.quiet rfl (isB (decide_eq_false (by omega))) ?_)
        repeat (refine EvO.plainOn rfl rfl rfl rfl rfl rfl ?_)
        refine EvO.on rfl rfl rfl (EvP.quiet rfl (isB (decide_eq_true (by omega))) ?_)
        skip
        refine EvO.on rfl rfl rfl (EvP.quiet (v := .bool true) rfl rfl ?_)
        repeat (first | refine EvO.plain rfl rfl rfl rfl rfl rfl ?_ | refine EvO.nil ?_ | refine at_normal ?_ | refine EvO.off rfl rfl rfl ?_)
        refine EvC.cond (t := true) rfl (fun _ => ?_) (fun e => nomatch e)
        repeat (first | refine EvO.plain rfl rfl rfl rfl rfl rfl ?_ | refine EvC.region rfl ?_ | refine EvO.nil ?_ | refine at_normal ?_ | refine EvC.exit ?_ | refine at_exit ?_ | refine be_same rfl ?_ | refine ro_normal ?_ | refine EvO.cons rfl rfl rfl (EvP.add64 rfl rfl (by omega) ?_))
        exact ⟨c.length - (i + 1), by omega, rfl, i + 1, one, _, by omega, rfl, skip (.inl hvx), hold ⟨rfl, rfl, rfl, rfl, rfl, rfl, trivial⟩⟩
      · refine EvO.cons rfl rfl rfl (EvP.quiet rfl (isB (bne_true hv)) ?_)
        repeat (first | refine EvO.plain rfl rfl rfl rfl rfl rfl ?_ | refine EvO.plainOn rfl rfl rfl rfl rfl rfl ?_)
        refine EvO.on rfl rfl rfl (EvP.quiet rfl (isB (decide_eq_true (by omega))) ?_)
        repeat (refine EvO.plainOn rfl rfl rfl rfl rfl rfl ?_)
        refine EvO.on rfl rfl rfl (EvP.quiet rfl (isB (decide_eq_false (by omega))) ?_)
        skip
        refine EvO.on rfl rfl rfl (EvP.quiet (v := .bool true) rfl rfl ?_)
        repeat (first | refine EvO.plain rfl rfl rfl rfl rfl rfl ?_ | refine EvO.nil ?_ | refine at_normal ?_ | refine EvO.off rfl rfl rfl ?_)
        refine EvC.cond (t := true) rfl (fun _ => ?_) (fun e => nomatch e)
        repeat (first | refine EvO.plain rfl rfl rfl rfl rfl rfl ?_ | refine EvC.region rfl ?_ | refine EvO.nil ?_ | refine at_normal ?_ | refine EvC.exit ?_ | refine at_exit ?_ | refine be_same rfl ?_ | refine ro_normal ?_ | refine EvO.cons rfl rfl rfl (EvP.add64 rfl rfl (by omega) ?_))
        exact ⟨c.length - (i + 1), by omega, rfl, i + 1, one, _, by omega, rfl, skip (.inl hvx), hold ⟨rfl, rfl, rfl, rfl, rfl, rfl, trivial⟩⟩
    · have hend : i = c.length := by omega
      rw [hend, List.drop_length, leftG] at hL
      repeat (first | refine EvO.plain rfl rfl rfl rfl rfl rfl ?_ | refine EvC.seq ?_ | refine EvC.region rfl ?_ | refine EvO.nil ?_ | refine at_normal ?_ | refine EvC.ret ?_ | refine EvC.exit ?_ | refine at_exit ?_ | refine be_same rfl ?_ | refine ro_exit ?_)
      (refine ret_are (vs := [.int .i64 one, .bool false, .bool (one == 0)]) rfl rfl ?_)
      exact ⟨rfl, by rw [hL]; rfl⟩
end Pf
end Go.Proofs.YtheiionmocfleaaDoor
