/- What a clause asks. -/
import Derived.Test.YtfjloafebkjadaaGreatDoorPfM
namespace Go.Proofs.YtfjloafebkjadaaGreatDoor
namespace Pf
open Go Go.AI Go.Proofs
variable {gt : Tree (List AV)}
theorem getD_drop {l : List Int} {i : Nat} (hi : i < l.length) : l.drop i = l.getD i 0 :: l.drop (i + 1) := by
  rw [List.drop_eq_getElem_cons hi, List.getD_eq_getElem?_getD, List.getElem?_eq_getElem hi, Option.getD_some]
theorem look_spec {G h : AH} {col : Nat → Nat} {n : Nat} {V : Lay} {S : Ch} (C : ChAt G h col n V S) (k : Nat) (hk : k < S.all.length) (hok : ∀ l ∈ S.all.getD k [], ok n l) (hc' : ∀ x, x ∈ S.trail → -x ∉ S.trail) (hlen : (S.all.getD k []).length ≤ 2 ^ 50) :
    EvF (TT gt) X 91 [.ptr V.p 0, .int .i64 k] h (fun r h' => h' = h ∧ r = .tuple [.int .i64 (lookG S.trail 0 (S.all.getD k [])).1, .bool (lookG S.trail 0 (S.all.getD k [])).2]) := by
  have hs := C.sml
  obtain ⟨a, ha, row⟩ := C.alls k hk
  have row := row.mono C.hs.le
  generalize hcl : S.all.getD k [] = c at *
  have f0 := C.fld (gt := gt) (t := 22) (off := 0) rfl rfl rfl
  obtain ⟨p, u, a1, a2, a3⟩ := C.all.at1 (T := TT gt) (t := 22) (k := .i64) (i := k) rfl rfl rfl rfl (by omega) (by omega)
  rw [Int.toNat_natCast, ha] at a3
  cases a3
  have ln := row.len (T := TT gt) (t := 35) rfl
  refine EvF.enter rfl rfl rfl ?_
  repeat (first | refine EvO.plain rfl rfl rfl rfl rfl rfl ?_ | refine EvO.plain rfl rfl rfl rfl rfl (by assumption) ?_ | refine EvC.seq ?_ | refine EvC.region rfl ?_ | refine EvO.nil ?_ | refine at_normal ?_ | refine EvC.block ?_)
  clear a1 a2 f0 ln
  refine EvC.loop (fun m σ h' => h' = h ∧ ∃ (i : Nat) (left : Int) (E : Nat → AV), i ≤ c.length ∧ m = c.length - i ∧ lookG S.trail 0 c = lookG S.trail left (c.drop i) ∧ σ = upds [(0, .ptr V.p 0), (6, .int .i64 left), (15, a), (16, .int .i64 c.length), (17, .int .i64 i)] E) (c.length) ?_ ?_
  · exact ⟨rfl, 0, 0, _, Nat.zero_le _, rfl, rfl, hold ⟨rfl, rfl, rfl, rfl, rfl, trivial⟩⟩
  · rintro m _ _ ⟨rfl, i, left, E, hi, rfl, hL, rfl⟩
    repeat (first | refine EvO.plain rfl rfl rfl rfl rfl rfl ?_ | refine EvC.seq ?_ | refine EvC.region rfl ?_ | refine EvO.nil ?_ | refine at_normal ?_)
    refine EvC.decide rfl (fun hc => ?_) (fun hc => ?_)
    · have hlt : i < c.length := by omega
      obtain ⟨q, b1, b2⟩ := row.at1 (T := TT gt) (t := 35) (e := 3) rfl rfl rfl rfl (k := .i64) (i := i) (by omega) (by omega)
      rw [Int.toNat_natCast] at b2
      have hoki := hok _ (getD_mem hlt)
      rw [getD_drop hlt, lookG] at hL
      generalize c.getD i 0 = x at *
      repeat (first | refine EvO.plain rfl rfl rfl rfl rfl rfl ?_ | refine EvO.plain rfl rfl rfl rfl rfl (by assumption) ?_ | refine EvC.seq ?_ | refine EvC.region rfl ?_ | refine EvO.nil ?_ | refine at_normal ?_ | refine EvC.skip ?_ | refine EvC.block ?_)
      clear b1 b2
      (refine EvO.cons rfl rfl rfl (EvP.callF rfl rfl rfl rfl (EvF.mono (of_spec C x hoki hc') ?_)))
      rintro _ _ hn ⟨rfl, rfl⟩
      repeat (first | refine EvO.plain rfl rfl rfl rfl rfl rfl ?_ | refine EvC.seq ?_ | refine EvC.region rfl ?_ | refine EvO.nil ?_ | refine at_normal ?_ | refine EvC.block ?_)
      rcases ofT_rng S.trail x with h3 | h3 | h3
      · rw [if_pos h3] at hL
        refine EvC.cond (t := true) (isT (beq_true h3)) (fun _ => ?_) (fun e => nomatch e)
        repeat (first | refine EvO.plain rfl rfl rfl rfl rfl rfl ?_ | refine EvC.seq ?_ | refine EvC.region rfl ?_ | refine EvO.nil ?_ | refine at_normal ?_ | refine EvC.ret ?_ | refine at_ret ?_ | refine be_ret ?_ | refine ro_ret ?_)
        (refine ret_are (vs := [.int .i64 0, .bool false]) rfl rfl ?_)
        exact ⟨rfl, by rw [hL]; rfl⟩
      · have h4 : ¬ ofT S.trail x = 1 := by rw [h3]; decide
        have h5 : ¬ ofT S.trail x = 0 := by rw [h3]; decide
        rw [if_neg h4, if_neg h5] at hL
        refine EvC.cond (t := false) (isT (beq_false h4)) (fun e => nomatch e) (fun _ => ?_)
        repeat (first | refine EvO.plain rfl rfl rfl rfl rfl rfl ?_ | refine EvC.seq ?_ | refine EvC.region rfl ?_ | refine EvO.nil ?_ | refine at_normal ?_)
        refine EvC.cond (t := false) (isT (beq_false h5)) (fun e => nomatch e) (fun _ => ?_)
        repeat (first | refine EvO.plain rfl rfl rfl rfl rfl rfl ?_ | refine EvC.region rfl ?_ | refine EvO.nil ?_ | refine at_normal ?_ | refine EvC.skip ?_ | refine be_normal ?_ | refine ro_normal ?_ | refine EvO.cons rfl rfl rfl (EvP.add64 rfl rfl (by omega) ?_))
        exact ⟨c.length - (i + 1), by omega, rfl, i + 1, left, _, by omega, rfl, hL, hold ⟨rfl, rfl, rfl, rfl, rfl, trivial⟩⟩
      · have h4 : ¬ ofT S.trail x = 1 := by rw [h3]; decide
        rw [if_neg h4, if_pos h3] at hL
        refine EvC.cond (t := false) (isT (beq_false h4)) (fun e => nomatch e) (fun _ => ?_)
        repeat (first | refine EvO.plain rfl rfl rfl rfl rfl rfl ?_ | refine EvC.seq ?_ | refine EvC.region rfl ?_ | refine EvO.nil ?_ | refine at_normal ?_)
        refine EvC.cond (t := true) (isT (beq_true h3)) (fun _ => ?_) (fun e => nomatch e)
        repeat (first | refine EvO.plain rfl rfl rfl rfl rfl rfl ?_ | refine EvC.seq ?_ | refine EvC.region rfl ?_)
        (refine EvO.cons rfl rfl rfl (EvP.bool rfl rfl (fun hb => ?_) (fun hb => ?_)))
        · have hb := bne_iff_ne.1 hb
          repeat (first | refine EvO.plain rfl rfl rfl rfl rfl rfl ?_ | refine EvO.plainOn rfl rfl rfl rfl rfl rfl ?_)
          (refine EvO.on rfl rfl rfl (EvP.quiet rfl (isB (q := decide (left ≠ x)) (by by_cases e : left = x <;> simp [e])) ?_))
          repeat (first | refine EvO.plain rfl rfl rfl rfl rfl rfl ?_ | refine EvO.nil ?_ | refine at_normal ?_)
          refine EvC.decide rfl (fun hne => ?_) (fun hne => ?_)
          · rw [if_pos ⟨hb, hne⟩] at hL
            repeat (first | refine EvO.plain rfl rfl rfl rfl rfl rfl ?_ | refine EvC.seq ?_ | refine EvC.region rfl ?_ | refine EvO.nil ?_ | refine at_normal ?_ | refine EvC.ret ?_ | refine at_ret ?_ | refine be_ret ?_ | refine ro_ret ?_)
            (refine ret_are (vs := [.int .i64 0, .bool false]) rfl rfl ?_)
            exact ⟨rfl, by rw [hL]; rfl⟩
          · rw [if_neg (fun e => hne e.2)] at hL
            repeat (first | refine EvO.plain rfl rfl rfl rfl rfl rfl ?_ | refine EvC.region rfl ?_ | refine EvO.nil ?_ | refine at_normal ?_ | refine EvC.skip ?_ | refine be_normal ?_ | refine ro_normal ?_ | refine EvO.cons rfl rfl rfl (EvP.add64 rfl rfl (by omega) ?_))
            exact ⟨c.length - (i + 1), by omega, rfl, i + 1, x, _, by omega, rfl, hL, hold ⟨rfl, rfl, rfl, rfl, rfl, trivial⟩⟩
        · have hb : left = 0 := by simpa using hb
          rw [if_neg (fun e => e.1 hb)] at hL
          repeat (first | refine EvO.plain rfl rfl rfl rfl rfl rfl ?_ | refine EvO.nil ?_ | refine at_normal ?_ | refine EvO.off rfl rfl rfl ?_)
          refine EvC.cond (t := false) rfl (fun e => nomatch e) (fun _ => ?_)
          repeat (first | refine EvO.plain rfl rfl rfl rfl rfl rfl ?_ | refine EvC.region rfl ?_ | refine EvO.nil ?_ | refine at_normal ?_ | refine EvC.skip ?_ | refine be_normal ?_ | refine ro_normal ?_ | refine EvO.cons rfl rfl rfl (EvP.add64 rfl rfl (by omega) ?_))
          exact ⟨c.length - (i + 1), by omega, rfl, i + 1, x, _, by omega, rfl, hL, hold ⟨rfl, rfl, rfl, rfl, rfl, trivial⟩⟩
    · have hend : i = c.length := by omega
      rw [hend, List.drop_length, lookG] at hL
      repeat (first | refine EvO.plain rfl rfl rfl rfl rfl rfl ?_ | refine EvC.seq ?_ | refine EvC.region rfl ?_ | refine EvO.nil ?_ | refine at_normal ?_ | refine EvC.ret ?_ | refine EvC.exit ?_ | refine at_exit ?_ | refine be_same rfl ?_ | refine ro_exit ?_)
      (refine ret_are (vs := [.int .i64 left, .bool (left == 0)]) rfl rfl ?_)
      exact ⟨rfl, by rw [hL]; rfl⟩
end Pf
end Go.Proofs.YtfjloafebkjadaaGreatDoor
