/- The law ProofComplete answers true. -/
import Derived.Test.YtfjloafebkjadaaGreatDoorPf7
import Derived.Test.YtfjloafebkjadaaGreatDoorSbY
namespace Go.Proofs.YtfjloafebkjadaaGreatDoor
namespace Pf
open Go Go.AI Go.Proofs
variable {gt : Tree (List AV)}
set_option maxHeartbeats 4000000 in
/-- Few and small lists. -/
theorem few27_spec {h : AH} (hw : WF h) {n : Int} {cl pv : AV} {L P : List (List Int)} {cv pc : Nat → AV} (C : CnfAt h n cl L cv) (D : CnfAt h n pv P pc) (nc : NZ cl) (np : NZ pv) (hb : total L + total P ≤ 2 ^ 60) (hm : L.length + P.length ≤ 2 ^ 29) :
    EvF (TT gt) X 19 [.agg [.int .i64 n, cl], pv] h (fun r h' => (h.le h' ∧ WF h') ∧ ∃ b, r = .bool b ∧ (b = true → L.length ≤ 80 ∧ P.length ≤ 80 ∧ total L + total P ≤ 500 ∧ (n ≤ 30 ∨ n > 50000))) := by
  have S0 := HS.all hw
  refine EvF.enter rfl rfl rfl ?_
  repeat (first | refine EvC.seq ?_ | refine EvC.region rfl ?_)
  (refine EvO.cons rfl rfl rfl (EvP.newR (b := .cells [.int .i64 n, cl] 24 false) (mk := .ptr) S0 rfl rfl (fun h1 b A1 S1 hle1 o1 _ _ => ?_)))
  repeat (first | refine EvO.plain rfl rfl rfl rfl rfl rfl ?_ | refine EvC.seq ?_ | refine EvC.region rfl ?_ | refine EvO.nil ?_ | refine at_normal ?_)
  (refine EvO.cons rfl rfl rfl (EvP.newC (b := .cells [] 35 false) (mk := .slice 0 0 true) S1 1 rfl rfl (by decide) (fun h2 id col2 A2 S2 o2 c2 _ => ?_)))
  have b2 := S2.le _ _ (AH.get_add h b (.cells [.int .i64 n, cl] 24 false))
  have f2 := load1 (T := TT gt) (t := 22) (off := 1) b2 rfl rfl rfl
  repeat (first | refine EvO.plain rfl rfl rfl rfl rfl rfl ?_ | refine EvO.plain rfl rfl rfl rfl rfl (by assumption) ?_)
  have V2 : Vec col2 1 h2 35 1 (.slice id 0 0 0 true) 0 [] := .mk (tail := []) o2 c2 rfl (fun _ => ⟨Nat.le_refl _, rfl⟩)
  (refine EvO.cons rfl rfl rfl (EvP.appendRow S2 V2 (by decide) (C.rows.mono (fun i o e => S2.le i o (hle1 i o e))) nc (fun i hi => (C.ints i hi).sc.2) rfl rfl rfl rfl rfl rfl rfl rfl rfl rfl (by show (0 + L.length) * 24 ≤ 70368744177664; omega) (by omega) (fun v3 h3 col3 A3 S3 V3 => ?_)))
  clear f2
  repeat (refine EvO.plain rfl rfl rfl rfl rfl rfl ?_)
  (refine EvO.cons rfl rfl rfl (EvP.appendRow S3 V3 (by decide) (D.rows.mono (fun i o e => S3.le i o (hle1 i o e))) np (fun i hi => (D.ints i hi).sc.2) rfl rfl rfl rfl rfl rfl rfl rfl rfl rfl (by show (0 + L.length + P.length) * 24 ≤ 70368744177664; omega) (by omega) (fun v4 h4 col4 A4 S4 V4 => ?_)))
  have ln4 := V4.row.len_any (T := TT gt) (t := 22) rfl h4
  repeat (first | refine EvO.plain rfl rfl rfl rfl rfl rfl ?_ | refine EvO.plain rfl rfl rfl rfl rfl (by assumption) ?_ | refine EvO.nil ?_ | refine at_normal ?_ | refine EvC.block ?_)
  clear ln4
  have hN : 0 + L.length + P.length = (L ++ P).length := by simp
  rw [hN] at V4
  have hel : ∀ i, i < (L ++ P).length → ∃ a, ([] ++ (List.range L.length).map cv ++ (List.range P.length).map pc)[i]? = some a ∧ IntRow h a ((L ++ P).getD i []) := fun i hi => by
    rw [List.length_append] at hi
    rw [List.getD_eq_getElem?_getD, List.nil_append]
    have hOB := Nat.lt_or_ge i L.length
    rcases hOB with hl | hl
    · rw [List.getElem?_append_left (by simpa using hl), List.getElem?_append_left hl, ← List.getD_eq_getElem?_getD]
      exact ⟨cv i, by simp [hl], C.ints i hl⟩
    · rw [List.getElem?_append_right (by simpa using hl), List.getElem?_append_right hl, ← List.getD_eq_getElem?_getD]
      refine ⟨pc (i - L.length), ?_, D.ints _ (by omega)⟩
      rw [List.length_map, List.length_range, List.getElem?_map, List.getElem?_range (by omega)]
      rfl
  have htot : total (L ++ P) = total L + total P := by simp [total]
  rw [hN]
  generalize L ++ P = LP at *
  generalize ([] ++ (List.range L.length).map cv ++ (List.range P.length).map pc : List AV) = cells at *
  refine EvC.loop (fun m σ h' => h' = h4 ∧ ∃ (i : Nat) (E : Nat → AV), i ≤ LP.length ∧ m = LP.length - i ∧ σ = upds [(1, pv), (2, .ptr b 0), (5, .int .i64 (total (LP.take i))), (13, v4), (14, .int .i64 LP.length), (15, .int .i64 i)] E) (LP.length) ?_ ?_
  · exact ⟨rfl, 0, _, Nat.zero_le _, rfl, hold ⟨rfl, rfl, rfl, rfl, rfl, rfl, trivial⟩⟩
  · rintro m _ h4 ⟨rfl, i, E, hi, rfl, rfl⟩
    repeat (first | refine EvO.plain rfl rfl rfl rfl rfl rfl ?_ | refine EvC.seq ?_ | refine EvC.region rfl ?_ | refine EvO.nil ?_ | refine at_normal ?_)
    refine EvC.decide rfl (fun hc => ?_) (fun hc => ?_)
    · have hlt : i < LP.length := by omega
      have hOB := V4.at1 (T := TT gt) (t := 22) (k := .i64) (i := i) rfl rfl rfl rfl (by omega) (by omega)
      obtain ⟨p, u, a1, a2, a3⟩ := hOB
      have hOB := hel i hlt
      obtain ⟨a, h5, h6⟩ := hOB
      rw [Int.toNat_natCast, h5] at a3
      cases a3
      have ln := h6.len_any (T := TT gt) (t := 35) rfl h4
      have ht := total_take hlt
      have ht2 := total_le LP (i + 1)
      repeat (first | refine EvO.plain rfl rfl rfl rfl rfl rfl ?_ | refine EvO.plain rfl rfl rfl rfl rfl (by assumption) ?_ | refine EvC.seq ?_ | refine EvC.region rfl ?_ | refine EvO.nil ?_ | refine at_normal ?_ | refine EvC.skip ?_ | refine EvC.block ?_ | refine be_normal ?_ | refine ro_normal ?_ | refine EvO.cons rfl rfl rfl (EvP.add64 rfl rfl (by omega) ?_))
      clear a1 a2
      refine ⟨LP.length - (i + 1), by omega, rfl, i + 1, _, by omega, rfl, hold ⟨rfl, rfl, ?_, rfl, rfl, rfl, trivial⟩⟩
      rw [ht]; rfl
    · have hend : i = LP.length := by omega
      subst hend
      rw [List.take_length]
      have b4 := S4.le _ _ (AH.get_add h b (.cells [.int .i64 n, cl] 24 false))
      have f4 := load1 (T := TT gt) (t := 22) (off := 1) b4 rfl rfl rfl
      have f7 := load1 (T := TT gt) (t := 3) (off := 0) b4 rfl rfl rfl
      have l1 := C.rows.len_any (T := TT gt) (t := 22) rfl h4
      have l2 := D.rows.len_any (T := TT gt) (t := 22) rfl h4
      have fin : (h.le h4 ∧ WF h4) := ⟨fun i o e => S4.le i o (hle1 i o e), S4.wf⟩
      repeat (first | refine EvO.plain rfl rfl rfl rfl rfl rfl ?_ | refine EvO.plain rfl rfl rfl rfl rfl (by assumption) ?_ | refine EvC.seq ?_ | refine EvC.region rfl ?_ | refine at_normal ?_ | refine EvC.exit ?_ | refine at_exit ?_ | refine be_same rfl ?_ | refine ro_exit ?_)
      have bad : ∃ b, AV.bool false = .bool b ∧ (b = true → L.length ≤ 80 ∧ P.length ≤ 80 ∧ total L + total P ≤ 500 ∧ (n ≤ 30 ∨ n > 50000)) := ⟨false, rfl, fun e => nomatch e⟩
      (refine EvO.cons rfl rfl rfl (EvP.bool rfl rfl (fun q1 => ?_) (fun q1 => ?_)))
      · have q1 := of_decide_eq_true q1
        repeat (first | refine EvO.plain rfl rfl rfl rfl rfl rfl ?_ | refine EvO.plainOn rfl rfl rfl rfl rfl rfl ?_ | refine EvO.plainOn rfl rfl rfl rfl rfl (by assumption) ?_)
        (refine EvO.on rfl rfl rfl (EvP.bool rfl rfl (fun q2 => ?_) (fun q2 => ?_)))
        · have q2 := of_decide_eq_true q2
          repeat (first | refine EvO.plain rfl rfl rfl rfl rfl rfl ?_ | refine EvO.plainOn rfl rfl rfl rfl rfl rfl ?_)
          (refine EvO.on rfl rfl rfl (EvP.bool rfl rfl (fun q3 => ?_) (fun q3 => ?_)))
          · have q3 := of_decide_eq_true q3
            repeat (first | refine EvO.plain rfl rfl rfl rfl rfl rfl ?_ | refine EvO.plainOn rfl rfl rfl rfl rfl rfl ?_ | refine EvO.plainOn rfl rfl rfl rfl rfl (by assumption) ?_)
            (refine EvO.on rfl rfl rfl (EvP.bool rfl rfl (fun q4 => ?_) (fun q4 => ?_)))
            · have q4 := of_decide_eq_true q4
              repeat (first | refine EvO.plain rfl rfl rfl rfl rfl rfl ?_ | refine EvO.nil ?_ | refine at_normal ?_ | refine EvC.ret ?_ | refine EvO.off rfl rfl rfl ?_ | refine EvO.plainOn rfl rfl rfl rfl rfl rfl ?_)
              (refine ret_is (v := .bool true) rfl rfl ?_)
              exact ⟨fin, true, rfl, fun _ => ⟨by omega, by omega, by omega, .inl q4⟩⟩
            · have q4 := of_decide_eq_false q4
              repeat (first | refine EvO.plainOn rfl rfl rfl rfl rfl rfl ?_ | refine EvO.plainOn rfl rfl rfl rfl rfl (by assumption) ?_)
              (refine EvO.on rfl rfl rfl (EvP.bool rfl rfl (fun q5 => ?_) (fun q5 => ?_)))
              · have q5 := of_decide_eq_true q5
                repeat (first | refine EvO.plain rfl rfl rfl rfl rfl rfl ?_ | refine EvO.nil ?_ | refine at_normal ?_ | refine EvC.ret ?_ | refine EvO.plainOn rfl rfl rfl rfl rfl rfl ?_)
                (refine ret_is (v := .bool true) rfl rfl ?_)
                exact ⟨fin, true, rfl, fun _ => ⟨by omega, by omega, by omega, .inr q5⟩⟩
              · repeat (first | refine EvO.plain rfl rfl rfl rfl rfl rfl ?_ | refine EvO.nil ?_ | refine at_normal ?_ | refine EvC.ret ?_ | refine EvO.plainOn rfl rfl rfl rfl rfl rfl ?_)
                (refine ret_is (v := .bool false) rfl rfl ?_)
                exact ⟨fin, bad⟩
          · repeat (first | refine EvO.plain rfl rfl rfl rfl rfl rfl ?_ | refine EvO.nil ?_ | refine at_normal ?_ | refine EvC.ret ?_ | refine EvO.off rfl rfl rfl ?_)
            (refine ret_is (v := .bool false) rfl rfl ?_)
            exact ⟨fin, bad⟩
        · repeat (first | refine EvO.plain rfl rfl rfl rfl rfl rfl ?_ | refine EvO.nil ?_ | refine at_normal ?_ | refine EvC.ret ?_ | refine EvO.off rfl rfl rfl ?_)
          (refine ret_is (v := .bool false) rfl rfl ?_)
          exact ⟨fin, bad⟩
      · repeat (first | refine EvO.plain rfl rfl rfl rfl rfl rfl ?_ | refine EvO.nil ?_ | refine at_normal ?_ | refine EvC.ret ?_ | refine EvO.off rfl rfl rfl ?_)
        (refine ret_is (v := .bool false) rfl rfl ?_)
        exact ⟨fin, bad⟩
end Pf
end Go.Proofs.YtfjloafebkjadaaGreatDoor
/- The law ProofComplete. -/
namespace Go.Proofs.YtfjloafebkjadaaGreatDoor
namespace Pf
open Go Go.AI Go.Proofs
variable {gt : Tree (List AV)}
theorem rup_refutes27 {n : Nat} {L P : List (List Int)} (R : Sa.Rup n L P) : Refutes L P := by
  have hne : P ≠ [] := fun e => by rw [e] at R; exact nomatch R.1
  have h0 : 0 < P.length := List.length_pos_iff.2 hne
  refine ⟨h0, ?_, fun i hi => (R.2 i hi).1⟩
  have := R.1
  rw [List.getLast?_eq_getElem?] at this
  rw [List.getD_eq_getElem?_getD, this]; rfl
theorem total_le_mul {P : List (List Int)} {k : Nat} (h : ∀ l ∈ P, l.length ≤ k) : total P ≤ P.length * k := by
  induction P with
  | nil => simp [total]
  | cons a P ih =>
    have h1 := ih fun l hl => h l (List.mem_cons_of_mem _ hl)
    have h2 := h a (List.mem_cons_self ..)
    unfold total at h1 ⊢
    rw [List.map_cons, List.sum_cons, List.length_cons, Nat.succ_mul]; omega
-- the law's other way out
set_option maxHeartbeats 8000000 in
theorem complete_law {h : AH} (hw : WF h) {n : Int} {cl : AV} {L : List (List Int)} {cv : Nat → AV} (C : CnfAt h n cl L cv) (nc : NZ cl) (hb : total L ≤ 2 ^ 60) (hm : L.length ≤ 2 ^ 29) :
    EvF (TT gt) X 12 [.agg [.int .i64 n, cl]] h (fun r _ => r = .bool true) := by
  have S0 := HS.all hw
  refine EvF.enter rfl rfl rfl ?_
  repeat (first | refine EvC.seq ?_ | refine EvC.region rfl ?_)
  (refine EvO.cons rfl rfl rfl (EvP.newR (b := .cells [.int .i64 n, cl] 24 false) (mk := .ptr) S0 rfl rfl (fun h1 b A1 S1 hle1 o1 _ _ => ?_)))
  have f1 := loadAgg (T := TT gt) (t := 24) (off := 0) (n := 2) (r := [.int .i64 n, cl]) o1 rfl rfl
  have hle01 : h.le h1 := fun i o e => S1.le _ _ (hle1 _ _ e)
  have D0 : CnfAt h1 n .nilSlice [] (fun _ => .undef) := ⟨.nil, fun i hi => absurd hi (Nat.not_lt_zero _), fun l hl => (nomatch hl), Nat.zero_le _⟩
  have t0 : total ([] : List (List Int)) = 0 := rfl
  repeat (first | refine EvO.plain rfl rfl rfl rfl rfl rfl ?_ | refine EvO.plain rfl rfl rfl rfl rfl (by assumption) ?_ | refine EvC.seq ?_ | refine EvC.region rfl ?_ | refine EvO.nil ?_ | refine at_normal ?_)
  (refine EvO.cons rfl rfl rfl (EvP.callF rfl rfl rfl rfl (EvF.mono (few27_spec S1.wf (C.mono hle01) D0 nc trivial (by omega) (by rw [List.length_nil]; omega)) ?_)))
  rintro _ h2 _ ⟨⟨hle12, hw2⟩, few, rfl, hfew⟩
  have hle2 : h.le h2 := fun i o e => hle12 _ _ (hle01 _ _ e)
  have o2 := hle12 _ _ o1
  have f2 := loadAgg (T := TT gt) (t := 24) (off := 0) (n := 2) (r := [.int .i64 n, cl]) o2 rfl rfl
  clear f1
  cases few with
  | false =>
    repeat (first | refine EvO.plain rfl rfl rfl rfl rfl rfl ?_ | refine EvO.nil ?_ | refine at_normal ?_ | refine EvO.off rfl rfl rfl ?_)
    refine EvC.cond (t := true) rfl (fun _ => ?_) (fun e => nomatch e)
    repeat (first | refine EvC.seq ?_ | refine EvC.region rfl ?_)
    (refine EvO.cons rfl rfl rfl (EvP.callF rfl rfl rfl rfl (EvF.mono (awake_spec) ?_)))
    rintro _ h99 _ ⟨rfl, rfl⟩
    repeat (first | refine EvO.plain rfl rfl rfl rfl rfl rfl ?_ | refine EvO.nil ?_ | refine at_normal ?_ | refine EvC.ret ?_ | refine at_ret ?_)
    (refine ret_is (v := .bool true) rfl rfl ?_)
    rfl
  | true =>
    have hOB := hfew rfl
    obtain ⟨s1, _, s3, s4⟩ := hOB
    repeat (first | refine EvO.plain rfl rfl rfl rfl rfl rfl ?_ | refine EvO.plainOn rfl rfl rfl rfl rfl (by assumption) ?_)
    refine EvO.on rfl rfl rfl (EvP.callF rfl rfl rfl rfl (EvF.mono (refValid_spec (facts gt) hw2 (C.mono hle2)) ?_))
    rintro _ h3 _ ⟨hg3, rfl⟩
    have hle3 : h.le h3 := fun i o e => hg3.le _ _ (hle2 _ _ e)
    have o3 := hg3.le _ _ o2
    clear f2
    by_cases hv : valid n L
    · rw [decide_eq_true hv]
      have f3 := loadAgg (T := TT gt) (t := 24) (off := 0) (n := 2) (r := [.int .i64 n, cl]) o3 rfl rfl
      repeat (first | refine EvO.plain rfl rfl rfl rfl rfl rfl ?_ | refine EvO.nil ?_ | refine at_normal ?_ | refine EvO.plainOn rfl rfl rfl rfl rfl rfl ?_)
      refine EvC.cond (t := false) rfl (fun e => nomatch e) (fun _ => ?_)
      have hOB : ∃ N : Nat, n = N := ⟨n.toNat, by have := hv.1; omega⟩
      obtain ⟨N, rfl⟩ := hOB
      have hN := hv.2.1
      have hLok := Sa.valid_oks hv
      repeat (first | refine EvO.plain rfl rfl rfl rfl rfl (by assumption) ?_ | refine EvC.seq ?_ | refine EvC.region rfl ?_ | refine at_normal ?_ | refine EvC.skip ?_)
      (refine EvO.cons rfl rfl rfl (EvP.callF rfl rfl rfl rfl (EvF.mono (Sa.solve_spec hg3.wf (C.mono hle3)) ?_)))
      rintro _ h4 _ ⟨⟨hle34, hw4⟩, hS⟩
      have hle4 : h.le h4 := fun i o e => hle34 _ _ (hle3 _ _ e)
      have o4 := hle34 _ _ o3
      clear f3
      rcases hS with ⟨hn, _⟩ | ⟨_, hS⟩
      · exact absurd hv hn
      · rw [Int.toNat_natCast] at hS
        rcases hS with ⟨rv, m, rfl, _, _, _⟩ | ⟨rfl, hn, _⟩ | ⟨pv, P, rfl, hP, hR⟩
        · repeat (first | refine EvO.plain rfl rfl rfl rfl rfl rfl ?_ | refine EvC.seq ?_ | refine EvC.region rfl ?_ | refine EvO.nil ?_ | refine at_normal ?_)
          refine EvO.on rfl rfl rfl (EvP.quiet (v := .bool false) rfl rfl ?_)
          repeat (first | refine EvO.plain rfl rfl rfl rfl rfl rfl ?_ | refine EvO.nil ?_ | refine at_normal ?_ | refine EvO.plainOn rfl rfl rfl rfl rfl rfl ?_)
          refine EvC.cond (t := true) rfl (fun _ => ?_) (fun e => nomatch e)
          repeat (first | refine EvO.plain rfl rfl rfl rfl rfl rfl ?_ | refine EvC.seq ?_ | refine EvC.region rfl ?_)
          refine EvO.on rfl rfl rfl (EvP.quiet (v := .bool true) rfl rfl ?_)
          repeat (first | refine EvO.plain rfl rfl rfl rfl rfl rfl ?_ | refine EvO.off rfl rfl rfl ?_)
          refine EvO.on rfl rfl rfl (EvP.callF rfl rfl rfl rfl (EvF.mono (awake_spec) ?_))
          rintro _ h99 _ ⟨rfl, rfl⟩
          repeat (first | refine EvO.plain rfl rfl rfl rfl rfl rfl ?_ | refine EvO.nil ?_ | refine at_normal ?_ | refine EvC.ret ?_ | refine at_ret ?_)
          (refine ret_is (v := .bool true) rfl rfl ?_)
          rfl
        · have f4 := load1 (T := TT gt) (t := 3) (off := 0) o4 rfl rfl rfl
          repeat (first | refine EvO.plain rfl rfl rfl rfl rfl rfl ?_ | refine EvC.seq ?_ | refine EvC.region rfl ?_ | refine EvO.nil ?_ | refine at_normal ?_)
          refine EvO.on rfl rfl rfl (EvP.quiet (v := .bool true) rfl rfl ?_)
          repeat (first | refine EvO.plain rfl rfl rfl rfl rfl rfl ?_ | refine EvO.nil ?_ | refine at_normal ?_ | refine EvO.off rfl rfl rfl ?_)
          refine EvC.cond (t := true) rfl (fun _ => ?_) (fun e => nomatch e)
          repeat (first | refine EvO.plain rfl rfl rfl rfl rfl rfl ?_ | refine EvC.seq ?_ | refine EvC.region rfl ?_)
          refine EvO.on rfl rfl rfl (EvP.quiet (v := .bool false) rfl rfl ?_)
          repeat (first | refine EvO.plain rfl rfl rfl rfl rfl rfl ?_ | refine EvO.plainOn rfl rfl rfl rfl rfl rfl ?_)
          refine EvO.on rfl rfl rfl (EvP.quiet (v := .bool true) rfl rfl ?_)
          repeat (first | refine EvO.plainOn rfl rfl rfl rfl rfl rfl ?_ | refine EvO.plainOn rfl rfl rfl rfl rfl (by assumption) ?_)
          refine EvO.on rfl rfl rfl (EvP.quiet (v := .bool true) rfl (isB (decide_eq_true (by omega))) ?_)
          clear f4
          repeat (first | refine EvO.plain rfl rfl rfl rfl rfl rfl ?_ | refine EvO.plainOn rfl rfl rfl rfl rfl rfl ?_)
          refine EvO.on rfl rfl rfl (EvP.callF rfl rfl rfl rfl (EvF.mono (awake_spec) ?_))
          rintro _ h99 _ ⟨rfl, rfl⟩
          repeat (first | refine EvO.plain rfl rfl rfl rfl rfl rfl ?_ | refine EvO.nil ?_ | refine at_normal ?_ | refine EvC.ret ?_ | refine at_ret ?_)
          (refine ret_is (v := .bool true) rfl rfl ?_)
          rfl
        · have hOB := Sa.says_rup hLok hR
          obtain ⟨⟨R, hPl⟩, hno⟩ := hOB
          obtain ⟨pc, prow, pints⟩ := hP
          have hPok : ∀ l ∈ P, (∀ x ∈ l, ok N x) ∧ l.length ≤ 2 * N + 1 := fun l hl => by
            have hOB := List.getElem_of_mem hl
            obtain ⟨i, hi, rfl⟩ := hOB
            have h8 := R.2 i hi
            rw [List.getD_eq_getElem?_getD, List.getElem?_eq_getElem hi] at h8
            exact ⟨h8.2.1, Sa.oks_len h8.2.2 h8.2.1⟩
          have hRf := rup_refutes27 R
          have htot := total_le_mul (k := 61) (fun l hl => Nat.le_trans (hPok l hl).2 (by omega))
          have D : CnfAt h4 N pv P pc := ⟨prow, pints, fun l hl => by have := (hPok l hl).2; omega, by omega⟩
          have f4 := loadAgg (T := TT gt) (t := 24) (off := 0) (n := 2) (r := [.int .i64 N, cl]) o4 rfl rfl
          repeat (first | refine EvO.plain rfl rfl rfl rfl rfl rfl ?_ | refine EvC.seq ?_ | refine EvC.region rfl ?_ | refine EvO.nil ?_ | refine at_normal ?_)
          refine EvO.on rfl rfl rfl (EvP.quiet (v := .bool false) rfl rfl ?_)
          repeat (first | refine EvO.plain rfl rfl rfl rfl rfl rfl ?_ | refine EvO.nil ?_ | refine at_normal ?_ | refine EvO.plainOn rfl rfl rfl rfl rfl rfl ?_)
          refine EvC.cond (t := false) rfl (fun e => nomatch e) (fun _ => ?_)
          have hPv : ∀ i, i < P.length → ∀ x ∈ P.getD i [], ok N x := fun i hi => (R.2 i hi).2.1
          repeat (first | refine EvO.plain rfl rfl rfl rfl rfl rfl ?_ | refine EvO.plain rfl rfl rfl rfl rfl (by assumption) ?_ | refine EvC.seq ?_ | refine EvC.region rfl ?_ | refine at_normal ?_ | refine EvC.skip ?_)
          (refine EvO.cons rfl rfl rfl (EvP.callF rfl rfl rfl rfl (EvF.mono (check_spec hw4 (C.mono hle4) D (by omega) (by omega)) ?_)))
          rintro _ h5 _ ⟨⟨hle45, hw5⟩, is, e, rfl, _, x2⟩
          have hOB := x2 ⟨hv, hPv⟩
          obtain ⟨rfl, hq⟩ := hOB
          have hOB : is = true := hq.2 hRf
          obtain rfl := hOB
          clear f4
          repeat (first | refine EvO.plain rfl rfl rfl rfl rfl rfl ?_ | refine EvC.seq ?_ | refine EvC.region rfl ?_ | refine EvO.nil ?_ | refine at_normal ?_ | refine EvO.plainOn rfl rfl rfl rfl rfl rfl ?_)
          refine EvO.on rfl rfl rfl (EvP.quiet (v := .bool true) rfl rfl ?_)
          repeat (refine EvO.plain rfl rfl rfl rfl rfl rfl ?_)
          refine EvO.on rfl rfl rfl (EvP.callF rfl rfl rfl rfl (EvF.mono (awake_spec) ?_))
          rintro _ h99 _ ⟨rfl, rfl⟩
          repeat (first | refine EvO.plain rfl rfl rfl rfl rfl rfl ?_ | refine EvO.nil ?_ | refine at_normal ?_ | refine EvC.ret ?_)
          (refine ret_is (v := .bool true) rfl rfl ?_)
          rfl
    · rw [decide_eq_false hv]
      repeat (first | refine EvO.plain rfl rfl rfl rfl rfl rfl ?_ | refine EvO.nil ?_ | refine at_normal ?_ | refine EvO.plainOn rfl rfl rfl rfl rfl rfl ?_)
      refine EvC.cond (t := true) rfl (fun _ => ?_) (fun e => nomatch e)
      repeat (first | refine EvC.seq ?_ | refine EvC.region rfl ?_)
      (refine EvO.cons rfl rfl rfl (EvP.callF rfl rfl rfl rfl (EvF.mono (awake_spec) ?_)))
      rintro _ h99 _ ⟨rfl, rfl⟩
      repeat (first | refine EvO.plain rfl rfl rfl rfl rfl rfl ?_ | refine EvO.nil ?_ | refine at_normal ?_ | refine EvC.ret ?_ | refine at_ret ?_)
      (refine ret_is (v := .bool true) rfl rfl ?_)
      rfl
end Pf
end Go.Proofs.YtfjloafebkjadaaGreatDoor
