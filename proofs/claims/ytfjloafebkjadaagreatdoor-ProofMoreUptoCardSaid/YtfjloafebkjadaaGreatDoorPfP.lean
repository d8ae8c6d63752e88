/- A proof may follow more clauses: the law's run. -/
import Derived.Test.YtfjloafebkjadaaGreatDoorPfL
import Derived.Test.YtfjloafebkjadaaGreatDoorPf8
namespace Go.Proofs.YtfjloafebkjadaaGreatDoor
namespace Pf
open Go Go.AI Go.Proofs
variable {gt : Tree (List AV)}
set_option maxHeartbeats 4000000 in
/-- Few and small lists. -/
theorem few27_spec {h : AH} (hw : WF h) {n : Int} {cl pv : AV} {L P : List (List Int)} {cv pc : Nat → AV} (C : CnfAt h n cl L cv) (D : CnfAt h n pv P pc) (nc : NZ cl) (np : NZ pv) (hb : total L + total P ≤ 2 ^ 60) (hm : L.length + P.length ≤ 2 ^ 29) :
    EvF (TT gt) X 19 [.agg [.int .i64 n, cl], pv] h (fun r h' => (h.le h' ∧ WF h') ∧ ∃ b, r = .bool b ∧ (b = true → L.length ≤ 80 ∧ P.length ≤ 80 ∧ total L + total P ≤ 500 ∧ (n ≤ 30 ∨ n > 50000))) := by
  have S0 := HS.all hw
  refine EvF.enter rfl rfl rfl ?_
  repeat (first | refine EvC.seq ?_ | refine EvC.region rfl ?_)
  (refine EvO.cons rfl rfl rfl (EvP.newR (b := .cells [.int .i64 n, cl] 24 false) (mk := .ptr) S0 rfl rfl (fun h1 b A1 S1 hle1 o1 _ _ => ?_)))
  repeat (first | refine EvO.plain rfl rfl rfl rfl rfl rfl ?_ | refine EvC.seq ?_ | refine EvC.region rfl ?_ | refine EvO.nil ?_ | refine at_normal ?_)
  (refine EvO.cons rfl rfl rfl (EvP.newC (b := .cells [] 35 false) (mk := .slice 0 0 true) S1 1 rfl rfl (by decide) (fun h2 id col2 A2 S2 o2 c2 _ => ?_)))
  have b2 := S2.le _ _ (AH.get_add h b (.cells [.int .i64 n, cl] 24 false))
  have f2 := load1 (T := TT gt) (t := 22) (off := 1) b2 rfl rfl rfl
  repeat (first | refine EvO.plain rfl rfl rfl rfl rfl rfl ?_ | refine EvO.plain rfl rfl rfl rfl rfl (by assumption) ?_)
  have V2 : Vec col2 1 h2 35 1 (.slice id 0 0 0 true) 0 [] := .mk (tail := []) o2 c2 rfl (fun _ => ⟨Nat.le_refl _, rfl⟩)
  (refine EvO.cons rfl rfl rfl (EvP.appendRow S2 V2 (by decide) (C.rows.mono (fun i o e => S2.le i o (hle1 i o e))) nc (fun i hi => (C.ints i hi).sc.2) rfl rfl rfl rfl rfl rfl rfl rfl rfl rfl (by show (0 + L.length) * 24 ≤ 70368744177664; omega) (by omega) (fun v3 h3 col3 A3 S3 V3 => ?_)))
  clear f2
  repeat (refine EvO.plain rfl rfl rfl rfl rfl rfl ?_)
  (refine EvO.cons rfl rfl rfl (EvP.appendRow S3 V3 (by decide) (D.rows.mono (fun i o e => S3.le i o (hle1 i o e))) np (fun i hi => (D.ints i hi).sc.2) rfl rfl rfl rfl rfl rfl rfl rfl rfl rfl (by show (0 + L.length + P.length) * 24 ≤ 70368744177664; omega) (by omega) (fun v4 h4 col4 A4 S4 V4 => ?_)))
  have ln4 := V4.row.len_any (T := TT gt) (t := 22) rfl h4
  repeat (first | refine EvO.plain rfl rfl rfl rfl rfl rfl ?_ | refine EvO.plain rfl rfl rfl rfl rfl (by assumption) ?_ | refine EvO.nil ?_ | refine at_normal ?_ | refine EvC.block ?_)
  clear ln4
  have hN : 0 + L.length + P.length = (L ++ P).length := by simp
  rw [hN] at V4
  have hel : ∀ i, i < (L ++ P).length → ∃ a, ([] ++ (List.range L.length).map cv ++ (List.range P.length).map pc)[i]? = some a ∧ IntRow h a ((L ++ P).getD i []) := fun i hi => by
    rw [List.length_append] at hi
    rw [List.getD_eq_getElem?_getD, List.nil_append]
    rcases Nat.lt_or_ge i L.length with hl | hl
    · rw [List.getElem?_append_left (by simpa using hl), List.getElem?_append_left hl, ← List.getD_eq_getElem?_getD]
      exact ⟨cv i, by simp [hl], C.ints i hl⟩
    · rw [List.getElem?_append_right (by simpa using hl), List.getElem?_append_right hl, ← List.getD_eq_getElem?_getD]
      refine ⟨pc (i - L.length), ?_, D.ints _ (by omega)⟩
      rw [List.length_map, List.length_range, List.getElem?_map, List.getElem?_range (by omega)]
      rfl
  have htot : total (L ++ P) = total L + total P := by simp [total]
  rw [hN]
  generalize L ++ P = LP at *
  generalize ([] ++ (List.range L.length).map cv ++ (List.range P.length).map pc : List AV) = cells at *
  refine EvC.loop (fun m σ h' => h' = h4 ∧ ∃ (i : Nat) (E : Nat → AV), i ≤ LP.length ∧ m = LP.length - i ∧ σ = upds [(1, pv), (2, .ptr b 0), (5, .int .i64 (total (LP.take i))), (13, v4), (14, .int .i64 LP.length), (15, .int .i64 i)] E) (LP.length) ?_ ?_
  · exact ⟨rfl, 0, _, Nat.zero_le _, rfl, hold ⟨rfl, rfl, rfl, rfl, rfl, rfl, trivial⟩⟩
  · rintro m _ h4 ⟨rfl, i, E, hi, rfl, rfl⟩
    repeat (first | refine EvO.plain rfl rfl rfl rfl rfl rfl ?_ | refine EvC.seq ?_ | refine EvC.region rfl ?_ | refine EvO.nil ?_ | refine at_normal ?_)
    refine EvC.decide rfl (fun hc => ?_) (fun hc => ?_)
    · have hlt : i < LP.length := by omega
      obtain ⟨p, u, a1, a2, a3⟩ := V4.at1 (T := TT gt) (t := 22) (k := .i64) (i := i) rfl rfl rfl rfl (by omega) (by omega)
      obtain ⟨a, h5, h6⟩ := hel i hlt
      rw [Int.toNat_natCast, h5] at a3
      cases a3
      have ln := h6.len_any (T := TT gt) (t := 35) rfl h4
      have ht := total_take hlt
      have ht2 := total_le LP (i + 1)
      repeat (first | refine EvO.plain rfl rfl rfl rfl rfl rfl ?_ | refine EvO.plain rfl rfl rfl rfl rfl (by assumption) ?_ | refine EvC.seq ?_ | refine EvC.region rfl ?_ | refine EvO.nil ?_ | refine at_normal ?_ | refine EvC.skip ?_ | refine EvC.block ?_ | refine be_normal ?_ | refine ro_normal ?_ | refine EvO.cons rfl rfl rfl (EvP.add64 rfl rfl (by omega) ?_))
      clear a1 a2
      refine ⟨LP.length - (i + 1), by omega, rfl, i + 1, _, by omega, rfl, hold ⟨rfl, rfl, ?_, rfl, rfl, rfl, trivial⟩⟩
      rw [ht]; rfl
    · have hend : i = LP.length := by omega
      subst hend
      rw [List.take_length]
      have b4 := S4.le _ _ (AH.get_add h b (.cells [.int .i64 n, cl] 24 false))
      have f4 := load1 (T := TT gt) (t := 22) (off := 1) b4 rfl rfl rfl
      have f7 := load1 (T := TT gt) (t := 3) (off := 0) b4 rfl rfl rfl
      have l1 := C.rows.len_any (T := TT gt) (t := 22) rfl h4
      have l2 := D.rows.len_any (T := TT gt) (t := 22) rfl h4
      have fin : (h.le h4 ∧ WF h4) := ⟨fun i o e => S4.le i o (hle1 i o e), S4.wf⟩
      repeat (first | refine EvO.plain rfl rfl rfl rfl rfl rfl ?_ | refine EvO.plain rfl rfl rfl rfl rfl (by assumption) ?_ | refine EvC.seq ?_ | refine EvC.region rfl ?_ | refine at_normal ?_ | refine EvC.exit ?_ | refine at_exit ?_ | refine be_same rfl ?_ | refine ro_exit ?_)
      have bad : ∃ b, AV.bool false = .bool b ∧ (b = true → L.length ≤ 80 ∧ P.length ≤ 80 ∧ total L + total P ≤ 500 ∧ (n ≤ 30 ∨ n > 50000)) := ⟨false, rfl, fun e => nomatch e⟩
      (refine EvO.cons rfl rfl rfl (EvP.bool rfl rfl (fun q1 => ?_) (fun q1 => ?_)))
      · have q1 := of_decide_eq_true q1
        repeat (first | refine EvO.plain rfl rfl rfl rfl rfl rfl ?_ | refine EvO.plainOn rfl rfl rfl rfl rfl rfl ?_ | refine EvO.plainOn rfl rfl rfl rfl rfl (by assumption) ?_)
        (refine EvO.on rfl rfl rfl (EvP.bool rfl rfl (fun q2 => ?_) (fun q2 => ?_)))
        · have q2 := of_decide_eq_true q2
          repeat (first | refine EvO.plain rfl rfl rfl rfl rfl rfl ?_ | refine EvO.plainOn rfl rfl rfl rfl rfl rfl ?_)
          (refine EvO.on rfl rfl rfl (EvP.bool rfl rfl (fun q3 => ?_) (fun q3 => ?_)))
          · have q3 := of_decide_eq_true q3
            repeat (first | refine EvO.plain rfl rfl rfl rfl rfl rfl ?_ | refine EvO.plainOn rfl rfl rfl rfl rfl rfl ?_ | refine EvO.plainOn rfl rfl rfl rfl rfl (by assumption) ?_)
            (refine EvO.on rfl rfl rfl (EvP.bool rfl rfl (fun q4 => ?_) (fun q4 => ?_)))
            · have q4 := of_decide_eq_true q4
              repeat (first | refine EvO.plain rfl rfl rfl rfl rfl rfl ?_ | refine EvO.nil ?_ | refine at_normal ?_ | refine EvC.ret ?_ | refine EvO.off rfl rfl rfl ?_ | refine EvO.plainOn rfl rfl rfl rfl rfl rfl ?_)
              (refine ret_is (v := .bool true) rfl rfl ?_)
              exact ⟨fin, true, rfl, fun _ => ⟨by omega, by omega, by omega, .inl q4⟩⟩
            · have q4 := of_decide_eq_false q4
              repeat (first | refine EvO.plainOn rfl rfl rfl rfl rfl rfl ?_ | refine EvO.plainOn rfl rfl rfl rfl rfl (by assumption) ?_)
              (refine EvO.on rfl rfl rfl (EvP.bool rfl rfl (fun q5 => ?_) (fun q5 => ?_)))
              · have q5 := of_decide_eq_true q5
                repeat (first | refine EvO.plain rfl rfl rfl rfl rfl rfl ?_ | refine EvO.nil ?_ | refine at_normal ?_ | refine EvC.ret ?_ | refine EvO.plainOn rfl rfl rfl rfl rfl rfl ?_)
                (refine ret_is (v := .bool true) rfl rfl ?_)
                exact ⟨fin, true, rfl, fun _ => ⟨by omega, by omega, by omega, .inr q5⟩⟩
              · repeat (first | refine EvO.plain rfl rfl rfl rfl rfl rfl ?_ | refine EvO.nil ?_ | refine at_normal ?_ | refine EvC.ret ?_ | refine EvO.plainOn rfl rfl rfl rfl rfl rfl ?_)
                (refine ret_is (v := .bool false) rfl rfl ?_)
                exact ⟨fin, bad⟩
          · repeat (first | refine EvO.plain rfl rfl rfl rfl rfl rfl ?_ | refine EvO.nil ?_ | refine at_normal ?_ | refine EvC.ret ?_ | refine EvO.off rfl rfl rfl ?_)
            (refine ret_is (v := .bool false) rfl rfl ?_)
            exact ⟨fin, bad⟩
        · repeat (first | refine EvO.plain rfl rfl rfl rfl rfl rfl ?_ | refine EvO.nil ?_ | refine at_normal ?_ | refine EvC.ret ?_ | refine EvO.off rfl rfl rfl ?_)
          (refine ret_is (v := .bool false) rfl rfl ?_)
          exact ⟨fin, bad⟩
      · repeat (first | refine EvO.plain rfl rfl rfl rfl rfl rfl ?_ | refine EvO.nil ?_ | refine at_normal ?_ | refine EvC.ret ?_ | refine EvO.off rfl rfl rfl ?_)
        (refine ret_is (v := .bool false) rfl rfl ?_)
        exact ⟨fin, bad⟩
end Pf
end Go.Proofs.YtfjloafebkjadaaGreatDoor
namespace Go.Proofs.YtfjloafebkjadaaGreatDoor
namespace Pf
open Go Go.AI Go.Proofs
variable {gt : Tree (List AV)}
theorem says_same {is is' : Bool} {e e' : Int} {A B : Prop} (h1 : ¬ A → is = false ∧ e = 2) (h2 : A → e = 0 ∧ (is = true ↔ B)) (h3 : ¬ A → is' = false ∧ e' = 2) (h4 : A → e' = 0 ∧ (is' = true ↔ B)) : is = is' ∧ e = e' := by
  by_cases a : A
  · obtain ⟨x1, x2⟩ := h2 a
    obtain ⟨y1, y2⟩ := h4 a
    exact ⟨Bool.eq_iff_iff.2 (x2.trans y2.symm), x1.trans y1.symm⟩
  · obtain ⟨x1, x2⟩ := h1 a
    obtain ⟨y1, y2⟩ := h3 a
    exact ⟨x1.trans y1.symm, x2.trans y2.symm⟩
theorem few_total {L P : List (List Int)} (h : total L + total P ≤ 500) : ∀ l ∈ P, l.length ≤ 500 := fun l hl => by
  obtain ⟨i, hi, rfl⟩ := List.getElem_of_mem hl
  have h1 := total_take hi
  have h2 := total_le P (i + 1)
  rw [List.getD_eq_getElem?_getD, List.getElem?_eq_getElem hi] at h1
  simp only [Option.getD_some] at h1
  omega
set_option maxHeartbeats 4000000 in
theorem steps_law {h : AH} (hw : WF h) {n : Int} {cl pv lv : AV} {L P : List (List Int)} {l : List Int} {cv pc : Nat → AV} (C : CnfAt h n cl L cv) (D : CnfAt h n pv P pc) (row : IntRow h lv l) (nc : NZ cl) (np : NZ pv) (hb : total L + total P ≤ 2 ^ 60) (hm : L.length + P.length ≤ 2 ^ 29) :
    EvF (TT gt) X 9 [.agg [.int .i64 n, cl], pv, lv] h (fun r _ => r = .bool true) := by
  refine EvF.enter rfl rfl rfl ?_
  repeat (first | refine EvC.seq ?_ | refine EvC.region rfl ?_)
  (refine EvO.cons rfl rfl rfl (EvP.new (b := .cells [.int .i64 n, cl] 24 false) (mk := .ptr) rfl rfl hw (fun h1 b hg1 hb1 hfr => ?_)))
  have f1 := loadAgg (T := TT gt) (t := 24) (off := 0) (n := 2) (r := [.int .i64 n, cl]) hb1 rfl rfl
  repeat (first | refine EvO.plain rfl rfl rfl rfl rfl rfl ?_ | refine EvO.plain rfl rfl rfl rfl rfl (by assumption) ?_ | refine EvC.seq ?_ | refine EvC.region rfl ?_ | refine EvO.nil ?_ | refine at_normal ?_)
  (refine EvO.cons rfl rfl rfl (EvP.callF rfl rfl rfl rfl (EvF.mono (few27_spec hg1.wf (C.mono hg1.le) (D.mono hg1.le) nc np hb hm) ?_)))
  rintro _ h2 hn2 ⟨⟨hl2, hw2⟩, few, rfl, hfew⟩
  have hg2 : Grew h1 h2 := ⟨hl2, hw2, hn2⟩
  have hg := hg1.trans hg2
  clear f1
  have b2 := hg2.le _ _ hb1
  have f2 := loadAgg (T := TT gt) (t := 24) (off := 0) (n := 2) (r := [.int .i64 n, cl]) b2 rfl rfl
  have wake : ∀ {h' : AH}, EvF (TT gt) X 16 [] h' (fun r h'' => h'' = h' ∧ r = .bool true) := awake_spec
  have ln := row.len_any (T := TT gt) (t := 35) rfl h2
  cases few with
  | false =>
    repeat (first | refine EvO.plain rfl rfl rfl rfl rfl rfl ?_ | refine EvO.nil ?_ | refine at_normal ?_ | refine EvO.off rfl rfl rfl ?_)
    refine EvC.cond (t := true) rfl (fun _ => ?_) (fun e => nomatch e)
    repeat (first | refine EvC.seq ?_ | refine EvC.region rfl ?_)
    (refine EvO.cons rfl rfl rfl (EvP.callF rfl rfl rfl rfl (EvF.mono (wake) ?_)))
    rintro _ h3 _ ⟨rfl, rfl⟩
    repeat (first | refine EvO.plain rfl rfl rfl rfl rfl rfl ?_ | refine EvO.nil ?_ | refine at_normal ?_ | refine EvC.ret ?_ | refine at_ret ?_)
    (refine ret_is (v := .bool true) rfl rfl ?_)
    rfl
  | true =>
    obtain ⟨s1, s2, s3, s4⟩ := hfew rfl
    have s5 := few_total s3
    repeat (first | refine EvO.plain rfl rfl rfl rfl rfl rfl ?_ | refine EvO.plainOn rfl rfl rfl rfl rfl rfl ?_ | refine EvO.plainOn rfl rfl rfl rfl rfl (by assumption) ?_)
    (refine EvO.on rfl rfl rfl (EvP.bool rfl rfl (fun hlen => ?_) (fun hlen => ?_)))
    · have hlen := of_decide_eq_true hlen
      clear ln
      repeat (first | refine EvO.plain rfl rfl rfl rfl rfl rfl ?_ | refine EvO.nil ?_ | refine at_normal ?_)
      refine EvC.cond (t := true) rfl (fun _ => ?_) (fun e => nomatch e)
      repeat (first | refine EvC.seq ?_ | refine EvC.region rfl ?_)
      (refine EvO.cons rfl rfl rfl (EvP.callF rfl rfl rfl rfl (EvF.mono (wake) ?_)))
      rintro _ h3 _ ⟨rfl, rfl⟩
      repeat (first | refine EvO.plain rfl rfl rfl rfl rfl rfl ?_ | refine EvO.nil ?_ | refine at_normal ?_ | refine EvC.ret ?_ | refine at_ret ?_)
      (refine ret_is (v := .bool true) rfl rfl ?_)
      rfl
    · have hlen := of_decide_eq_false hlen
      clear ln
      repeat (first | refine EvO.plain rfl rfl rfl rfl rfl rfl ?_ | refine EvO.nil ?_ | refine at_normal ?_)
      refine EvC.cond (t := false) rfl (fun e => nomatch e) (fun _ => ?_)
      repeat (first | refine EvO.plain rfl rfl rfl rfl rfl rfl ?_ | refine EvO.plain rfl rfl rfl rfl rfl (by assumption) ?_ | refine EvC.seq ?_ | refine EvC.region rfl ?_ | refine at_normal ?_ | refine EvC.skip ?_)
      (refine EvO.cons rfl rfl rfl (EvP.callF rfl rfl rfl rfl (EvF.mono (pstep_spec hg.wf (C.mono hg.le) (D.mono hg.le) (row.mono hg.le) nc np (by omega) (by omega) (by omega)) ?_)))
      rintro _ h3 hn3 ⟨⟨hl3, hw3⟩, is1, e1, rfl, x1, x2⟩
      have hg3 := hg.trans ⟨hl3, hw3, hn3⟩
      have b3 := hl3 _ _ b2
      clear f2
      have f3 := loadAgg (T := TT gt) (t := 24) (off := 0) (n := 2) (r := [.int .i64 n, cl]) b3 rfl rfl
      repeat (first | refine EvO.plain rfl rfl rfl rfl rfl rfl ?_ | refine EvO.plain rfl rfl rfl rfl rfl (by assumption) ?_ | refine EvC.seq ?_ | refine EvC.region rfl ?_ | refine EvO.nil ?_ | refine at_normal ?_)
      (refine EvO.cons rfl rfl rfl (EvP.callF rfl rfl rfl rfl (EvF.mono (rstep27_spec hg3.wf (C.mono hg3.le) (D.mono hg3.le) (row.mono hg3.le) nc np (by omega) (by omega)) ?_)))
      rintro _ h4 hn4 ⟨⟨hl4, hw4⟩, is2, e2, rfl, x3, x4⟩
      have hg4 := hg3.trans ⟨hl4, hw4, hn4⟩
      have b4 := hl4 _ _ b3
      clear f3
      have f4 := loadAgg (T := TT gt) (t := 24) (off := 0) (n := 2) (r := [.int .i64 n, cl]) b4 rfl rfl
      obtain ⟨rfl, rfl⟩ := says_same x1 x2 x3 x4
      repeat (first | refine EvO.plain rfl rfl rfl rfl rfl rfl ?_ | refine EvO.plain rfl rfl rfl rfl rfl (by assumption) ?_ | refine EvC.seq ?_ | refine EvC.region rfl ?_ | refine EvO.nil ?_ | refine at_normal ?_)
      (refine EvO.cons rfl rfl rfl (EvP.callF rfl rfl rfl rfl (EvF.mono (check_spec hg4.wf (C.mono hg4.le) (D.mono hg4.le) (by omega) (by omega)) ?_)))
      rintro _ h5 hn5 ⟨⟨hl5, hw5⟩, is3, e3, rfl, x5, x6⟩
      have hg5 := hg4.trans ⟨hl5, hw5, hn5⟩
      have b5 := hl5 _ _ b4
      clear f4
      have f5 := loadAgg (T := TT gt) (t := 24) (off := 0) (n := 2) (r := [.int .i64 n, cl]) b5 rfl rfl
      repeat (first | refine EvO.plain rfl rfl rfl rfl rfl rfl ?_ | refine EvO.plain rfl rfl rfl rfl rfl (by assumption) ?_ | refine EvC.seq ?_ | refine EvC.region rfl ?_ | refine EvO.nil ?_ | refine at_normal ?_)
      (refine EvO.cons rfl rfl rfl (EvP.callF rfl rfl rfl rfl (EvF.mono (rcheck_spec hg5.wf (C.mono hg5.le) (D.mono hg5.le) nc (by omega) (fun l hl => by have := s5 l hl; omega)) ?_)))
      rintro _ h6 hn6 ⟨⟨hl6, hw6⟩, is4, e4, rfl, x7, x8⟩
      clear f5
      obtain ⟨rfl, rfl⟩ := says_same x5 x6 x7 x8
      repeat (first | refine EvO.plain rfl rfl rfl rfl rfl rfl ?_ | refine EvC.seq ?_ | refine EvC.region rfl ?_ | refine EvO.nil ?_ | refine at_normal ?_)
      (refine EvO.cons rfl rfl rfl (EvP.quiet rfl (isB (q := true) (by simp)) ?_))
      repeat (first | refine EvO.plain rfl rfl rfl rfl rfl rfl ?_ | refine EvO.plainOn rfl rfl rfl rfl rfl rfl ?_)
      (refine EvO.on rfl rfl rfl (EvP.quiet rfl (isB (q := true) (by simp)) ?_))
      repeat (first | refine EvO.plain rfl rfl rfl rfl rfl rfl ?_ | refine EvO.plainOn rfl rfl rfl rfl rfl rfl ?_)
      (refine EvO.on rfl rfl rfl (EvP.quiet rfl (isB (q := true) (by simp)) ?_))
      repeat (first | refine EvO.plain rfl rfl rfl rfl rfl rfl ?_ | refine EvO.plainOn rfl rfl rfl rfl rfl rfl ?_)
      (refine EvO.on rfl rfl rfl (EvP.quiet rfl (isB (q := true) (by simp)) ?_))
      repeat (refine EvO.plain rfl rfl rfl rfl rfl rfl ?_)
      (refine EvO.on rfl rfl rfl (EvP.callF rfl rfl rfl rfl (EvF.mono (wake) ?_)))
      rintro _ h7 _ ⟨rfl, rfl⟩
      repeat (first | refine EvO.plain rfl rfl rfl rfl rfl rfl ?_ | refine EvO.nil ?_ | refine at_normal ?_ | refine EvC.ret ?_)
      (refine ret_is (v := .bool true) rfl rfl ?_)
      rfl
end Pf
end Go.Proofs.YtfjloafebkjadaaGreatDoor
namespace Go.Proofs.YtfjloafebkjadaaGreatDoor
namespace Pf
open Go Go.AI Go.Proofs
variable {gt : Tree (List AV)}
theorem der_more {A B : List (List Int)} (hs : ∀ c ∈ A, c ∈ B) {taken : List Int} {x : Int} (h : Der A taken x) : Der B taken x := by
  induction h with
  | tak h => exact .tak h
  | unit hc hx _ ih => exact .unit (hs _ hc) hx ih
theorem clash_more {A B : List (List Int)} (hs : ∀ c ∈ A, c ∈ B) {taken : List Int} (h : Clash A taken) : Clash B taken := by
  rcases h with ⟨x, h1, h2⟩ | ⟨c, hc, h⟩
  · exact .inl ⟨x, der_more hs h1, der_more hs h2⟩
  · exact .inr ⟨c, hs _ hc, fun y hy => der_more hs (h y hy)⟩
theorem EvH_newK {T : Tab} {X : Oracle} {n m j : Nat} {σ : Nat → AV} {h G G0 : AH} {col : Nat → Nat} {ops : List Oper} {s : PStep} {p : List PStep} {o : Oper} {d : Nat} {b : AObj} {mk : Mk} {Q : (Nat → AV) → AH → Prop} (S : HS G0 h col) (hG : G.le h) (c : Nat) (hc0 : c ≠ 0) (hj : Nat.beq s.lo j = true) (hs : s.eff = false) (hm : Nat.ble s.hi m = true) (ho : lget ops s.idx = some o) (hg : o.guard = none) (hd : o.dst = some d) (hn : Nat.ble (d + 1) n = true) (hk : kindOf T o.op = .fresh) (hv : ffresh T (evf σ) o.op = some (b, mk)) (hq : oeq b b = true)
    (H : ∀ h1 id col1, Step (fun x => x = c) col h col1 h1 → HS G0 h1 col1 → h.le h1 → h1.t.get id = some b → col1 id = c → EvH T X m (G.add id b) j n ops p (upd σ d (mk.av id)) h1 Q) : EvH T X m G j n ops (s :: p) σ h Q := by
  have hn : d < n := Nat.le_of_ble_eq_true hn
  have A := new_step S.wf S.fresh b c
  have hnone : h.t.get h.next = none := S.wf _ (Nat.le_refl _)
  have hGn : G.t.get h.next = none := by
    cases e : G.t.get h.next with
    | none => rfl
    | some o' => have := hG _ _ e; rw [hnone] at this; cases this
  have hle : h.le (h.new b).2 := AH.le_new b hnone
  have hGG : G.le (G.add h.next b) := fun i o' e' => by
    simp only [AH.add, Tree.get_put]
    split
    · rename_i hi; rw [hi, hGn] at e'; cases e'
    · exact e'
  obtain ⟨K', e, h'', g1, g2, g3⟩ := H _ _ _ A (S.step A (fun e => hc0 e.symm)) hle (get_new ..) (recol_same ..)
  refine ⟨K' + 2, e, h'', fun env he k hk' => ?_, Nat.le_trans A.nx g2, g3⟩
  obtain ⟨j', rfl, hj'⟩ := up hk'
  obtain ⟨i, rfl, hi⟩ := up hj'
  obtain ⟨rs, env2, b1, b2, b3⟩ := g1 (env.put d (mk.av h.next)) (by rw [at_upd, he]) (i + 1) (by omega)
  have hv' : afresh T env o.op = some (b, mk) := by rw [ffresh_eq, aev_evf, he]; exact hv
  have hop : aop T X (i + 1) env h o.op = some (mk.av h.next, (h.new b).2) := by simp only [aop, hk, hv', hnone]
  have hgo : guardOk env ops o = some true := by simp only [guardOk, hg]
  refine ⟨⟨s, o, env, h, true, mk.av h.next, (h.new b).2⟩ :: rs, env2, b1, by simp only [arun, ho, hgo, hop, putDst, hd, if_pos hn, if_neg (Nat.not_lt.2 A.nx), b2], Nat.eq_of_beq_eq_true hj, (fun e => nomatch hs.symm.trans e), (fun _ _ e => nomatch hk.symm.trans e), G.add h.next b, ?_, hGG, (fun _ _ _ _ => ⟨Nat.le_of_ble_eq_true hm, b, mk, hv', hq, AH.get_add ..⟩)⟩
  show Stays T m _ (if s.eff then j + 1 else j) rs
  rw [hs]; exact b3
theorem buildC {n : Int} {v : AV} (hv : v.cells = [v] ∧ scalar v = true) : abuild (TT gt) 24 [(0, .int .i64 n), (1, v)] = some (.agg [.int .i64 n, v]) := by
  obtain ⟨h1, h2⟩ := hv
  cases v <;> first | rfl | (cases h2)
set_option maxHeartbeats 40000000 in
theorem more_law {h : AH} (hw : WF h) {n : Int} {cl pv lv : AV} {L P : List (List Int)} {l : List Int} {cv pc : Nat → AV} (C : CnfAt h n cl L cv) (D : CnfAt h n pv P pc) (row : IntRow h lv l) (nc : NZ cl) (np : NZ pv) (hb : total L + total P ≤ 2 ^ 60) (hm : L.length + P.length ≤ 2 ^ 29) :
    EvF (TT gt) X 11 [.agg [.int .i64 n, cl], pv, lv] h (fun r _ => r = .bool true) := by
  have N0 : ∀ h', CnfAt h' n .nilSlice [] (fun _ => .nilSlice) := fun h' => ⟨.nil, fun i hi => absurd hi (Nat.not_lt_zero _), fun l hl => (nomatch hl), Nat.zero_le _⟩
  refine EvF.enter rfl rfl rfl ?_
  repeat (first | refine EvC.seq ?_ | refine EvC.region rfl ?_)
  (refine EvO.cons rfl rfl rfl (EvP.new (b := .cells [.int .i64 n, cl] 24 false) (mk := .ptr) rfl rfl hw (fun h1 b hg1 hb1 hfr => ?_)))
  have f1 := loadAgg (T := TT gt) (t := 24) (off := 0) (n := 2) (r := [.int .i64 n, cl]) hb1 rfl rfl
  repeat (first | refine EvO.plain rfl rfl rfl rfl rfl rfl ?_ | refine EvO.plain rfl rfl rfl rfl rfl (by assumption) ?_ | refine EvC.seq ?_ | refine EvC.region rfl ?_ | refine EvO.nil ?_ | refine at_normal ?_)
  (refine EvO.cons rfl rfl rfl (EvP.callF rfl rfl rfl rfl (EvF.mono (few27_spec hg1.wf (C.mono hg1.le) (D.mono hg1.le) nc np hb hm) ?_)))
  rintro _ h2 hn2 ⟨⟨hl2, hw2⟩, few, rfl, hfew⟩
  have hg2 : Grew h1 h2 := ⟨hl2, hw2, hn2⟩
  have hg := hg1.trans hg2
  clear f1
  have b2 := hg2.le _ _ hb1
  have f2 := loadAgg (T := TT gt) (t := 24) (off := 0) (n := 2) (r := [.int .i64 n, cl]) b2 rfl rfl
  have wake : ∀ {h' : AH}, EvF (TT gt) X 16 [] h' (fun r h'' => h'' = h' ∧ r = .bool true) := awake_spec
  have ln := row.len_any (T := TT gt) (t := 35) rfl h2
  cases few with
  | false =>
    repeat (first | refine EvO.plain rfl rfl rfl rfl rfl rfl ?_ | refine EvO.nil ?_ | refine at_normal ?_ | refine EvO.off rfl rfl rfl ?_)
    refine EvC.cond (t := true) rfl (fun _ => ?_) (fun e => nomatch e)
    repeat (first | refine EvC.seq ?_ | refine EvC.region rfl ?_)
    (refine EvO.cons rfl rfl rfl (EvP.callF rfl rfl rfl rfl (EvF.mono (wake) ?_)))
    rintro _ h3 _ ⟨rfl, rfl⟩
    repeat (first | refine EvO.plain rfl rfl rfl rfl rfl rfl ?_ | refine EvO.nil ?_ | refine at_normal ?_ | refine EvC.ret ?_ | refine at_ret ?_)
    (refine ret_is (v := .bool true) rfl rfl ?_)
    rfl
  | true =>
    obtain ⟨s1, s2, s3, s4⟩ := hfew rfl
    have s5 := few_total s3
    repeat (first | refine EvO.plain rfl rfl rfl rfl rfl rfl ?_ | refine EvO.plainOn rfl rfl rfl rfl rfl rfl ?_ | refine EvO.plainOn rfl rfl rfl rfl rfl (by assumption) ?_)
    (refine EvO.on rfl rfl rfl (EvP.bool rfl rfl (fun hlen => ?_) (fun hlen => ?_)))
    · have hlen := of_decide_eq_true hlen
      clear ln
      repeat (first | refine EvO.plain rfl rfl rfl rfl rfl rfl ?_ | refine EvO.nil ?_ | refine at_normal ?_)
      refine EvC.cond (t := true) rfl (fun _ => ?_) (fun e => nomatch e)
      repeat (first | refine EvC.seq ?_ | refine EvC.region rfl ?_)
      (refine EvO.cons rfl rfl rfl (EvP.callF rfl rfl rfl rfl (EvF.mono (wake) ?_)))
      rintro _ h3 _ ⟨rfl, rfl⟩
      repeat (first | refine EvO.plain rfl rfl rfl rfl rfl rfl ?_ | refine EvO.nil ?_ | refine at_normal ?_ | refine EvC.ret ?_ | refine at_ret ?_)
      (refine ret_is (v := .bool true) rfl rfl ?_)
      rfl
    · have hlen := of_decide_eq_false hlen
      clear ln
      repeat (first | refine EvO.plain rfl rfl rfl rfl rfl rfl ?_ | refine EvO.nil ?_ | refine at_normal ?_)
      refine EvC.cond (t := false) rfl (fun e => nomatch e) (fun _ => ?_)
      repeat (first | refine EvO.plain rfl rfl rfl rfl rfl rfl ?_ | refine EvO.plain rfl rfl rfl rfl rfl (by assumption) ?_ | refine EvC.seq ?_ | refine EvC.region rfl ?_ | refine at_normal ?_ | refine EvC.skip ?_)
      (refine EvO.cons rfl rfl rfl (EvP.callF rfl rfl rfl rfl (EvF.mono (pstep_spec hg.wf (C.mono hg.le) (N0 h2) (row.mono hg.le) nc trivial (by simp) (by omega) (by simp [total])) ?_)))
      rintro _ h3 hn3 ⟨⟨hl3, hw3⟩, is1, e1, rfl, x1, x2⟩
      have hg3 := hg.trans ⟨hl3, hw3, hn3⟩
      have b3 := hl3 _ _ b2
      clear f2
      have f3 := loadAgg (T := TT gt) (t := 24) (off := 0) (n := 2) (r := [.int .i64 n, cl]) b3 rfl rfl
      by_cases hv : (valid n L ∧ ∀ i, i < ([] : List (List Int)).length → ∀ x ∈ ([] : List (List Int)).getD i [], ok n x) ∧ ∀ x ∈ l, ok n x
      · obtain ⟨rfl, y1⟩ := x2 hv
        clear x1 x2
        rw [List.append_nil] at y1
        obtain ⟨⟨vv, _⟩, vl⟩ := hv
        have hvv := vv
        obtain ⟨v0, v1, v2, v3, v4⟩ := hvv
        repeat (first | refine EvO.plain rfl rfl rfl rfl rfl rfl ?_ | refine EvC.seq ?_ | refine EvC.region rfl ?_ | refine EvO.nil ?_ | refine at_normal ?_)
        (refine EvO.cons rfl rfl rfl (EvP.quiet rfl (isB (q := false) (by simp)) ?_))
        cases is1 with
        | false =>
          repeat (first | refine EvO.plain rfl rfl rfl rfl rfl rfl ?_ | refine EvO.nil ?_ | refine at_normal ?_ | refine EvO.plainOn rfl rfl rfl rfl rfl rfl ?_)
          refine EvC.cond (t := true) rfl (fun _ => ?_) (fun e => nomatch e)
          repeat (first | refine EvC.seq ?_ | refine EvC.region rfl ?_)
          (refine EvO.cons rfl rfl rfl (EvP.callF rfl rfl rfl rfl (EvF.mono (wake) ?_)))
          rintro _ h4 _ ⟨rfl, rfl⟩
          repeat (first | refine EvO.plain rfl rfl rfl rfl rfl rfl ?_ | refine EvO.nil ?_ | refine at_normal ?_ | refine EvC.ret ?_ | refine at_ret ?_)
          (refine ret_is (v := .bool true) rfl rfl ?_)
          rfl
        | true =>
          have y1 := y1.1 rfl
          repeat (first | refine EvO.plain rfl rfl rfl rfl rfl rfl ?_ | refine EvO.nil ?_ | refine at_normal ?_ | refine EvO.plainOn rfl rfl rfl rfl rfl rfl ?_)
          refine EvC.cond (t := false) rfl (fun e => nomatch e) (fun _ => ?_)
          repeat (first | refine EvO.plain rfl rfl rfl rfl rfl rfl ?_ | refine EvO.plain rfl rfl rfl rfl rfl (by assumption) ?_ | refine EvC.seq ?_ | refine EvC.region rfl ?_ | refine at_normal ?_ | refine EvC.skip ?_)
          (refine EvO.cons rfl rfl rfl (EvP.callF rfl rfl rfl rfl (EvF.mono (pstep_spec hg3.wf (C.mono hg3.le) (D.mono hg3.le) (row.mono hg3.le) nc np (by omega) (by omega) (by omega)) ?_)))
          rintro _ h4 hn4 ⟨⟨hl4, hw4⟩, is2, e2, rfl, x3, x4⟩
          have hg4 := hg3.trans ⟨hl4, hw4, hn4⟩
          have b4 := hl4 _ _ b3
          clear f3
          by_cases hp : ∀ i, i < P.length → ∀ x ∈ P.getD i [], ok n x
          · obtain ⟨rfl, y2⟩ := x4 ⟨⟨vv, hp⟩, vl⟩
            obtain rfl : is2 = true := y2.2 (clash_more (fun c hc => List.mem_append_left _ hc) y1)
            have f4 := load1 (T := TT gt) (t := 3) (off := 0) b4 rfl rfl rfl
            have f5 := load1 (T := TT gt) (t := 22) (off := 1) b4 rfl rfl rfl
            have hle : h4.le h4 := fun _ _ e => e
            have q1 := D.rows.veq
            have q2 := C.rows.veq
            have S4 := HS.all hg4.wf
            repeat (first | refine EvO.plain rfl rfl rfl rfl rfl rfl ?_ | refine EvC.seq ?_ | refine EvC.region rfl ?_ | refine EvO.nil ?_ | refine at_normal ?_)
            refine EvC.cond (t := false) rfl (fun e => nomatch e) (fun _ => ?_)
            repeat (first | refine EvC.seq ?_ | refine at_normal ?_ | refine EvC.skip ?_)
            refine EvC.drawnH 2 (h4) (p := [⟨0, false, 0, 2⟩, ⟨1, false, 0, 2⟩, ⟨2, false, 0, 0⟩, ⟨3, false, 0, 0⟩, ⟨5, false, 0, 1⟩, ⟨6, false, 0, 1⟩, ⟨9, false, 0, 2⟩, ⟨4, true, 0, 1⟩, ⟨7, true, 1, 2⟩, ⟨8, false, 2, 2⟩, ⟨10, true, 2, 3⟩]) rfl (by kernel_rfl) (by kernel_rfl) ?_
            repeat (first | refine EvH.easyG (by assumption) rfl rfl rfl rfl rfl rfl rfl rfl rfl rfl (by first | exact veq_s rfl | assumption) ?_ | refine EvH.easyG (by assumption) rfl rfl rfl rfl rfl rfl rfl rfl rfl (by assumption) (by first | exact veq_s rfl | assumption) ?_)
            refine EvH_newC (b := .cells [] 35 false) (mk := .slice 0 0 true) S4 1 (by decide) rfl rfl rfl rfl rfl rfl rfl rfl rfl (fun h5 id5 col5 A5 S5 hle5 o5 c5 => ?_)
            clear hle
            have hle := hle5
            repeat (first | refine EvH.easy1 rfl rfl rfl rfl rfl rfl rfl rfl rfl rfl ?_ | refine EvH.easyG (by assumption) rfl rfl rfl rfl rfl rfl rfl rfl rfl rfl (by first | exact veq_s rfl | assumption) ?_ | refine EvH.easyG (by assumption) rfl rfl rfl rfl rfl rfl rfl rfl rfl (by assumption) (by first | exact veq_s rfl | assumption) ?_)
            have V5 : Vec col5 1 h5 35 1 (.slice id5 0 0 0 true) 0 [] := .mk (tail := []) o5 c5 rfl (fun _ => ⟨Nat.le_refl _, rfl⟩)
            refine EvH_newK (b := .cells [.int .i64 0, .nilSlice] 24 false) (mk := .ptr) S5 hle5 2 (by decide) rfl rfl rfl rfl rfl rfl rfl rfl rfl (by rfl) (fun h6 id6 col6 A6 S6 hle6 o6 c6 => ?_)
            have V6 := V5.step A6 S5.wf (by decide)
            clear hle q1 q2
            (refine EvH.act rfl rfl rfl rfl rfl rfl rfl (EvP.appendRow S6 V6 (by decide) (D.rows.mono (AH.le.trans' hg4.le S6.le)) np (fun i hi => (D.ints i hi).sc.2) rfl rfl rfl rfl rfl rfl rfl rfl rfl rfl (by show (0 + P.length) * 24 ≤ 70368744177664; omega) (by omega) (fun v7 h7 col7 A7 S7 V7 => ?_)))
            have o7 := A7.get S6.wf o6 (by rw [c6]; decide)
            refine ⟨fun _ => AH.add_le S7.le o7.1, ?_⟩
            (refine EvH.act rfl rfl rfl rfl rfl rfl rfl (EvP.appendRow S7 V7 (by decide) (C.rows.mono (AH.le.trans' hg4.le S7.le)) nc (fun i hi => (C.ints i hi).sc.2) rfl rfl rfl rfl rfl rfl rfl rfl rfl rfl (by show (0 + P.length + L.length) * 24 ≤ 70368744177664; omega) (by omega) (fun v8 h8 col8 A8 S8 V8 => ?_)))
            have o8 := A8.get S7.wf o7.1 (by rw [o7.2, c6]; decide)
            refine ⟨fun _ => AH.add_le S8.le o8.1, ?_⟩
            skip
            have sc8 := V8.sc
            (refine EvH.quiet1 rfl rfl rfl rfl rfl rfl rfl rfl ((show abuild (TT gt) 24 [(0, .int .i64 n), (1, v8)] = _ from buildC sc8)) ?_)
            (refine EvH.act0 rfl rfl rfl rfl rfl rfl (EvP.storeC (v := .agg [.int .i64 n, v8]) S8 2 o8.1 (o8.2.trans (o7.2.trans c6)) (by decide) rfl rfl rfl rfl (by show (scalar (.int .i64 n) && (scalar v8 && true)) = true; rw [sc8.2]; rfl) (by show 0 + 2 ≤ 2; decide) (fun h9 A9 S9 o9 _ _ => ⟨fun e => absurd e (by decide), ?_⟩)))
            have o9 : h9.t.get id6 = some (.cells [.int .i64 n, v8] 24 false) := o9
            have V9 := V8.step A9 S8.wf (by decide)
            have hN : 0 + P.length + L.length = (P ++ L).length := by simp
            rw [hN, List.nil_append] at V9
            have hle9 : h.le h9 := AH.le.trans' hg4.le S9.le
            have hlens : ∀ l ∈ P ++ L, l.length ≤ 2 ^ 48 := fun l hl => by
              rcases List.mem_append.1 hl with h' | h'
              · exact D.lens l h'
              · exact C.lens l h'
            obtain ⟨cvv, Cv⟩ := cnf_of_vec (n := n) V9 (fun j hj => by
              obtain ⟨a, k1, k2⟩ := two_cells D C j hj
              exact ⟨a, k1, k2.mono hle9⟩) hlens (by simp; omega)
            have f9 := loadAgg (T := TT gt) (t := 24) (off := 0) (n := 2) (r := [.int .i64 n, v8]) o9 rfl rfl
            have nz8 : NZ v8 := V8.nz
            clear f4 f5
            skip
            repeat (first | refine EvO.plain rfl rfl rfl rfl rfl rfl ?_ | refine EvO.plain rfl rfl rfl rfl rfl (by assumption) ?_ | refine EvC.seq ?_ | refine EvC.region rfl ?_ | refine at_normal ?_ | refine EvH.nil ?_)
            (refine EvO.cons rfl rfl rfl (EvP.callF rfl rfl rfl rfl (EvF.mono (pstep_spec S9.wf Cv (N0 h9) (row.mono hle9) nz8 trivial (by simp) (by omega) (by simp [total])) ?_)))
            rintro _ h10 hn10 ⟨⟨hl10, hw10⟩, is3, e3, rfl, x5, x6⟩
            have vPL : valid n (P ++ L) := ⟨v0, v1, by rw [List.length_append]; omega, by rw [total_append]; omega, fun i hi x hx => by
              rcases List.mem_append.1 (getDL_mem hi) with h' | h'
              · exact lits_ok hp _ h' x hx
              · exact lits_ok v4 _ h' x hx⟩
            obtain ⟨rfl, y3⟩ := x6 ⟨⟨vPL, fun i hi => absurd hi (Nat.not_lt_zero _)⟩, vl⟩
            obtain rfl : is3 = true := y3.2 (clash_more (fun c hc => List.mem_append_left _ (List.mem_append_right _ hc)) y1)
            repeat (first | refine EvO.plain rfl rfl rfl rfl rfl rfl ?_ | refine EvC.seq ?_ | refine EvC.region rfl ?_ | refine EvO.nil ?_ | refine at_normal ?_ | refine EvO.plainOn rfl rfl rfl rfl rfl rfl ?_)
            refine EvO.on rfl rfl rfl (EvP.quiet rfl (isB (q := true) (by simp)) ?_)
            repeat (first | refine EvO.plain rfl rfl rfl rfl rfl rfl ?_ | refine EvO.plainOn rfl rfl rfl rfl rfl rfl ?_)
            refine EvO.on rfl rfl rfl (EvP.quiet rfl (isB (q := true) (by simp)) ?_)
            repeat (refine EvO.plain rfl rfl rfl rfl rfl rfl ?_)
            (refine EvO.on rfl rfl rfl (EvP.callF rfl rfl rfl rfl (EvF.mono (wake) ?_)))
            rintro _ h11 _ ⟨rfl, rfl⟩
            repeat (first | refine EvO.plain rfl rfl rfl rfl rfl rfl ?_ | refine EvO.nil ?_ | refine at_normal ?_ | refine EvC.ret ?_)
            (refine ret_is (v := .bool true) rfl rfl ?_)
            rfl
          · obtain ⟨rfl, rfl⟩ := x3 (fun e => hp e.1.2)
            have f4 := loadAgg (T := TT gt) (t := 24) (off := 0) (n := 2) (r := [.int .i64 n, cl]) b4 rfl rfl
            repeat (first | refine EvO.plain rfl rfl rfl rfl rfl rfl ?_ | refine EvC.seq ?_ | refine EvC.region rfl ?_ | refine EvO.nil ?_ | refine at_normal ?_)
            refine EvC.cond (t := true) rfl (fun _ => ?_) (fun e => nomatch e)
            repeat (first | refine EvO.plain rfl rfl rfl rfl rfl rfl ?_ | refine EvO.plain rfl rfl rfl rfl rfl (by assumption) ?_ | refine EvC.seq ?_ | refine EvC.region rfl ?_)
            (refine EvO.cons rfl rfl rfl (EvP.callF rfl rfl rfl rfl (EvF.mono (rproof_spec hg4.wf ⟨v0, by omega⟩ (D.mono hg4.le) (by omega)) ?_)))
            rintro _ h5 _ ⟨hg5, rfl⟩
            rw [decide_eq_false hp]
            repeat (refine EvO.plain rfl rfl rfl rfl rfl rfl ?_)
            (refine EvO.on rfl rfl rfl (EvP.callF rfl rfl rfl rfl (EvF.mono (wake) ?_)))
            rintro _ h6 _ ⟨rfl, rfl⟩
            repeat (first | refine EvO.plain rfl rfl rfl rfl rfl rfl ?_ | refine EvO.nil ?_ | refine at_normal ?_ | refine EvC.ret ?_ | refine at_ret ?_)
            (refine ret_is (v := .bool true) rfl rfl ?_)
            rfl
      · obtain ⟨rfl, rfl⟩ := x1 hv
        repeat (first | refine EvO.plain rfl rfl rfl rfl rfl rfl ?_ | refine EvC.seq ?_ | refine EvC.region rfl ?_ | refine EvO.nil ?_ | refine at_normal ?_)
        (refine EvO.cons rfl rfl rfl (EvP.quiet rfl (isB (q := true) (by simp)) ?_))
        repeat (first | refine EvO.plain rfl rfl rfl rfl rfl rfl ?_ | refine EvO.nil ?_ | refine at_normal ?_ | refine EvO.off rfl rfl rfl ?_)
        refine EvC.cond (t := true) rfl (fun _ => ?_) (fun e => nomatch e)
        repeat (first | refine EvC.seq ?_ | refine EvC.region rfl ?_)
        (refine EvO.cons rfl rfl rfl (EvP.callF rfl rfl rfl rfl (EvF.mono (wake) ?_)))
        rintro _ h4 _ ⟨rfl, rfl⟩
        repeat (first | refine EvO.plain rfl rfl rfl rfl rfl rfl ?_ | refine EvO.nil ?_ | refine at_normal ?_ | refine EvC.ret ?_ | refine at_ret ?_)
        (refine ret_is (v := .bool true) rfl rfl ?_)
        rfl
end Pf
end Go.Proofs.YtfjloafebkjadaaGreatDoor
