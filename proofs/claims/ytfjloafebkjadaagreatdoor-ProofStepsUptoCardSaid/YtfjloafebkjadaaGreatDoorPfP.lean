/- Step and Check answer as the reference does: the law's run. -/
import Derived.Test.YtfjloafebkjadaaGreatDoorPfL
import Derived.Test.YtfjloafebkjadaaGreatDoorPf8
namespace Go.Proofs.YtfjloafebkjadaaGreatDoor
namespace Pf
open Go Go.AI Go.Proofs
variable {gt : Tree (List AV)}
set_option maxHeartbeats 4000000 in
/-- Few and small lists. -/
theorem few27_spec {h : AH} (hw : WF h) {n : Int} {cl pv : AV} {L P : List (List Int)} {cv pc : Nat → AV} (C : CnfAt h n cl L cv) (D : CnfAt h n pv P pc) (nc : NZ cl) (np : NZ pv) (hb : total L + total P ≤ 2 ^ 60) (hm : L.length + P.length ≤ 2 ^ 29) :
    EvF (TT gt) X 19 [.agg [.int .i64 n, cl], pv] h (fun r h' => (h.le h' ∧ WF h') ∧ ∃ b, r = .bool b ∧ (b = true → L.length ≤ 80 ∧ P.length ≤ 80 ∧ total L + total P ≤ 500 ∧ (n ≤ 30 ∨ n > 50000))) := by
  have S0 := HS.all hw
  refine EvF.enter rfl rfl rfl ?_
  repeat (first | refine EvC.seq ?_ | refine EvC.region rfl ?_)
  (refine EvO.cons rfl rfl rfl (EvP.newR (b := .cells [.int .i64 n, cl] 24 false) (mk := .ptr) S0 rfl rfl (fun h1 b A1 S1 hle1 o1 _ _ => ?_)))
  repeat (first | refine EvO.plain rfl rfl rfl rfl rfl rfl ?_ | refine EvC.seq ?_ | refine EvC.region rfl ?_ | refine EvO.nil ?_ | refine at_normal ?_)
  (refine EvO.cons rfl rfl rfl (EvP.newC (b := .cells [] 35 false) (mk := .slice 0 0 true) S1 1 rfl rfl (by decide) (fun h2 id col2 A2 S2 o2 c2 _ => ?_)))
  have b2 := S2.le _ _ (AH.get_add h b (.cells [.int .i64 n, cl] 24 false))
  have f2 := load1 (T := TT gt) (t := 22) (off := 1) b2 rfl rfl rfl
  repeat (first | refine EvO.plain rfl rfl rfl rfl rfl rfl ?_ | refine EvO.plain rfl rfl rfl rfl rfl (by assumption) ?_)
  have V2 : Vec col2 1 h2 35 1 (.slice id 0 0 0 true) 0 [] := .mk (tail := []) o2 c2 rfl (fun _ => ⟨Nat.le_refl _, rfl⟩)
  (refine EvO.cons rfl rfl rfl (EvP.appendRow S2 V2 (by decide) (C.rows.mono (fun i o e => S2.le i o (hle1 i o e))) nc (fun i hi => (C.ints i hi).sc.2) rfl rfl rfl rfl rfl rfl rfl rfl rfl rfl (by show (0 + L.length) * 24 ≤ 70368744177664; omega) (by omega) (fun v3 h3 col3 A3 S3 V3 => ?_)))
  clear f2
  repeat (refine EvO.plain rfl rfl rfl rfl rfl rfl ?_)
  (refine EvO.cons rfl rfl rfl (EvP.appendRow S3 V3 (by decide) (D.rows.mono (fun i o e => S3.le i o (hle1 i o e))) np (fun i hi => (D.ints i hi).sc.2) rfl rfl rfl rfl rfl rfl rfl rfl rfl rfl (by show (0 + L.length + P.length) * 24 ≤ 70368744177664; omega) (by omega) (fun v4 h4 col4 A4 S4 V4 => ?_)))
  have ln4 := V4.row.len_any (T := TT gt) (t := 22) rfl h4
  repeat (first | refine EvO.plain rfl rfl rfl rfl rfl rfl ?_ | refine EvO.plain rfl rfl rfl rfl rfl (by assumption) ?_ | refine EvO.nil ?_ | refine at_normal ?_ | refine EvC.block ?_)
  clear ln4
  have hN : 0 + L.length + P.length = (L ++ P).length := by simp
  rw [hN] at V4
  have hel : ∀ i, i < (L ++ P).length → ∃ a, ([] ++ (List.range L.length).map cv ++ (List.range P.length).map pc)[i]? = some a ∧ IntRow h a ((L ++ P).getD i []) := fun i hi => by
    rw [List.length_append] at hi
    rw [List.getD_eq_getElem?_getD, List.nil_append]
    rcases Nat.lt_or_ge i L.length with hl | hl
    · rw [List.getElem?_append_left (by simpa using hl), List.getElem?_append_left hl, ← List.getD_eq_getElem?_getD]
      exact ⟨cv i, by simp [hl], C.ints i hl⟩
    · rw [List.getElem?_append_right (by simpa using hl), List.getElem?_append_right hl, ← List.getD_eq_getElem?_getD]
      refine ⟨pc (i - L.length), ?_, D.ints _ (by omega)⟩
      rw [List.length_map, List.length_range, List.getElem?_map, List.getElem?_range (by omega)]
      rfl
  have htot : total (L ++ P) = total L + total P := by simp [total]
  rw [hN]
  generalize L ++ P = LP at *
  generalize ([] ++ (List.range L.length).map cv ++ (List.range P.length).map pc : List AV) = cells at *
  refine EvC.loop (fun m σ h' => h' = h4 ∧ ∃ (i : Nat) (E : Nat → AV), i ≤ LP.length ∧ m = LP.length - i ∧ σ = upds [(1, pv), (2, .ptr b 0), (5, .int .i64 (total (LP.take i))), (13, v4), (14, .int .i64 LP.length), (15, .int .i64 i)] E) (LP.length) ?_ ?_
  · exact ⟨rfl, 0, _, Nat.zero_le _, rfl, hold ⟨rfl, rfl, rfl, rfl, rfl, rfl, trivial⟩⟩
  · rintro m _ h4 ⟨rfl, i, E, hi, rfl, rfl⟩
    repeat (first | refine EvO.plain rfl rfl rfl rfl rfl rfl ?_ | refine EvC.seq ?_ | refine EvC.region rfl ?_ | refine EvO.nil ?_ | refine at_normal ?_)
    refine EvC.decide rfl (fun hc => ?_) (fun hc => ?_)
    · have hlt : i < LP.length := by omega
      obtain ⟨p, u, a1, a2, a3⟩ := V4.at1 (T := TT gt) (t := 22) (k := .i64) (i := i) rfl rfl rfl rfl (by omega) (by omega)
      obtain ⟨a, h5, h6⟩ := hel i hlt
      rw [Int.toNat_natCast, h5] at a3
      cases a3
      have ln := h6.len_any (T := TT gt) (t := 35) rfl h4
      have ht := total_take hlt
      have ht2 := total_le LP (i + 1)
      repeat (first | refine EvO.plain rfl rfl rfl rfl rfl rfl ?_ | refine EvO.plain rfl rfl rfl rfl rfl (by assumption) ?_ | refine EvC.seq ?_ | refine EvC.region rfl ?_ | refine EvO.nil ?_ | refine at_normal ?_ | refine EvC.skip ?_ | refine EvC.block ?_ | refine be_normal ?_ | refine ro_normal ?_ | refine EvO.cons rfl rfl rfl (EvP.add64 rfl rfl (by omega) ?_))
      clear a1 a2
      refine ⟨LP.length - (i + 1), by omega, rfl, i + 1, _, by omega, rfl, hold ⟨rfl, rfl, ?_, rfl, rfl, rfl, trivial⟩⟩
      rw [ht]; rfl
    · have hend : i = LP.length := by omega
      subst hend
      rw [List.take_length]
      have b4 := S4.le _ _ (AH.get_add h b (.cells [.int .i64 n, cl] 24 false))
      have f4 := load1 (T := TT gt) (t := 22) (off := 1) b4 rfl rfl rfl
      have f7 := load1 (T := TT gt) (t := 3) (off := 0) b4 rfl rfl rfl
      have l1 := C.rows.len_any (T := TT gt) (t := 22) rfl h4
      have l2 := D.rows.len_any (T := TT gt) (t := 22) rfl h4
      have fin : (h.le h4 ∧ WF h4) := ⟨fun i o e => S4.le i o (hle1 i o e), S4.wf⟩
      repeat (first | refine EvO.plain rfl rfl rfl rfl rfl rfl ?_ | refine EvO.plain rfl rfl rfl rfl rfl (by assumption) ?_ | refine EvC.seq ?_ | refine EvC.region rfl ?_ | refine at_normal ?_ | refine EvC.exit ?_ | refine at_exit ?_ | refine be_same rfl ?_ | refine ro_exit ?_)
      have bad : ∃ b, AV.bool false = .bool b ∧ (b = true → L.length ≤ 80 ∧ P.length ≤ 80 ∧ total L + total P ≤ 500 ∧ (n ≤ 30 ∨ n > 50000)) := ⟨false, rfl, fun e => nomatch e⟩
      (refine EvO.cons rfl rfl rfl (EvP.bool rfl rfl (fun q1 => ?_) (fun q1 => ?_)))
      · have q1 := of_decide_eq_true q1
        repeat (first | refine EvO.plain rfl rfl rfl rfl rfl rfl ?_ | refine EvO.plainOn rfl rfl rfl rfl rfl rfl ?_ | refine EvO.plainOn rfl rfl rfl rfl rfl (by assumption) ?_)
        (refine EvO.on rfl rfl rfl (EvP.bool rfl rfl (fun q2 => ?_) (fun q2 => ?_)))
        · have q2 := of_decide_eq_true q2
          repeat (first | refine EvO.plain rfl rfl rfl rfl rfl rfl ?_ | refine EvO.plainOn rfl rfl rfl rfl rfl rfl ?_)
          (refine EvO.on rfl rfl rfl (EvP.bool rfl rfl (fun q3 => ?_) (fun q3 => ?_)))
          · have q3 := of_decide_eq_true q3
            repeat (first | refine EvO.plain rfl rfl rfl rfl rfl rfl ?_ | refine EvO.plainOn rfl rfl rfl rfl rfl rfl ?_ | refine EvO.plainOn rfl rfl rfl rfl rfl (by assumption) ?_)
            (refine EvO.on rfl rfl rfl (EvP.bool rfl rfl (fun q4 => ?_) (fun q4 => ?_)))
            · have q4 := of_decide_eq_true q4
              repeat (first | refine EvO.plain rfl rfl rfl rfl rfl rfl ?_ | refine EvO.nil ?_ | refine at_normal ?_ | refine EvC.ret ?_ | refine EvO.off rfl rfl rfl ?_ | refine EvO.plainOn rfl rfl rfl rfl rfl rfl ?_)
              (refine ret_is (v := .bool true) rfl rfl ?_)
              exact ⟨fin, true, rfl, fun _ => ⟨by omega, by omega, by omega, .inl q4⟩⟩
            · have q4 := of_decide_eq_false q4
              repeat (first | refine EvO.plainOn rfl rfl rfl rfl rfl rfl ?_ | refine EvO.plainOn rfl rfl rfl rfl rfl (by assumption) ?_)
              (refine EvO.on rfl rfl rfl (EvP.bool rfl rfl (fun q5 => ?_) (fun q5 => ?_)))
              · have q5 := of_decide_eq_true q5
                repeat (first | refine EvO.plain rfl rfl rfl rfl rfl rfl ?_ | refine EvO.nil ?_ | refine at_normal ?_ | refine EvC.ret ?_ | refine EvO.plainOn rfl rfl rfl rfl rfl rfl ?_)
                (refine ret_is (v := .bool true) rfl rfl ?_)
                exact ⟨fin, true, rfl, fun _ => ⟨by omega, by omega, by omega, .inr q5⟩⟩
              · repeat (first | refine EvO.plain rfl rfl rfl rfl rfl rfl ?_ | refine EvO.nil ?_ | refine at_normal ?_ | refine EvC.ret ?_ | refine EvO.plainOn rfl rfl rfl rfl rfl rfl ?_)
                (refine ret_is (v := .bool false) rfl rfl ?_)
                exact ⟨fin, bad⟩
          · repeat (first | refine EvO.plain rfl rfl rfl rfl rfl rfl ?_ | refine EvO.nil ?_ | refine at_normal ?_ | refine EvC.ret ?_ | refine EvO.off rfl rfl rfl ?_)
            (refine ret_is (v := .bool false) rfl rfl ?_)
            exact ⟨fin, bad⟩
        · repeat (first | refine EvO.plain rfl rfl rfl rfl rfl rfl ?_ | refine EvO.nil ?_ | refine at_normal ?_ | refine EvC.ret ?_ | refine EvO.off rfl rfl rfl ?_)
          (refine ret_is (v := .bool false) rfl rfl ?_)
          exact ⟨fin, bad⟩
      · repeat (first | refine EvO.plain rfl rfl rfl rfl rfl rfl ?_ | refine EvO.nil ?_ | refine at_normal ?_ | refine EvC.ret ?_ | refine EvO.off rfl rfl rfl ?_)
        (refine ret_is (v := .bool false) rfl rfl ?_)
        exact ⟨fin, bad⟩
end Pf
end Go.Proofs.YtfjloafebkjadaaGreatDoor
namespace Go.Proofs.YtfjloafebkjadaaGreatDoor
namespace Pf
open Go Go.AI Go.Proofs
variable {gt : Tree (List AV)}
theorem says_same {is is' : Bool} {e e' : Int} {A B : Prop} (h1 : ¬ A → is = false ∧ e = 2) (h2 : A → e = 0 ∧ (is = true ↔ B)) (h3 : ¬ A → is' = false ∧ e' = 2) (h4 : A → e' = 0 ∧ (is' = true ↔ B)) : is = is' ∧ e = e' := by
  by_cases a : A
  · obtain ⟨x1, x2⟩ := h2 a
    obtain ⟨y1, y2⟩ := h4 a
    exact ⟨Bool.eq_iff_iff.2 (x2.trans y2.symm), x1.trans y1.symm⟩
  · obtain ⟨x1, x2⟩ := h1 a
    obtain ⟨y1, y2⟩ := h3 a
    exact ⟨x1.trans y1.symm, x2.trans y2.symm⟩
theorem few_total {L P : List (List Int)} (h : total L + total P ≤ 500) : ∀ l ∈ P, l.length ≤ 500 := fun l hl => by
  obtain ⟨i, hi, rfl⟩ := List.getElem_of_mem hl
  have h1 := total_take hi
  have h2 := total_le P (i + 1)
  rw [List.getD_eq_getElem?_getD, List.getElem?_eq_getElem hi] at h1
  simp only [Option.getD_some] at h1
  omega
set_option maxHeartbeats 4000000 in
theorem steps_law {h : AH} (hw : WF h) {n : Int} {cl pv lv : AV} {L P : List (List Int)} {l : List Int} {cv pc : Nat → AV} (C : CnfAt h n cl L cv) (D : CnfAt h n pv P pc) (row : IntRow h lv l) (nc : NZ cl) (np : NZ pv) (hb : total L + total P ≤ 2 ^ 60) (hm : L.length + P.length ≤ 2 ^ 29) :
    EvF (TT gt) X 9 [.agg [.int .i64 n, cl], pv, lv] h (fun r _ => r = .bool true) := by
  refine EvF.enter rfl rfl rfl ?_
  repeat (first | refine EvC.seq ?_ | refine EvC.region rfl ?_)
  (refine EvO.cons rfl rfl rfl (EvP.new (b := .cells [.int .i64 n, cl] 24 false) (mk := .ptr) rfl rfl hw (fun h1 b hg1 hb1 hfr => ?_)))
  have f1 := loadAgg (T := TT gt) (t := 24) (off := 0) (n := 2) (r := [.int .i64 n, cl]) hb1 rfl rfl
  repeat (first | refine EvO.plain rfl rfl rfl rfl rfl rfl ?_ | refine EvO.plain rfl rfl rfl rfl rfl (by assumption) ?_ | refine EvC.seq ?_ | refine EvC.region rfl ?_ | refine EvO.nil ?_ | refine at_normal ?_)
  (refine EvO.cons rfl rfl rfl (EvP.callF rfl rfl rfl rfl (EvF.mono (few27_spec hg1.wf (C.mono hg1.le) (D.mono hg1.le) nc np hb hm) ?_)))
  rintro _ h2 hn2 ⟨⟨hl2, hw2⟩, few, rfl, hfew⟩
  have hg2 : Grew h1 h2 := ⟨hl2, hw2, hn2⟩
  have hg := hg1.trans hg2
  clear f1
  have b2 := hg2.le _ _ hb1
  have f2 := loadAgg (T := TT gt) (t := 24) (off := 0) (n := 2) (r := [.int .i64 n, cl]) b2 rfl rfl
  have wake : ∀ {h' : AH}, EvF (TT gt) X 16 [] h' (fun r h'' => h'' = h' ∧ r = .bool true) := awake_spec
  have ln := row.len_any (T := TT gt) (t := 35) rfl h2
  cases few with
  | false =>
    repeat (first | refine EvO.plain rfl rfl rfl rfl rfl rfl ?_ | refine EvO.nil ?_ | refine at_normal ?_ | refine EvO.off rfl rfl rfl ?_)
    refine EvC.cond (t := true) rfl (fun _ => ?_) (fun e => nomatch e)
    repeat (first | refine EvC.seq ?_ | refine EvC.region rfl ?_)
    (refine EvO.cons rfl rfl rfl (EvP.callF rfl rfl rfl rfl (EvF.mono (wake) ?_)))
    rintro _ h3 _ ⟨rfl, rfl⟩
    repeat (first | refine EvO.plain rfl rfl rfl rfl rfl rfl ?_ | refine EvO.nil ?_ | refine at_normal ?_ | refine EvC.ret ?_ | refine at_ret ?_)
    (refine ret_is (v := .bool true) rfl rfl ?_)
    rfl
  | true =>
    obtain ⟨s1, s2, s3, s4⟩ := hfew rfl
    have s5 := few_total s3
    repeat (first | refine EvO.plain rfl rfl rfl rfl rfl rfl ?_ | refine EvO.plainOn rfl rfl rfl rfl rfl rfl ?_ | refine EvO.plainOn rfl rfl rfl rfl rfl (by assumption) ?_)
    (refine EvO.on rfl rfl rfl (EvP.bool rfl rfl (fun hlen => ?_) (fun hlen => ?_)))
    · have hlen := of_decide_eq_true hlen
      clear ln
      repeat (first | refine EvO.plain rfl rfl rfl rfl rfl rfl ?_ | refine EvO.nil ?_ | refine at_normal ?_)
      refine EvC.cond (t := true) rfl (fun _ => ?_) (fun e => nomatch e)
      repeat (first | refine EvC.seq ?_ | refine EvC.region rfl ?_)
      (refine EvO.cons rfl rfl rfl (EvP.callF rfl rfl rfl rfl (EvF.mono (wake) ?_)))
      rintro _ h3 _ ⟨rfl, rfl⟩
      repeat (first | refine EvO.plain rfl rfl rfl rfl rfl rfl ?_ | refine EvO.nil ?_ | refine at_normal ?_ | refine EvC.ret ?_ | refine at_ret ?_)
      (refine ret_is (v := .bool true) rfl rfl ?_)
      rfl
    · have hlen := of_decide_eq_false hlen
      clear ln
      repeat (first | refine EvO.plain rfl rfl rfl rfl rfl rfl ?_ | refine EvO.nil ?_ | refine at_normal ?_)
      refine EvC.cond (t := false) rfl (fun e => nomatch e) (fun _ => ?_)
      repeat (first | refine EvO.plain rfl rfl rfl rfl rfl rfl ?_ | refine EvO.plain rfl rfl rfl rfl rfl (by assumption) ?_ | refine EvC.seq ?_ | refine EvC.region rfl ?_ | refine at_normal ?_ | refine EvC.skip ?_)
      (refine EvO.cons rfl rfl rfl (EvP.callF rfl rfl rfl rfl (EvF.mono (pstep_spec hg.wf (C.mono hg.le) (D.mono hg.le) (row.mono hg.le) nc np (by omega) (by omega) (by omega)) ?_)))
      rintro _ h3 hn3 ⟨⟨hl3, hw3⟩, is1, e1, rfl, x1, x2⟩
      have hg3 := hg.trans ⟨hl3, hw3, hn3⟩
      have b3 := hl3 _ _ b2
      clear f2
      have f3 := loadAgg (T := TT gt) (t := 24) (off := 0) (n := 2) (r := [.int .i64 n, cl]) b3 rfl rfl
      repeat (first | refine EvO.plain rfl rfl rfl rfl rfl rfl ?_ | refine EvO.plain rfl rfl rfl rfl rfl (by assumption) ?_ | refine EvC.seq ?_ | refine EvC.region rfl ?_ | refine EvO.nil ?_ | refine at_normal ?_)
      (refine EvO.cons rfl rfl rfl (EvP.callF rfl rfl rfl rfl (EvF.mono (rstep27_spec hg3.wf (C.mono hg3.le) (D.mono hg3.le) (row.mono hg3.le) nc np (by omega) (by omega)) ?_)))
      rintro _ h4 hn4 ⟨⟨hl4, hw4⟩, is2, e2, rfl, x3, x4⟩
      have hg4 := hg3.trans ⟨hl4, hw4, hn4⟩
      have b4 := hl4 _ _ b3
      clear f3
      have f4 := loadAgg (T := TT gt) (t := 24) (off := 0) (n := 2) (r := [.int .i64 n, cl]) b4 rfl rfl
      obtain ⟨rfl, rfl⟩ := says_same x1 x2 x3 x4
      repeat (first | refine EvO.plain rfl rfl rfl rfl rfl rfl ?_ | refine EvO.plain rfl rfl rfl rfl rfl (by assumption) ?_ | refine EvC.seq ?_ | refine EvC.region rfl ?_ | refine EvO.nil ?_ | refine at_normal ?_)
      (refine EvO.cons rfl rfl rfl (EvP.callF rfl rfl rfl rfl (EvF.mono (check_spec hg4.wf (C.mono hg4.le) (D.mono hg4.le) (by omega) (by omega)) ?_)))
      rintro _ h5 hn5 ⟨⟨hl5, hw5⟩, is3, e3, rfl, x5, x6⟩
      have hg5 := hg4.trans ⟨hl5, hw5, hn5⟩
      have b5 := hl5 _ _ b4
      clear f4
      have f5 := loadAgg (T := TT gt) (t := 24) (off := 0) (n := 2) (r := [.int .i64 n, cl]) b5 rfl rfl
      repeat (first | refine EvO.plain rfl rfl rfl rfl rfl rfl ?_ | refine EvO.plain rfl rfl rfl rfl rfl (by assumption) ?_ | refine EvC.seq ?_ | refine EvC.region rfl ?_ | refine EvO.nil ?_ | refine at_normal ?_)
      (refine EvO.cons rfl rfl rfl (EvP.callF rfl rfl rfl rfl (EvF.mono (rcheck_spec hg5.wf (C.mono hg5.le) (D.mono hg5.le) nc (by omega) (fun l hl => by have := s5 l hl; omega)) ?_)))
      rintro _ h6 hn6 ⟨⟨hl6, hw6⟩, is4, e4, rfl, x7, x8⟩
      clear f5
      obtain ⟨rfl, rfl⟩ := says_same x5 x6 x7 x8
      repeat (first | refine EvO.plain rfl rfl rfl rfl rfl rfl ?_ | refine EvC.seq ?_ | refine EvC.region rfl ?_ | refine EvO.nil ?_ | refine at_normal ?_)
      (refine EvO.cons rfl rfl rfl (EvP.quiet rfl (isB (q := true) (by simp)) ?_))
      repeat (first | refine EvO.plain rfl rfl rfl rfl rfl rfl ?_ | refine EvO.plainOn rfl rfl rfl rfl rfl rfl ?_)
      (refine EvO.on rfl rfl rfl (EvP.quiet rfl (isB (q := true) (by simp)) ?_))
      repeat (first | refine EvO.plain rfl rfl rfl rfl rfl rfl ?_ | refine EvO.plainOn rfl rfl rfl rfl rfl rfl ?_)
      (refine EvO.on rfl rfl rfl (EvP.quiet rfl (isB (q := true) (by simp)) ?_))
      repeat (first | refine EvO.plain rfl rfl rfl rfl rfl rfl ?_ | refine EvO.plainOn rfl rfl rfl rfl rfl rfl ?_)
      (refine EvO.on rfl rfl rfl (EvP.quiet rfl (isB (q := true) (by simp)) ?_))
      repeat (refine EvO.plain rfl rfl rfl rfl rfl rfl ?_)
      (refine EvO.on rfl rfl rfl (EvP.callF rfl rfl rfl rfl (EvF.mono (wake) ?_)))
      rintro _ h7 _ ⟨rfl, rfl⟩
      repeat (first | refine EvO.plain rfl rfl rfl rfl rfl rfl ?_ | refine EvO.nil ?_ | refine at_normal ?_ | refine EvC.ret ?_)
      (refine ret_is (v := .bool true) rfl rfl ?_)
      rfl
end Pf
end Go.Proofs.YtfjloafebkjadaaGreatDoor
