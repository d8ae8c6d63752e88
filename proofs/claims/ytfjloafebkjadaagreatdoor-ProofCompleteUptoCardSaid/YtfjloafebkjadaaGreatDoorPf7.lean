/- What Check answers. -/
import Derived.Test.YtfjloafebkjadaaGreatDoorPf6
namespace Go.Proofs.YtfjloafebkjadaaGreatDoor
namespace Pf
open Go Go.AI Go.Proofs
variable {gt : Tree (List AV)}
theorem nz_emb (w : World) (v : Value) : NZ (embC w v) := by
  unfold embC
  split
  · split <;> trivial
  · trivial
  · rename_i h1
    split
    · rename_i len _ _
      cases len with
      | zero => exact (h1 rfl).elim
      | succ k => trivial
    · trivial
  · unfold toAV
    split <;> first | trivial | simp [NZ]
theorem sum_take {L : List (List Int)} : total (L.take L.length) = total L := by rw [List.take_length]
/-- Lists laid end to end. -/
theorem much_spec {h : AH} (hw : WF h) {n : Int} {cl pv : AV} {L P : List (List Int)} {cv pc : Nat → AV} (C : CnfAt h n cl L cv) (D : CnfAt h n pv P pc) (nc : NZ cl) (np : NZ pv) (hb : total L + total P ≤ 2 ^ 60) (hm : L.length + P.length ≤ 2 ^ 29) :
    EvF (TT gt) X 14 [.agg [.int .i64 n, cl], pv] h (fun r h' => (h.le h' ∧ WF h') ∧ r = .bool (decide (L.length > 2000 ∨ P.length > 2000 ∨ total L + total P > 20000))) := by
  have S0 := HS.all hw
  refine EvF.enter rfl rfl rfl ?_
  repeat (first | refine EvC.seq ?_ | refine EvC.region rfl ?_)
  (refine EvO.cons rfl rfl rfl (EvP.newR (b := .cells [.int .i64 n, cl] 24 false) (mk := .ptr) S0 rfl rfl (fun h1 b A1 S1 hle1 o1 _ _ => ?_)))
  repeat (first | refine EvO.plain rfl rfl rfl rfl rfl rfl ?_ | refine EvC.seq ?_ | refine EvC.region rfl ?_ | refine EvO.nil ?_ | refine at_normal ?_)
  (refine EvO.cons rfl rfl rfl (EvP.newC (b := .cells [] 35 false) (mk := .slice 0 0 true) S1 1 rfl rfl (by decide) (fun h2 id col2 A2 S2 o2 c2 _ => ?_)))
  have b2 := S2.le _ _ (AH.get_add h b (.cells [.int .i64 n, cl] 24 false))
  have f2 := load1 (T := TT gt) (t := 22) (off := 1) b2 rfl rfl rfl
  repeat (first | refine EvO.plain rfl rfl rfl rfl rfl rfl ?_ | refine EvO.plain rfl rfl rfl rfl rfl (by assumption) ?_)
  have V2 : Vec col2 1 h2 35 1 (.slice id 0 0 0 true) 0 [] := .mk (tail := []) o2 c2 rfl (fun _ => ⟨Nat.le_refl _, rfl⟩)
  (refine EvO.cons rfl rfl rfl (EvP.appendRow S2 V2 (by decide) (C.rows.mono (fun i o e => S2.le i o (hle1 i o e))) nc (fun i hi => (C.ints i hi).sc.2) rfl rfl rfl rfl rfl rfl rfl rfl rfl rfl (by show (0 + L.length) * 24 ≤ 70368744177664; omega) (by omega) (fun v3 h3 col3 A3 S3 V3 => ?_)))
  clear f2
  repeat (refine EvO.plain rfl rfl rfl rfl rfl rfl ?_)
  (refine EvO.cons rfl rfl rfl (EvP.appendRow S3 V3 (by decide) (D.rows.mono (fun i o e => S3.le i o (hle1 i o e))) np (fun i hi => (D.ints i hi).sc.2) rfl rfl rfl rfl rfl rfl rfl rfl rfl rfl (by show (0 + L.length + P.length) * 24 ≤ 70368744177664; omega) (by omega) (fun v4 h4 col4 A4 S4 V4 => ?_)))
  have ln4 := V4.row.len_any (T := TT gt) (t := 22) rfl h4
  repeat (first | refine EvO.plain rfl rfl rfl rfl rfl rfl ?_ | refine EvO.plain rfl rfl rfl rfl rfl (by assumption) ?_ | refine EvO.nil ?_ | refine at_normal ?_ | refine EvC.block ?_)
  clear ln4
  have hN : 0 + L.length + P.length = (L ++ P).length := by simp
  rw [hN] at V4
  have hel : ∀ i, i < (L ++ P).length → ∃ a, ([] ++ (List.range L.length).map cv ++ (List.range P.length).map pc)[i]? = some a ∧ IntRow h a ((L ++ P).getD i []) := fun i hi => by
    rw [List.length_append] at hi
    rw [List.getD_eq_getElem?_getD, List.nil_append]
    have hOB := Nat.lt_or_ge i L.length
    rcases hOB with hl | hl
    · rw [List.getElem?_append_left (by simpa using hl), List.getElem?_append_left hl, ← List.getD_eq_getElem?_getD]
      exact ⟨cv i, by simp [hl], C.ints i hl⟩
    · rw [List.getElem?_append_right (by simpa using hl), List.getElem?_append_right hl, ← List.getD_eq_getElem?_getD]
      refine ⟨pc (i - L.length), ?_, D.ints _ (by omega)⟩
      rw [List.length_map, List.length_range, List.getElem?_map, List.getElem?_range (by omega)]
      rfl
  have htot : total (L ++ P) = total L + total P := by simp [total]
  rw [hN]
  generalize L ++ P = LP at *
  generalize ([] ++ (List.range L.length).map cv ++ (List.range P.length).map pc : List AV) = cells at *
  refine EvC.loop (fun m σ h' => h' = h4 ∧ ∃ (i : Nat) (E : Nat → AV), i ≤ LP.length ∧ m = LP.length - i ∧ σ = upds [(1, pv), (2, .ptr b 0), (5, .int .i64 (total (LP.take i))), (13, v4), (14, .int .i64 LP.length), (15, .int .i64 i)] E) (LP.length) ?_ ?_
  · exact ⟨rfl, 0, _, Nat.zero_le _, rfl, hold ⟨rfl, rfl, rfl, rfl, rfl, rfl, trivial⟩⟩
  · rintro m _ h4 ⟨rfl, i, E, hi, rfl, rfl⟩
    repeat (first | refine EvO.plain rfl rfl rfl rfl rfl rfl ?_ | refine EvC.seq ?_ | refine EvC.region rfl ?_ | refine EvO.nil ?_ | refine at_normal ?_)
    refine EvC.decide rfl (fun hc => ?_) (fun hc => ?_)
    · have hlt : i < LP.length := by omega
      have hOB := V4.at1 (T := TT gt) (t := 22) (k := .i64) (i := i) rfl rfl rfl rfl (by omega) (by omega)
      obtain ⟨p, u, a1, a2, a3⟩ := hOB
      have hOB := hel i hlt
      obtain ⟨a, h5, h6⟩ := hOB
      rw [Int.toNat_natCast, h5] at a3
      cases a3
      have ln := h6.len_any (T := TT gt) (t := 35) rfl h4
      have ht := total_take hlt
      have ht2 := total_le LP (i + 1)
      repeat (first | refine EvO.plain rfl rfl rfl rfl rfl rfl ?_ | refine EvO.plain rfl rfl rfl rfl rfl (by assumption) ?_ | refine EvC.seq ?_ | refine EvC.region rfl ?_ | refine EvO.nil ?_ | refine at_normal ?_ | refine EvC.skip ?_ | refine EvC.block ?_ | refine be_normal ?_ | refine ro_normal ?_ | refine EvO.cons rfl rfl rfl (EvP.add64 rfl rfl (by omega) ?_))
      clear a1 a2
      refine ⟨LP.length - (i + 1), by omega, rfl, i + 1, _, by omega, rfl, hold ⟨rfl, rfl, ?_, rfl, rfl, rfl, trivial⟩⟩
      rw [ht]; rfl
    · have hend : i = LP.length := by omega
      subst hend
      rw [List.take_length]
      have b4 := S4.le _ _ (AH.get_add h b (.cells [.int .i64 n, cl] 24 false))
      have f4 := load1 (T := TT gt) (t := 22) (off := 1) b4 rfl rfl rfl
      have l1 := C.rows.len_any (T := TT gt) (t := 22) rfl h4
      have l2 := D.rows.len_any (T := TT gt) (t := 22) rfl h4
      have fin : (h.le h4 ∧ WF h4) := ⟨fun i o e => S4.le i o (hle1 i o e), S4.wf⟩
      repeat (first | refine EvO.plain rfl rfl rfl rfl rfl rfl ?_ | refine EvO.plain rfl rfl rfl rfl rfl (by assumption) ?_ | refine EvC.seq ?_ | refine EvC.region rfl ?_ | refine at_normal ?_ | refine EvC.exit ?_ | refine at_exit ?_ | refine be_same rfl ?_ | refine ro_exit ?_)
      (refine EvO.cons rfl rfl rfl (EvP.bool rfl rfl (fun q1 => ?_) (fun q1 => ?_)))
      · have q1 := of_decide_eq_true q1
        repeat (first | refine EvO.plain rfl rfl rfl rfl rfl rfl ?_ | refine EvO.nil ?_ | refine at_normal ?_ | refine EvC.ret ?_ | refine EvO.off rfl rfl rfl ?_)
        (refine ret_is (v := .bool true) rfl rfl ?_)
        exact ⟨fin, congrArg AV.bool (decide_eq_true (by omega)).symm⟩
      · have q1 := of_decide_eq_false q1
        repeat (first | refine EvO.plain rfl rfl rfl rfl rfl rfl ?_ | refine EvO.plainOn rfl rfl rfl rfl rfl rfl ?_ | refine EvO.plainOn rfl rfl rfl rfl rfl (by assumption) ?_)
        (refine EvO.on rfl rfl rfl (EvP.bool rfl rfl (fun q2 => ?_) (fun q2 => ?_)))
        · have q2 := of_decide_eq_true q2
          repeat (first | refine EvO.plain rfl rfl rfl rfl rfl rfl ?_ | refine EvO.nil ?_ | refine at_normal ?_ | refine EvC.ret ?_ | refine EvO.off rfl rfl rfl ?_)
          (refine ret_is (v := .bool true) rfl rfl ?_)
          exact ⟨fin, congrArg AV.bool (decide_eq_true (by omega)).symm⟩
        · have q2 := of_decide_eq_false q2
          repeat (first | refine EvO.plain rfl rfl rfl rfl rfl rfl ?_ | refine EvO.plainOn rfl rfl rfl rfl rfl rfl ?_)
          (refine EvO.on rfl rfl rfl (EvP.bool rfl rfl (fun q3 => ?_) (fun q3 => ?_)))
          · have q3 := of_decide_eq_true q3
            repeat (first | refine EvO.plain rfl rfl rfl rfl rfl rfl ?_ | refine EvO.nil ?_ | refine at_normal ?_ | refine EvC.ret ?_)
            (refine ret_is (v := .bool true) rfl rfl ?_)
            exact ⟨fin, congrArg AV.bool (decide_eq_true (by omega)).symm⟩
          · have q3 := of_decide_eq_false q3
            repeat (first | refine EvO.plain rfl rfl rfl rfl rfl rfl ?_ | refine EvO.nil ?_ | refine at_normal ?_ | refine EvC.ret ?_)
            (refine ret_is (v := .bool false) rfl rfl ?_)
            exact ⟨fin, congrArg AV.bool (decide_eq_false (by omega)).symm⟩
theorem fit_spec {h : AH} (hw : WF h) {n : Int} {cl pv : AV} {L P : List (List Int)} {cv pc : Nat → AV} (C : CnfAt h n cl L cv) (D : CnfAt h n pv P pc) (hm : P.length ≤ 200000) :
    EvF (TT gt) X 51 [.agg [.int .i64 n, cl], pv] h (fun r h' => Grew h h' ∧ r = .bool (decide (valid n L ∧ ∀ i, i < P.length → ∀ x ∈ P.getD i [], ok n x))) := by
  refine EvF.enter rfl rfl rfl ?_
  repeat (first | refine EvC.seq ?_ | refine EvC.region rfl ?_)
  (refine EvO.cons rfl rfl rfl (EvP.new (b := .cells [.int .i64 n, cl] 24 false) (mk := .ptr) rfl rfl hw (fun h1 b hg1 hb hfr => ?_)))
  have f1 := loadAgg (T := TT gt) (t := 24) (off := 0) (n := 2) (r := [.int .i64 n, cl]) hb rfl rfl
  repeat (first | refine EvO.plain rfl rfl rfl rfl rfl rfl ?_ | refine EvO.plain rfl rfl rfl rfl rfl (by assumption) ?_ | refine EvC.seq ?_ | refine EvC.region rfl ?_ | refine EvO.nil ?_ | refine at_normal ?_)
  (refine EvO.cons rfl rfl rfl (EvP.callF rfl rfl rfl rfl (EvF.mono (valid_spec (facts gt) hg1.wf (C.mono hg1.le)) ?_)))
  rintro _ h2 _ ⟨hg2, rfl⟩
  have hg := hg1.trans hg2
  clear f1
  have l2 := fun h' => D.rows.len_any (T := TT gt) (t := 22) rfl h'
  by_cases hv : valid n L
  · refine EvO.cons rfl rfl rfl (EvP.quiet rfl (isB (q := false) (by simp [hv])) ?_)
    have l3 := l2 h2
    repeat (first | refine EvO.plain rfl rfl rfl rfl rfl rfl ?_ | refine EvO.plainOn rfl rfl rfl rfl rfl rfl ?_ | refine EvO.plainOn rfl rfl rfl rfl rfl (by assumption) ?_)
    (refine EvO.on rfl rfl rfl (EvP.quiet rfl (isB (q := false) (by simp; omega)) ?_))
    repeat (first | refine EvO.plain rfl rfl rfl rfl rfl rfl ?_ | refine EvO.nil ?_ | refine at_normal ?_)
    refine EvC.cond (t := false) rfl (fun e => nomatch e) (fun _ => ?_)
    repeat (first | refine EvO.plain rfl rfl rfl rfl rfl rfl ?_ | refine EvO.plain rfl rfl rfl rfl rfl (by assumption) ?_ | refine EvC.seq ?_ | refine EvC.region rfl ?_ | refine EvO.nil ?_ | refine at_normal ?_ | refine EvC.skip ?_ | refine EvC.block ?_)
    refine EvC.loop (fun m σ h' => Grew h h' ∧ Grew h1 h' ∧ ∃ (i : Nat) (E : Nat → AV), (∀ j, j < i → ∀ x ∈ P.getD j [], ok n x) ∧ i ≤ P.length ∧ m = P.length - i ∧ σ = upds [(2, .ptr b 0), (15, pv), (16, .int .i64 P.length), (17, .int .i64 i)] E) (P.length) ?_ ?_
    · exact ⟨hg, hg2, 0, _, fun j hj => absurd hj (Nat.not_lt_zero _), Nat.zero_le _, rfl, hold ⟨rfl, rfl, rfl, rfl, trivial⟩⟩
    · clear hg hg2 l3
      rintro m _ h3 ⟨hg, hg2, i, E, hp, hi, rfl, rfl⟩
      repeat (first | refine EvO.plain rfl rfl rfl rfl rfl rfl ?_ | refine EvC.seq ?_ | refine EvC.region rfl ?_ | refine EvO.nil ?_ | refine at_normal ?_)
      refine EvC.decide rfl (fun hc => ?_) (fun hc => ?_)
      · have hlt : i < P.length := by omega
        have hOB := (D.rows.mono hg.le).at1 (T := TT gt) (t := 22) (e := 35) rfl rfl rfl rfl (k := .i64) (i := i) (by omega) (by omega)
        obtain ⟨q, b1, b2⟩ := hOB
        rw [Int.toNat_natCast] at b2
        have f3 := loadAgg (T := TT gt) (t := 24) (off := 0) (n := 2) (r := [.int .i64 n, cl]) (hg2.le _ _ hb) rfl rfl
        have hlen := D.lens _ (getDL_mem hlt)
        repeat (first | refine EvO.plain rfl rfl rfl rfl rfl rfl ?_ | refine EvO.plain rfl rfl rfl rfl rfl (by assumption) ?_ | refine EvC.seq ?_ | refine EvC.region rfl ?_ | refine EvO.nil ?_ | refine at_normal ?_ | refine EvC.skip ?_ | refine EvC.block ?_)
        (refine EvO.cons rfl rfl rfl (EvP.callF rfl rfl rfl rfl (EvF.mono (pwithin_spec (facts gt) hg.wf ((D.ints i hlt).mono hg.le) (by omega) ⟨hv.1, by have := hv.2.1; omega⟩) ?_)))
        rintro _ h4 _ ⟨hg4, rfl⟩
        clear b1 b2 f3
        by_cases hw1 : ∀ x ∈ P.getD i [], ok n x
        · refine EvO.cons rfl rfl rfl (EvP.quiet rfl (isB (q := false) (by simpa using hw1)) ?_)
          repeat (first | refine EvO.nil ?_ | refine at_normal ?_)
          refine EvC.cond (t := false) rfl (fun e => nomatch e) (fun _ => ?_)
          repeat (first | refine EvO.plain rfl rfl rfl rfl rfl rfl ?_ | refine EvC.region rfl ?_ | refine EvO.nil ?_ | refine at_normal ?_ | refine EvC.skip ?_ | refine be_normal ?_ | refine ro_normal ?_ | refine EvO.cons rfl rfl rfl (EvP.add64 rfl rfl (by omega) ?_))
          exact ⟨P.length - (i + 1), by omega, hg.trans hg4, hg2.trans hg4, i + 1, _, fun j hj => (Nat.lt_succ_iff_lt_or_eq.1 hj).elim (hp j) (fun e => e ▸ hw1), by omega, rfl, hold ⟨rfl, rfl, rfl, rfl, trivial⟩⟩
        · refine EvO.cons rfl rfl rfl (EvP.quiet rfl (isB (q := true) (by simpa using hw1)) ?_)
          repeat (first | refine EvO.nil ?_ | refine at_normal ?_)
          refine EvC.cond (t := true) rfl (fun _ => ?_) (fun e => nomatch e)
          repeat (first | refine EvO.plain rfl rfl rfl rfl rfl rfl ?_ | refine EvC.seq ?_ | refine EvC.region rfl ?_ | refine EvO.nil ?_ | refine at_normal ?_ | refine EvC.ret ?_ | refine at_ret ?_ | refine be_ret ?_ | refine ro_ret ?_)
          (refine ret_is (v := .bool false) rfl rfl ?_)
          exact ⟨hg.trans hg4, congrArg AV.bool (decide_eq_false (fun e => hw1 (e.2 i hlt))).symm⟩
      · have hend : i = P.length := by omega
        subst hend
        repeat (first | refine EvO.plain rfl rfl rfl rfl rfl rfl ?_ | refine EvC.seq ?_ | refine EvC.region rfl ?_ | refine EvO.nil ?_ | refine at_normal ?_ | refine EvC.ret ?_ | refine EvC.exit ?_ | refine at_exit ?_ | refine be_same rfl ?_ | refine ro_exit ?_)
        (refine ret_is (v := .bool true) rfl rfl ?_)
        exact ⟨hg, congrArg AV.bool (decide_eq_true ⟨hv, hp⟩).symm⟩
  · refine EvO.cons rfl rfl rfl (EvP.quiet rfl (isB (q := true) (by simp [hv])) ?_)
    repeat (first | refine EvO.plain rfl rfl rfl rfl rfl rfl ?_ | refine EvO.nil ?_ | refine at_normal ?_ | refine EvO.off rfl rfl rfl ?_)
    refine EvC.cond (t := true) rfl (fun _ => ?_) (fun e => nomatch e)
    repeat (first | refine EvO.plain rfl rfl rfl rfl rfl rfl ?_ | refine EvC.seq ?_ | refine EvC.region rfl ?_ | refine EvO.nil ?_ | refine at_normal ?_ | refine EvC.ret ?_ | refine at_ret ?_)
    (refine ret_is (v := .bool false) rfl rfl ?_)
    exact ⟨hg, congrArg AV.bool (decide_eq_false (fun e => hv e.1)).symm⟩
/-- A refutation: each clause a step, the last one empty. -/
def Refutes (L P : List (List Int)) : Prop := 0 < P.length ∧ P.getD (P.length - 1) [] = [] ∧ ∀ i, i < P.length → Clash (L ++ P.take i) (neg (P.getD i []))
theorem check_spec {h : AH} (hw : WF h) {n : Int} {cl pv : AV} {L P : List (List Int)} {cv pc : Nat → AV} (C : CnfAt h n cl L cv) (D : CnfAt h n pv P pc) (hm : P.length ≤ 60000) (hb : total P ≤ 2 ^ 30) :
    EvF (TT gt) X 17 [.agg [.int .i64 n, cl], pv] h (fun r h' => (h.le h' ∧ WF h') ∧ ∃ is e, r = .tuple [.bool is, .int .i64 e] ∧
      (¬ (valid n L ∧ ∀ i, i < P.length → ∀ x ∈ P.getD i [], ok n x) → is = false ∧ e = 2) ∧ ((valid n L ∧ ∀ i, i < P.length → ∀ x ∈ P.getD i [], ok n x) → e = 0 ∧ (is = true ↔ Refutes L P))) := by
  refine EvF.enter rfl rfl rfl ?_
  repeat (first | refine EvC.seq ?_ | refine EvC.region rfl ?_)
  (refine EvO.cons rfl rfl rfl (EvP.new (b := .cells [.int .i64 n, cl] 24 false) (mk := .ptr) rfl rfl hw (fun h1 b hg1 hb1 hfr => ?_)))
  have f1 := loadAgg (T := TT gt) (t := 24) (off := 0) (n := 2) (r := [.int .i64 n, cl]) hb1 rfl rfl
  repeat (first | refine EvO.plain rfl rfl rfl rfl rfl rfl ?_ | refine EvO.plain rfl rfl rfl rfl rfl (by assumption) ?_ | refine EvC.seq ?_ | refine EvC.region rfl ?_ | refine EvO.nil ?_ | refine at_normal ?_)
  (refine EvO.cons rfl rfl rfl (EvP.callF rfl rfl rfl rfl (EvF.mono (fit_spec hg1.wf (C.mono hg1.le) (D.mono hg1.le) (by omega)) ?_)))
  rintro _ h2 _ ⟨hg2, rfl⟩
  have hg := hg1.trans hg2
  clear f1
  have l2 := fun h' => D.rows.len_any (T := TT gt) (t := 22) rfl h'
  have fin : h.le h2 ∧ WF h2 := ⟨hg.le, hg.wf⟩
  by_cases hv : valid n L ∧ ∀ i, i < P.length → ∀ x ∈ P.getD i [], ok n x
  · have hvv := hv
    obtain ⟨⟨v0, v1, v2, v3, v4⟩, hP⟩ := hvv
    have hOB : ∃ N : Nat, n = N := ⟨n.toNat, by omega⟩
    obtain ⟨N, rfl⟩ := hOB
    have hLo : ∀ l ∈ L, ∀ x ∈ l, ok N x := fun l hl x hx => by
      have hOB := List.getElem_of_mem hl
      obtain ⟨i, hi, rfl⟩ := hOB
      refine v4 i hi x ?_
      rw [List.getD_eq_getElem?_getD, List.getElem?_eq_getElem hi]; exact hx
    have hPo : ∀ l ∈ P, ∀ x ∈ l, ok N x := fun l hl x hx => by
      have hOB := List.getElem_of_mem hl
      obtain ⟨i, hi, rfl⟩ := hOB
      refine hP i hi x ?_
      rw [List.getD_eq_getElem?_getD, List.getElem?_eq_getElem hi]; exact hx
    refine EvO.cons rfl rfl rfl (EvP.quiet rfl (isB (q := false) (by rw [decide_eq_true hv]; rfl)) ?_)
    repeat (first | refine EvO.nil ?_ | refine at_normal ?_)
    refine EvC.cond (t := false) rfl (fun e => nomatch e) (fun _ => ?_)
    have l3 := l2 h2
    have done : ∀ is : Bool, (is = true ↔ Refutes L P) → ∃ is' e, AV.tuple [.bool is, .int .i64 0] = .tuple [.bool is', .int .i64 e] ∧ (¬ (valid N L ∧ ∀ i, i < P.length → ∀ x ∈ P.getD i [], ok N x) → is' = false ∧ e = 2) ∧ ((valid N L ∧ ∀ i, i < P.length → ∀ x ∈ P.getD i [], ok N x) → e = 0 ∧ (is' = true ↔ Refutes L P)) :=
      fun is hi => ⟨is, 0, rfl, fun e => absurd hv e, fun _ => ⟨rfl, hi⟩⟩
    repeat (first | refine EvO.plain rfl rfl rfl rfl rfl rfl ?_ | refine EvO.plain rfl rfl rfl rfl rfl (by assumption) ?_ | refine EvC.seq ?_ | refine EvC.region rfl ?_ | refine at_normal ?_ | refine EvC.skip ?_)
    by_cases h0 : P.length = 0
    · refine EvO.cons rfl rfl rfl (EvP.quiet rfl (isB (beq_true (by omega))) ?_)
      repeat (first | refine EvO.plain rfl rfl rfl rfl rfl rfl ?_ | refine EvO.nil ?_ | refine at_normal ?_ | refine EvO.off rfl rfl rfl ?_)
      refine EvC.cond (t := true) rfl (fun _ => ?_) (fun e => nomatch e)
      repeat (first | refine EvO.plain rfl rfl rfl rfl rfl rfl ?_ | refine EvC.seq ?_ | refine EvC.region rfl ?_ | refine EvO.nil ?_ | refine at_normal ?_ | refine EvC.ret ?_ | refine at_ret ?_)
      (refine ret_are (vs := [.bool false, .int .i64 0]) rfl rfl ?_)
      exact ⟨fin, done false ⟨fun e => (nomatch e), fun e => by have := e.1; omega⟩⟩
    · refine EvO.cons rfl rfl rfl (EvP.quiet rfl (isB (beq_false (by omega))) ?_)
      have hOB := (D.rows.mono hg.le).at1 (T := TT gt) (t := 22) (e := 35) rfl rfl rfl rfl (k := .i64) (i := (P.length : Int) - 1) (by omega) (by omega)
      obtain ⟨q, b1, b2⟩ := hOB
      have hto : ((P.length : Int) - 1).toNat = P.length - 1 := by omega
      rw [hto] at b2
      have lq := (D.ints (P.length - 1) (by omega)).len_any (T := TT gt) (t := 35) rfl h2
      repeat (first | refine EvO.plain rfl rfl rfl rfl rfl rfl ?_ | refine EvO.plainOn rfl rfl rfl rfl rfl rfl ?_ | refine EvO.plainOn rfl rfl rfl rfl rfl (by assumption) ?_ | refine EvO.on rfl rfl rfl (EvP.sub64 rfl rfl (by omega) ?_))
      by_cases hl : P.getD (P.length - 1) [] = []
      · refine EvO.on rfl rfl rfl (EvP.quiet rfl (isB (q := false) (by rw [hl]; rfl)) ?_)
        clear b1 b2 lq
        repeat (first | refine EvO.plain rfl rfl rfl rfl rfl rfl ?_ | refine EvO.nil ?_ | refine at_normal ?_)
        refine EvC.cond (t := false) rfl (fun e => nomatch e) (fun _ => ?_)
        have f2 := loadAgg (T := TT gt) (t := 24) (off := 0) (n := 2) (r := [.int .i64 N, cl]) (hg2.le _ _ hb1) rfl rfl
        repeat (first | refine EvO.plain rfl rfl rfl rfl rfl rfl ?_ | refine EvO.plain rfl rfl rfl rfl rfl (by assumption) ?_ | refine EvC.seq ?_ | refine EvC.region rfl ?_ | refine at_normal ?_ | refine EvC.skip ?_)
        (refine EvO.cons rfl rfl rfl (EvP.callF rfl rfl rfl rfl (EvF.mono (steps_spec hg.wf (n := N) (by omega) (C.mono hg.le) (D.mono hg.le) hLo hPo (by omega) (by omega)) ?_)))
        rintro _ h3 _ ⟨⟨hl3, hw3⟩, a, k, rfl, hk⟩
        have l4 := l2 h3
        clear l3 f2
        repeat (first | refine EvO.plain rfl rfl rfl rfl rfl rfl ?_ | refine EvO.plain rfl rfl rfl rfl rfl (by assumption) ?_ | refine EvC.seq ?_ | refine EvC.region rfl ?_ | refine EvO.nil ?_ | refine at_normal ?_ | refine EvC.ret ?_)
        (refine ret_are (vs := [.bool (k == (P.length : Int)), .int .i64 0]) rfl rfl ?_)
        refine ⟨⟨AH.le.trans' hg.le hl3, hw3⟩, done _ ?_⟩
        rw [beq_iff_eq, hk]
        exact ⟨fun e => ⟨by omega, hl, e⟩, fun e => e.2.2⟩
      · have hpos : 0 < (P.getD (P.length - 1) []).length := List.length_pos_iff.2 hl
        refine EvO.on rfl rfl rfl (EvP.quiet rfl (isB (q := true) (decide_eq_true (by omega))) ?_)
        repeat (first | refine EvO.plain rfl rfl rfl rfl rfl rfl ?_ | refine EvO.nil ?_ | refine at_normal ?_)
        refine EvC.cond (t := true) rfl (fun _ => ?_) (fun e => nomatch e)
        repeat (first | refine EvO.plain rfl rfl rfl rfl rfl rfl ?_ | refine EvC.seq ?_ | refine EvC.region rfl ?_ | refine EvO.nil ?_ | refine at_normal ?_ | refine EvC.ret ?_ | refine at_ret ?_)
        (refine ret_are (vs := [.bool false, .int .i64 0]) rfl rfl ?_)
        exact ⟨fin, done false ⟨fun e => (nomatch e), fun e => absurd e.2.1 hl⟩⟩
  · refine EvO.cons rfl rfl rfl (EvP.quiet rfl (isB (q := true) (by rw [decide_eq_false hv]; rfl)) ?_)
    repeat (first | refine EvO.nil ?_ | refine at_normal ?_)
    refine EvC.cond (t := true) rfl (fun _ => ?_) (fun e => nomatch e)
    repeat (first | refine EvO.plain rfl rfl rfl rfl rfl rfl ?_ | refine EvC.seq ?_ | refine EvC.region rfl ?_ | refine EvO.nil ?_ | refine at_normal ?_ | refine EvC.ret ?_ | refine at_ret ?_)
    (refine ret_are (vs := [.bool false, .int .i64 2]) rfl rfl ?_)
    exact ⟨fin, false, 2, rfl, fun _ => ⟨rfl, rfl⟩, fun e => absurd e hv⟩
end Pf
end Go.Proofs.YtfjloafebkjadaaGreatDoor
namespace Go.Proofs.YtfjloafebkjadaaGreatDoor
namespace Pf
open Go Go.AI Go.Proofs
variable {gt : Tree (List AV)}
theorem holdsB_neg {m : List Bool} {x : Int} (hx : ok m.length x) : holdsB m (-x) = !holdsB m x := by
  obtain ⟨h0, h1, h2⟩ := hx
  have ha : absI (-x) = absI x := by unfold absI; split <;> split <;> omega
  unfold holdsB
  rw [ha]
  have hd : decide (-x > 0) = !decide (x > 0) := by
    by_cases h : x > 0
    · rw [decide_eq_true h, decide_eq_false (by omega)]; rfl
    · rw [decide_eq_false h, decide_eq_true (by omega)]; rfl
  rw [hd]
  cases m.getD (absI x - 1).toNat false <;> cases decide (x > 0) <;> rfl
/-- What follows by units holds wherever the clauses hold, and what was taken. -/
theorem der_sound {m : List Bool} {all : List (List Int)} {taken : List Int} (ho : ∀ c ∈ all, ∀ x ∈ c, ok m.length x) (ha : ∀ c ∈ all, c.any (holdsB m) = true) (ht : ∀ x ∈ taken, holdsB m x = true) {x : Int} (hd : Der all taken x) : holdsB m x = true := by
  induction hd with
  | tak h => exact ht _ h
  | @unit x c hc hx _ ih =>
    have hOB := List.any_eq_true.1 (ha c hc)
    obtain ⟨y, hy, hh⟩ := hOB
    by_cases e : y = x
    · rw [← e]; exact hh
    · have := ih y hy e
      rw [holdsB_neg (ho c hc y hy), hh] at this
      cases this
theorem clash_sound {m : List Bool} {all : List (List Int)} {taken : List Int} (ho : ∀ c ∈ all, ∀ x ∈ c, ok m.length x) (hot : ∀ x ∈ taken, ok m.length x) (ha : ∀ c ∈ all, c.any (holdsB m) = true) (ht : ∀ x ∈ taken, holdsB m x = true) : ¬ Clash all taken := by
  have oks : ∀ x, Der all taken x → ok m.length x ∧ holdsB m x = true := fun x hd => ⟨by
    cases hd with
    | tak h => exact hot _ h
    | unit hc hx _ => exact ho _ hc _ hx, der_sound ho ha ht hd⟩
  rintro (⟨x, h1, h2⟩ | ⟨c, hc, h⟩)
  · have a := oks x h1
    have b := (oks _ h2).2
    rw [holdsB_neg a.1, a.2] at b
    cases b
  · have hOB := List.any_eq_true.1 (ha c hc)
    obtain ⟨y, hy, hh⟩ := hOB
    have b := (oks _ (h y hy)).2
    rw [holdsB_neg (ho c hc y hy), hh] at b
    cases b
theorem refutes_sound {m : List Bool} {L P : List (List Int)} (hL : ∀ c ∈ L, ∀ x ∈ c, ok m.length x) (hP : ∀ c ∈ P, ∀ x ∈ c, ok m.length x) (hr : Refutes L P) : ¬ ∀ c ∈ L, c.any (holdsB m) = true := by
  intro ha
  obtain ⟨h0, h1, h2⟩ := hr
  have key : ∀ i, i ≤ P.length → ∀ c ∈ P.take i, c.any (holdsB m) = true := by
    intro i
    induction i with
    | zero => intro _ c hc; simp at hc
    | succ i ih =>
      intro hi c hc
      have ht : P.take (i + 1) = P.take i ++ [P.getD i []] := by
        rw [List.take_add_one, List.getD_eq_getElem?_getD, List.getElem?_eq_getElem (by omega)]; rfl
      rw [ht] at hc
      have hOB := List.mem_append.1 hc
      rcases hOB with h | h
      · exact ih (by omega) c h
      · rw [List.mem_singleton.1 h]
        refine Classical.byContradiction fun hn => ?_
        have hpm := getDL_mem (L := P) (j := i) (by omega)
        refine clash_sound (m := m) (all := L ++ P.take i) (taken := neg (P.getD i [])) ?_ ?_ ?_ ?_ (h2 i (by omega))
        · intro d hd x hx
          have hOB := List.mem_append.1 hd
          rcases hOB with h | h
          · exact hL d h x hx
          · exact hP d (List.mem_of_mem_take h) x hx
        · intro x hx
          have hOB := List.mem_map.1 hx
          obtain ⟨y, hy, rfl⟩ := hOB
          exact ok_neg (hP _ hpm y hy)
        · intro d hd
          have hOB := List.mem_append.1 hd
          rcases hOB with h | h
          · exact ha d h
          · exact ih (by omega) d h
        · intro x hx
          have hOB := List.mem_map.1 hx
          obtain ⟨y, hy, rfl⟩ := hOB
          rw [holdsB_neg (hP _ hpm y hy)]
          rw [Bool.not_eq_true, List.any_eq_false] at hn
          have := hn y hy
          simpa using this
  have := key P.length (Nat.le_refl _) (P.getD (P.length - 1) []) (by rw [List.take_length]; exact getDL_mem (by omega))
  rw [h1] at this
  cases this
theorem awake_spec {h : AH} : EvF (TT gt) X 16 [] h (fun r h' => h' = h ∧ r = .bool true) := EvF.oracle (fn := af Tryz.f16) rfl rfl (Nat.le_refl _) ⟨rfl, rfl⟩
set_option maxHeartbeats 4000000 in
theorem law_spec {h : AH} (hw : WF h) {n : Int} {cl pv mv : AV} {L P : List (List Int)} {M : List Bool} {cv pc : Nat → AV} (C : CnfAt h n cl L cv) (D : CnfAt h n pv P pc) (hM : BoolRow h mv M) (nc : NZ cl) (np : NZ pv) (nm : NZ mv) (hb : total L + total P ≤ 2 ^ 60) (hm : L.length + P.length ≤ 2 ^ 29) :
    EvF (TT gt) X 3 [.agg [.int .i64 n, cl], pv, mv] h (fun r _ => r = .bool true) := by
  refine EvF.enter rfl rfl rfl ?_
  repeat (first | refine EvC.seq ?_ | refine EvC.region rfl ?_)
  (refine EvO.cons rfl rfl rfl (EvP.new (b := .cells [.int .i64 n, cl] 24 false) (mk := .ptr) rfl rfl hw (fun h1 b hg1 hb1 hfr => ?_)))
  have f1 := loadAgg (T := TT gt) (t := 24) (off := 0) (n := 2) (r := [.int .i64 n, cl]) hb1 rfl rfl
  repeat (first | refine EvO.plain rfl rfl rfl rfl rfl rfl ?_ | refine EvO.plain rfl rfl rfl rfl rfl (by assumption) ?_ | refine EvC.seq ?_ | refine EvC.region rfl ?_ | refine EvO.nil ?_ | refine at_normal ?_)
  (refine EvO.cons rfl rfl rfl (EvP.callF rfl rfl rfl rfl (EvF.mono (much_spec hg1.wf (C.mono hg1.le) (D.mono hg1.le) nc np hb hm) ?_)))
  rintro _ h2 hn2 ⟨⟨hl2, hw2⟩, rfl⟩
  have hg2 : Grew h1 h2 := ⟨hl2, hw2, hn2⟩
  have hg := hg1.trans hg2
  clear f1
  have f2 := loadAgg (T := TT gt) (t := 24) (off := 0) (n := 2) (r := [.int .i64 n, cl]) (hg2.le _ _ hb1) rfl rfl
  have wake : ∀ {h' : AH}, EvF (TT gt) X 16 [] h' (fun r h'' => h'' = h' ∧ r = .bool true) := awake_spec
  by_cases hmuch : L.length > 2000 ∨ P.length > 2000 ∨ total L + total P > 20000
  · rw [decide_eq_true hmuch]
    repeat (first | refine EvO.plain rfl rfl rfl rfl rfl rfl ?_ | refine EvO.nil ?_ | refine at_normal ?_ | refine EvO.off rfl rfl rfl ?_)
    refine EvC.cond (t := true) rfl (fun _ => ?_) (fun e => nomatch e)
    repeat (first | refine EvC.seq ?_ | refine EvC.region rfl ?_)
    (refine EvO.cons rfl rfl rfl (EvP.callF rfl rfl rfl rfl (EvF.mono (wake) ?_)))
    rintro _ h3 _ ⟨rfl, rfl⟩
    repeat (first | refine EvO.plain rfl rfl rfl rfl rfl rfl ?_ | refine EvO.nil ?_ | refine at_normal ?_ | refine EvC.ret ?_ | refine at_ret ?_)
    (refine ret_is (v := .bool true) rfl rfl ?_)
    rfl
  · rw [decide_eq_false hmuch]
    have hs : L.length ≤ 2000 ∧ P.length ≤ 2000 ∧ total L + total P ≤ 20000 := by omega
    repeat (first | refine EvO.plain rfl rfl rfl rfl rfl rfl ?_ | refine EvO.plainOn rfl rfl rfl rfl rfl (by assumption) ?_)
    (refine EvO.on rfl rfl rfl (EvP.callF rfl rfl rfl rfl (EvF.mono (refValid_spec (facts gt) hg.wf (C.mono hg.le)) ?_)))
    rintro _ h3 _ ⟨hg3, rfl⟩
    have hg' := hg.trans hg3
    clear f2
    by_cases hv : valid n L
    · rw [decide_eq_true hv]
      repeat (first | refine EvO.plain rfl rfl rfl rfl rfl rfl ?_ | refine EvO.nil ?_ | refine at_normal ?_ | refine EvO.plainOn rfl rfl rfl rfl rfl rfl ?_)
      refine EvC.cond (t := false) rfl (fun e => nomatch e) (fun _ => ?_)
      have f3 := loadAgg (T := TT gt) (t := 24) (off := 0) (n := 2) (r := [.int .i64 n, cl]) (hg3.le _ _ (hg2.le _ _ hb1)) rfl rfl
      repeat (first | refine EvO.plain rfl rfl rfl rfl rfl rfl ?_ | refine EvO.plain rfl rfl rfl rfl rfl (by assumption) ?_ | refine EvC.seq ?_ | refine EvC.region rfl ?_ | refine at_normal ?_ | refine EvC.skip ?_)
      (refine EvO.cons rfl rfl rfl (EvP.callF rfl rfl rfl rfl (EvF.mono (check_spec hg'.wf (C.mono hg'.le) (D.mono hg'.le) (by omega) (by omega)) ?_)))
      rintro _ h4 hn4 ⟨⟨hl4, hw4⟩, is, e, rfl, hbad, hgood⟩
      have hg4 : Grew h3 h4 := ⟨hl4, hw4, hn4⟩
      have hg'' := hg'.trans hg4
      have hb4 := hg4.le _ _ (hg3.le _ _ (hg2.le _ _ hb1))
      clear f3
      repeat (first | refine EvO.plain rfl rfl rfl rfl rfl rfl ?_ | refine EvC.seq ?_ | refine EvC.region rfl ?_ | refine EvO.nil ?_ | refine at_normal ?_)
      by_cases hok : valid n L ∧ ∀ i, i < P.length → ∀ x ∈ P.getD i [], ok n x
      · have hOB := hgood hok
        obtain ⟨rfl, his⟩ := hOB
        refine EvO.cons rfl rfl rfl (EvP.quiet rfl (isB (q := false) rfl) ?_)
        cases is with
        | false =>
          repeat (first | refine EvO.plain rfl rfl rfl rfl rfl rfl ?_ | refine EvO.nil ?_ | refine at_normal ?_ | refine EvO.plainOn rfl rfl rfl rfl rfl rfl ?_)
          refine EvC.cond (t := true) rfl (fun _ => ?_) (fun e => nomatch e)
          repeat (first | refine EvC.seq ?_ | refine EvC.region rfl ?_)
          (refine EvO.cons rfl rfl rfl (EvP.callF rfl rfl rfl rfl (EvF.mono (wake) ?_)))
          rintro _ h5 _ ⟨rfl, rfl⟩
          repeat (first | refine EvO.plain rfl rfl rfl rfl rfl rfl ?_ | refine EvO.nil ?_ | refine at_normal ?_ | refine EvC.ret ?_ | refine at_ret ?_)
          (refine ret_is (v := .bool true) rfl rfl ?_)
          rfl
        | true =>
          have hr := his.1 rfl
          repeat (first | refine EvO.plain rfl rfl rfl rfl rfl rfl ?_ | refine EvO.nil ?_ | refine at_normal ?_ | refine EvO.plainOn rfl rfl rfl rfl rfl rfl ?_)
          refine EvC.cond (t := false) rfl (fun e => nomatch e) (fun _ => ?_)
          obtain ⟨v0, v1, v2, v3, v4⟩ := hv
          have hOB : ∃ N : Nat, n = N := ⟨n.toNat, by omega⟩
          obtain ⟨N, rfl⟩ := hOB
          have f5 := load1 (T := TT gt) (t := 3) (off := 0) hb4 rfl rfl rfl
          repeat (first | refine EvO.plain rfl rfl rfl rfl rfl rfl ?_ | refine EvO.plain rfl rfl rfl rfl rfl (by assumption) ?_ | refine EvC.seq ?_ | refine EvC.region rfl ?_ | refine at_normal ?_ | refine EvC.skip ?_)
          clear f5
          have S4 := HS.all hw4
          (refine EvO.cons rfl rfl rfl (EvP.newC S4 1 rfl (make_vec (T := TT gt) (n := N) (t := 25) rfl rfl rfl (by omega) (by show ((N : Nat) : Int) * (1 : Nat) ≤ ((70368744177664 : Nat) : Int); omega)) (by decide) (fun h5 id col5 A5 S5 g5 c5 _ => ?_)))
          have V5 : Vec col5 1 h5 4 1 (.slice id 0 N N true) N (List.replicate N (.bool false)) := .mk (tail := []) (by rw [List.append_nil, ← rep_one]; exact g5) c5 (by simp) (fun _ => ⟨Nat.le_refl _, by simp⟩)
          repeat (first | refine EvO.plain rfl rfl rfl rfl rfl rfl ?_ | refine EvC.seq ?_ | refine EvC.region rfl ?_ | refine EvO.nil ?_ | refine at_normal ?_)
          (refine EvO.cons rfl rfl rfl (EvP.copyC S5 V5 (by decide) (hM.mono (AH.le.trans' hg''.le S5.le)) nm (fun _ _ => rfl) rfl rfl rfl rfl rfl rfl rfl rfl (fun h6 A6 S6 V6 => ?_)))
          have hcells : (List.range (Nat.min M.length N)).map (fun i => AV.bool (M.getD i false)) ++ (List.replicate N (AV.bool false)).drop (Nat.min M.length N) = (M.take N ++ List.replicate (N - M.length) false).map AV.bool := by
            apply List.ext_getElem?
            intro i
            have hmin : Nat.min M.length N = min M.length N := rfl
            rw [hmin]
            have hOB := Nat.lt_or_ge i (min M.length N)
            rcases hOB with h1 | h1
            · rw [List.getElem?_append_left (by simpa using h1), List.getElem?_map, List.getElem?_range h1, List.getElem?_map, List.getElem?_append_left (by simp; omega), List.getElem?_take, if_pos (by omega)]
              show some (AV.bool (M.getD i false)) = Option.map AV.bool M[i]?
              rw [List.getD_eq_getElem?_getD, List.getElem?_eq_getElem (by omega)]
              rfl
            · rw [List.getElem?_append_right (by simpa using h1), List.getElem?_drop, List.getElem?_map, List.getElem?_append_right (by simp; omega)]
              simp only [List.length_map, List.length_range, List.length_take, List.getElem?_replicate]
              by_cases h2 : i < N
              · rw [if_pos (by omega), if_pos (by omega)]; rfl
              · rw [if_neg (by omega), if_neg (by omega)]; rfl
          rw [hcells] at V6
          have hBl : (M.take N ++ List.replicate (N - M.length) false).length = N := by simp; omega
          generalize M.take N ++ List.replicate (N - M.length) false = B at *
          have hBrow : BoolRow h6 (.slice id 0 N N true) B := by
            have := V6.row
            rw [← hBl] at this ⊢
            refine this.congr fun i hi => ?_
            rw [Nat.mul_one, List.take_one, List.head?_drop, List.getElem?_map, List.getElem?_eq_getElem hi, List.getD_eq_getElem?_getD, List.getElem?_eq_getElem hi]
            rfl
          have hle6 : h.le h6 := AH.le.trans' hg''.le S6.le
          have f6 := load1 (T := TT gt) (t := 22) (off := 1) (S6.le _ _ hb4) rfl rfl rfl
          repeat (first | refine EvO.plain rfl rfl rfl rfl rfl rfl ?_ | refine EvO.plain rfl rfl rfl rfl rfl (by assumption) ?_ | refine EvC.seq ?_ | refine EvC.region rfl ?_ | refine EvO.nil ?_ | refine at_normal ?_)
          (refine EvO.cons rfl rfl rfl (EvP.callF rfl rfl rfl rfl (EvF.mono (refAll_spec (facts gt) (C.mono hle6) hBrow (by omega) (fun i hi x hx => by rw [hBl]; exact v4 i hi x hx)) ?_)))
          rintro _ h7 _ ⟨rfl, rfl⟩
          have hno : ¬ allB L B := fun e => by
            refine refutes_sound (m := B) (L := L) (P := P) (fun c hc x hx => ?_) (fun c hc x hx => ?_) hr fun c hc => ?_
            · have hOB := List.getElem_of_mem hc
              obtain ⟨i, hi, rfl⟩ := hOB
              rw [hBl]
              refine v4 i hi x ?_
              rw [List.getD_eq_getElem?_getD, List.getElem?_eq_getElem hi]; exact hx
            · have hOB := List.getElem_of_mem hc
              obtain ⟨i, hi, rfl⟩ := hOB
              rw [hBl]
              refine hok.2 i hi x ?_
              rw [List.getD_eq_getElem?_getD, List.getElem?_eq_getElem hi]; exact hx
            · have hOB := List.getElem_of_mem hc
              obtain ⟨i, hi, rfl⟩ := hOB
              have := e i hi
              rwa [List.getD_eq_getElem?_getD, List.getElem?_eq_getElem hi] at this
          rw [decide_eq_false hno]
          clear f6
          repeat (refine EvO.plain rfl rfl rfl rfl rfl rfl ?_)
          (refine EvO.on rfl rfl rfl (EvP.callF rfl rfl rfl rfl (EvF.mono (wake) ?_)))
          rintro _ h8 _ ⟨rfl, rfl⟩
          repeat (first | refine EvO.plain rfl rfl rfl rfl rfl rfl ?_ | refine EvO.nil ?_ | refine at_normal ?_ | refine EvC.ret ?_)
          (refine ret_is (v := .bool true) rfl rfl ?_)
          rfl
      · have hOB := hbad hok
        obtain ⟨rfl, rfl⟩ := hOB
        refine EvO.cons rfl rfl rfl (EvP.quiet rfl (isB (q := true) rfl) ?_)
        repeat (first | refine EvO.plain rfl rfl rfl rfl rfl rfl ?_ | refine EvO.nil ?_ | refine at_normal ?_ | refine EvO.off rfl rfl rfl ?_)
        refine EvC.cond (t := true) rfl (fun _ => ?_) (fun e => nomatch e)
        repeat (first | refine EvC.seq ?_ | refine EvC.region rfl ?_)
        (refine EvO.cons rfl rfl rfl (EvP.callF rfl rfl rfl rfl (EvF.mono (wake) ?_)))
        rintro _ h5 _ ⟨rfl, rfl⟩
        repeat (first | refine EvO.plain rfl rfl rfl rfl rfl rfl ?_ | refine EvO.nil ?_ | refine at_normal ?_ | refine EvC.ret ?_ | refine at_ret ?_)
        (refine ret_is (v := .bool true) rfl rfl ?_)
        rfl
    · rw [decide_eq_false hv]
      repeat (first | refine EvO.plain rfl rfl rfl rfl rfl rfl ?_ | refine EvO.nil ?_ | refine at_normal ?_ | refine EvO.plainOn rfl rfl rfl rfl rfl rfl ?_)
      refine EvC.cond (t := true) rfl (fun _ => ?_) (fun e => nomatch e)
      repeat (first | refine EvC.seq ?_ | refine EvC.region rfl ?_)
      (refine EvO.cons rfl rfl rfl (EvP.callF rfl rfl rfl rfl (EvF.mono (wake) ?_)))
      rintro _ h4 _ ⟨rfl, rfl⟩
      repeat (first | refine EvO.plain rfl rfl rfl rfl rfl rfl ?_ | refine EvO.nil ?_ | refine at_normal ?_ | refine EvC.ret ?_ | refine at_ret ?_)
      (refine ret_is (v := .bool true) rfl rfl ?_)
      rfl
end Pf
end Go.Proofs.YtfjloafebkjadaaGreatDoor
