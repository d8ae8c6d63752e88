/- What the reference's Check and Step answer. -/
import Derived.Test.YtfjloafebkjadaaGreatDoorPfH
namespace Go.Proofs.YtfjloafebkjadaaGreatDoor
namespace Pf
open Go Go.AI Go.Proofs
variable {gt : Tree (List AV)}
theorem rproof_spec {h : AH} (hw : WF h) {n : Int} (hn : 0 ≤ n ∧ n ≤ 1000000) {cl pv : AV} {P : List (List Int)} {pc : Nat → AV} (D : CnfAt h n pv P pc) (hm : P.length ≤ 200000) :
    EvF (TT gt) X 38 [.agg [.int .i64 n, cl], pv] h (fun r h' => Grew h h' ∧ r = .bool (decide (∀ i, i < P.length → ∀ x ∈ P.getD i [], ok n x))) := by
  have lp := fun h' => D.rows.len_any (T := TT gt) (t := 22) rfl h'
  refine EvF.enter rfl rfl rfl ?_
  repeat (first | refine EvC.seq ?_ | refine EvC.region rfl ?_)
  (refine EvO.cons rfl rfl rfl (EvP.new (b := .cells [.int .i64 n, cl] 24 false) (mk := .ptr) rfl rfl hw (fun h1 b hg1 hb1 hfr => ?_)))
  have lp1 := lp h1
  repeat (first | refine EvO.plain rfl rfl rfl rfl rfl rfl ?_ | refine EvO.plain rfl rfl rfl rfl rfl (by assumption) ?_ | refine EvC.seq ?_ | refine EvC.region rfl ?_ | refine EvO.nil ?_ | refine at_normal ?_)
  refine EvC.cond (t := false) (isT (decide_eq_false (by omega))) (fun e => nomatch e) (fun _ => ?_)
  repeat (first | refine EvO.plain rfl rfl rfl rfl rfl rfl ?_ | refine EvO.plain rfl rfl rfl rfl rfl (by assumption) ?_ | refine EvC.seq ?_ | refine EvC.region rfl ?_ | refine EvO.nil ?_ | refine at_normal ?_ | refine EvC.skip ?_ | refine EvC.block ?_)
  clear lp1
  have f1 := load1 (T := TT gt) (t := 3) (off := 0) hb1 rfl rfl rfl
  refine EvC.loop (fun m σ h' => h' = h1 ∧ ∃ (i : Nat) (E : Nat → AV), (∀ j, j < i → ∀ x ∈ P.getD j [], ok n x) ∧ i ≤ P.length ∧ m = P.length - i ∧ σ = upds [(2, .ptr b 0), (10, pv), (11, .int .i64 P.length), (12, .int .i64 i)] E) (P.length) ?_ ?_
  · exact ⟨rfl, 0, _, fun j hj => absurd hj (Nat.not_lt_zero _), Nat.zero_le _, rfl, hold ⟨rfl, rfl, rfl, rfl, trivial⟩⟩
  · rintro m _ h1 ⟨rfl, i, E, hp, hi, rfl, rfl⟩
    repeat (first | refine EvO.plain rfl rfl rfl rfl rfl rfl ?_ | refine EvC.seq ?_ | refine EvC.region rfl ?_ | refine EvO.nil ?_ | refine at_normal ?_)
    refine EvC.decide rfl (fun hc => ?_) (fun hc => ?_)
    · have hlt : i < P.length := by omega
      obtain ⟨q, b1, b2⟩ := (D.rows.mono hg1.le).at1 (T := TT gt) (t := 22) (e := 35) rfl rfl rfl rfl (k := .i64) (i := i) (by omega) (by omega)
      rw [Int.toNat_natCast] at b2
      have hlen := D.lens _ (getDL_mem hlt)
      repeat (first | refine EvO.plain rfl rfl rfl rfl rfl rfl ?_ | refine EvO.plain rfl rfl rfl rfl rfl (by assumption) ?_ | refine EvC.seq ?_ | refine EvC.region rfl ?_ | refine EvO.nil ?_ | refine at_normal ?_ | refine EvC.skip ?_ | refine EvC.block ?_)
      (refine EvO.cons rfl rfl rfl (EvP.callF rfl rfl rfl rfl (EvF.mono (clause_spec (facts gt) ((D.ints i hlt).mono hg1.le) (by omega) n hn) ?_)))
      rintro _ h1 _ ⟨rfl, rfl⟩
      clear b1 b2
      by_cases hw1 : ∀ x ∈ P.getD i [], ok n x
      · refine EvO.cons rfl rfl rfl (EvP.quiet rfl (isB (q := false) (by rw [decide_eq_true hw1]; rfl)) ?_)
        repeat (first | refine EvO.nil ?_ | refine at_normal ?_)
        refine EvC.cond (t := false) rfl (fun e => nomatch e) (fun _ => ?_)
        repeat (first | refine EvO.plain rfl rfl rfl rfl rfl rfl ?_ | refine EvC.region rfl ?_ | refine EvO.nil ?_ | refine at_normal ?_ | refine EvC.skip ?_ | refine be_normal ?_ | refine ro_normal ?_ | refine EvO.cons rfl rfl rfl (EvP.add64 rfl rfl (by omega) ?_))
        exact ⟨P.length - (i + 1), by omega, rfl, i + 1, _, fun j hj => (Nat.lt_succ_iff_lt_or_eq.1 hj).elim (hp j) (fun e => e ▸ hw1), by omega, rfl, hold ⟨rfl, rfl, rfl, rfl, trivial⟩⟩
      · refine EvO.cons rfl rfl rfl (EvP.quiet rfl (isB (q := true) (by rw [decide_eq_false hw1]; rfl)) ?_)
        repeat (first | refine EvO.nil ?_ | refine at_normal ?_)
        refine EvC.cond (t := true) rfl (fun _ => ?_) (fun e => nomatch e)
        repeat (first | refine EvO.plain rfl rfl rfl rfl rfl rfl ?_ | refine EvC.seq ?_ | refine EvC.region rfl ?_ | refine EvO.nil ?_ | refine at_normal ?_ | refine EvC.ret ?_ | refine at_ret ?_ | refine be_ret ?_ | refine ro_ret ?_)
        (refine ret_is (v := .bool false) rfl rfl ?_)
        exact ⟨hg1, congrArg AV.bool (decide_eq_false (fun e => hw1 (e i hlt))).symm⟩
    · have hend : i = P.length := by omega
      subst hend
      repeat (first | refine EvO.plain rfl rfl rfl rfl rfl rfl ?_ | refine EvC.seq ?_ | refine EvC.region rfl ?_ | refine EvO.nil ?_ | refine at_normal ?_ | refine EvC.ret ?_ | refine EvC.exit ?_ | refine at_exit ?_ | refine be_same rfl ?_ | refine ro_exit ?_)
      (refine ret_is (v := .bool true) rfl rfl ?_)
      exact ⟨hg1, congrArg AV.bool (decide_eq_true hp).symm⟩
theorem lits_ok {n : Int} {P : List (List Int)} (h : ∀ i, i < P.length → ∀ x ∈ P.getD i [], ok n x) : ∀ l ∈ P, ∀ x ∈ l, ok n x := fun l hl x hx => by
  obtain ⟨i, hi, rfl⟩ := List.getElem_of_mem hl
  refine h i hi x ?_
  rw [List.getD_eq_getElem?_getD, List.getElem?_eq_getElem hi]; exact hx
/-- What Check says, the program's and the reference's. -/
def CheckSays (n : Int) (L P : List (List Int)) (r : AV) : Prop := ∃ is e, r = .tuple [.bool is, .int .i64 e] ∧
  (¬ (valid n L ∧ ∀ i, i < P.length → ∀ x ∈ P.getD i [], ok n x) → is = false ∧ e = 2) ∧ ((valid n L ∧ ∀ i, i < P.length → ∀ x ∈ P.getD i [], ok n x) → e = 0 ∧ (is = true ↔ Refutes L P))
theorem rcheck_spec {h : AH} (hw : WF h) {n : Int} {cl pv : AV} {L P : List (List Int)} {cv pc : Nat → AV} (C : CnfAt h n cl L cv) (D : CnfAt h n pv P pc) (nc : NZ cl) (hm : P.length ≤ 200000) (hb : ∀ l ∈ P, l.length ≤ 2 ^ 36) :
    EvF (TT gt) X 21 [.agg [.int .i64 n, cl], pv] h (fun r h' => (h.le h' ∧ WF h') ∧ CheckSays n L P r) := by
  refine EvF.enter rfl rfl rfl ?_
  repeat (first | refine EvC.seq ?_ | refine EvC.region rfl ?_)
  (refine EvO.cons rfl rfl rfl (EvP.new (b := .cells [.int .i64 n, cl] 24 false) (mk := .ptr) rfl rfl hw (fun h1 b hg1 hb1 hfr => ?_)))
  have f1 := loadAgg (T := TT gt) (t := 24) (off := 0) (n := 2) (r := [.int .i64 n, cl]) hb1 rfl rfl
  repeat (first | refine EvO.plain rfl rfl rfl rfl rfl rfl ?_ | refine EvO.plain rfl rfl rfl rfl rfl (by assumption) ?_ | refine EvC.seq ?_ | refine EvC.region rfl ?_ | refine EvO.nil ?_ | refine at_normal ?_)
  (refine EvO.cons rfl rfl rfl (EvP.callF rfl rfl rfl rfl (EvF.mono (refValid_spec (facts gt) hg1.wf (C.mono hg1.le)) ?_)))
  rintro _ h2 _ ⟨hg2, rfl⟩
  have hg := hg1.trans hg2
  clear f1
  have bad : ∀ {h' : AH}, Grew h h' → ¬ (valid n L ∧ ∀ i, i < P.length → ∀ x ∈ P.getD i [], ok n x) → (h.le h' ∧ WF h') ∧ CheckSays n L P (.tuple [.bool false, .int .i64 2]) := fun hg hv => ⟨⟨hg.le, hg.wf⟩, false, 2, rfl, fun _ => ⟨rfl, rfl⟩, fun e => absurd e hv⟩
  by_cases hv : valid n L
  · rw [decide_eq_true hv]
    have f2 := loadAgg (T := TT gt) (t := 24) (off := 0) (n := 2) (r := [.int .i64 n, cl]) (hg2.le _ _ hb1) rfl rfl
    have hvv := hv
    obtain ⟨v0, v1, v2, v3, v4⟩ := hvv
    repeat (first | refine EvO.plain rfl rfl rfl rfl rfl rfl ?_ | refine EvO.plainOn rfl rfl rfl rfl rfl rfl ?_ | refine EvO.plainOn rfl rfl rfl rfl rfl (by assumption) ?_)
    refine EvO.on rfl rfl rfl (EvP.callF rfl rfl rfl rfl (EvF.mono (rproof_spec hg.wf ⟨v0, by omega⟩ (D.mono hg.le) hm) ?_))
    rintro _ h3 _ ⟨hg3, rfl⟩
    have hg' := hg.trans hg3
    clear f2
    by_cases hp : ∀ i, i < P.length → ∀ x ∈ P.getD i [], ok n x
    · rw [decide_eq_true hp]
      repeat (first | refine EvO.plain rfl rfl rfl rfl rfl rfl ?_ | refine EvO.nil ?_ | refine at_normal ?_ | refine EvO.plainOn rfl rfl rfl rfl rfl rfl ?_)
      refine EvC.cond (t := false) rfl (fun e => nomatch e) (fun _ => ?_)
      have b3 := hg3.le _ _ (hg2.le _ _ hb1)
      have f3 := load1 (T := TT gt) (t := 3) (off := 0) b3 rfl rfl rfl
      have f4 := load1 (T := TT gt) (t := 22) (off := 1) b3 rfl rfl rfl
      obtain ⟨N, rfl⟩ : ∃ N : Nat, n = N := ⟨n.toNat, by omega⟩
      repeat (first | refine EvO.plain rfl rfl rfl rfl rfl rfl ?_ | refine EvO.plain rfl rfl rfl rfl rfl (by assumption) ?_ | refine EvC.seq ?_ | refine EvC.region rfl ?_ | refine at_normal ?_ | refine EvC.skip ?_)
      (refine EvO.cons rfl rfl rfl (EvP.callF rfl rfl rfl rfl (EvF.mono (refutes_spec hg'.wf (n := N) (by omega) (C.mono hg'.le) (D.mono hg'.le) nc (lits_ok v4) (lits_ok hp) hb (by omega)) ?_)))
      rintro _ h4 _ ⟨⟨hl4, hw4⟩, b', rfl, hbb⟩
      clear f3 f4
      repeat (first | refine EvO.plain rfl rfl rfl rfl rfl rfl ?_ | refine EvO.nil ?_ | refine at_normal ?_ | refine EvC.ret ?_)
      (refine ret_are (vs := [.bool b', .int .i64 0]) rfl rfl ?_)
      exact ⟨⟨AH.le.trans' hg'.le hl4, hw4⟩, b', 0, rfl, fun e => absurd ⟨hv, hp⟩ e, fun _ => ⟨rfl, hbb⟩⟩
    · rw [decide_eq_false hp]
      repeat (first | refine EvO.plain rfl rfl rfl rfl rfl rfl ?_ | refine EvO.nil ?_ | refine at_normal ?_ | refine EvO.plainOn rfl rfl rfl rfl rfl rfl ?_)
      refine EvC.cond (t := true) rfl (fun _ => ?_) (fun e => nomatch e)
      repeat (first | refine EvO.plain rfl rfl rfl rfl rfl rfl ?_ | refine EvC.seq ?_ | refine EvC.region rfl ?_ | refine EvO.nil ?_ | refine at_normal ?_ | refine EvC.ret ?_ | refine at_ret ?_)
      (refine ret_are (vs := [.bool false, .int .i64 2]) rfl rfl ?_)
      exact bad hg' (fun e => hp e.2)
  · rw [decide_eq_false hv]
    repeat (first | refine EvO.plain rfl rfl rfl rfl rfl rfl ?_ | refine EvO.nil ?_ | refine at_normal ?_ | refine EvO.off rfl rfl rfl ?_)
    refine EvC.cond (t := true) rfl (fun _ => ?_) (fun e => nomatch e)
    repeat (first | refine EvO.plain rfl rfl rfl rfl rfl rfl ?_ | refine EvC.seq ?_ | refine EvC.region rfl ?_ | refine EvO.nil ?_ | refine at_normal ?_ | refine EvC.ret ?_ | refine at_ret ?_)
    (refine ret_are (vs := [.bool false, .int .i64 2]) rfl rfl ?_)
    exact bad hg (fun e => hv e.1)
end Pf
end Go.Proofs.YtfjloafebkjadaaGreatDoor
namespace Go.Proofs.YtfjloafebkjadaaGreatDoor
namespace Pf
open Go Go.AI Go.Proofs
variable {gt : Tree (List AV)}
theorem EvH_newC {T : Tab} {X : Oracle} {n m j : Nat} {σ : Nat → AV} {h G G0 : AH} {col : Nat → Nat} {ops : List Oper} {s : PStep} {p : List PStep} {o : Oper} {d : Nat} {b : AObj} {mk : Mk} {Q : (Nat → AV) → AH → Prop} (S : HS G0 h col) (c : Nat) (hc0 : c ≠ 0) (hj : Nat.beq s.lo j = true) (hs : s.eff = false) (h1 : Nat.ble s.hi s.lo = true) (ho : lget ops s.idx = some o) (hg : o.guard = none) (hd : o.dst = some d) (hn : Nat.ble (d + 1) n = true) (hk : kindOf T o.op = .fresh) (hv : ffresh T (evf σ) o.op = some (b, mk))
    (H : ∀ h1 id col1, Step (fun x => x = c) col h col1 h1 → HS G0 h1 col1 → h.le h1 → h1.t.get id = some b → col1 id = c → EvH T X m G j n ops p (upd σ d (mk.av id)) h1 Q) : EvH T X m G j n ops (s :: p) σ h Q := by
  have hn : d < n := Nat.le_of_ble_eq_true hn
  have h1 := Nat.le_of_ble_eq_true h1
  have A := new_step S.wf S.fresh b c
  have hnone : h.t.get h.next = none := S.wf _ (Nat.le_refl _)
  have hle : h.le (h.new b).2 := AH.le_new b hnone
  obtain ⟨K', e, h'', g1, g2, g3⟩ := H _ _ _ A (S.step A (fun e => hc0 e.symm)) hle (get_new ..) (recol_same ..)
  refine ⟨K' + 2, e, h'', fun env he k hk' => ?_, Nat.le_trans A.nx g2, g3⟩
  obtain ⟨j', rfl, hj'⟩ := up hk'
  obtain ⟨i, rfl, hi⟩ := up hj'
  obtain ⟨rs, env2, b1, b2, b3⟩ := g1 (env.put d (mk.av h.next)) (by rw [at_upd, he]) (i + 1) (by omega)
  have hv' : afresh T env o.op = some (b, mk) := by rw [ffresh_eq, aev_evf, he]; exact hv
  have hop : aop T X (i + 1) env h o.op = some (mk.av h.next, (h.new b).2) := by simp only [aop, hk, hv', hnone]
  have hgo : guardOk env ops o = some true := by simp only [guardOk, hg]
  refine ⟨⟨s, o, env, h, true, mk.av h.next, (h.new b).2⟩ :: rs, env2, b1, by simp only [arun, ho, hgo, hop, putDst, hd, if_pos hn, if_neg (Nat.not_lt.2 A.nx), b2], Nat.eq_of_beq_eq_true hj, (fun e => nomatch hs.symm.trans e), (fun _ _ e => nomatch hk.symm.trans e), G, ?_, (fun _ _ e => e), (fun _ _ hl _ => absurd h1 (Nat.not_le.2 hl))⟩
  show Stays T m _ (if s.eff then j + 1 else j) rs
  rw [hs]; exact b3
/-- What Step says. -/
def StepSays (n : Int) (L P : List (List Int)) (l : List Int) (r : AV) : Prop := ∃ is e, r = .tuple [.bool is, .int .i64 e] ∧
  (¬ ((valid n L ∧ ∀ i, i < P.length → ∀ x ∈ P.getD i [], ok n x) ∧ ∀ x ∈ l, ok n x) → is = false ∧ e = 2) ∧ (((valid n L ∧ ∀ i, i < P.length → ∀ x ∈ P.getD i [], ok n x) ∧ ∀ x ∈ l, ok n x) → e = 0 ∧ (is = true ↔ Clash (L ++ P) (neg l)))
theorem two_cells {h : AH} {n : Int} {cl pv : AV} {L P : List (List Int)} {cv pc : Nat → AV} (C : CnfAt h n cl L cv) (D : CnfAt h n pv P pc) : ∀ i, i < (L ++ P).length → ∃ a, ((List.range L.length).map cv ++ (List.range P.length).map pc)[i]? = some a ∧ IntRow h a ((L ++ P).getD i []) := fun i hi => by
  rw [List.length_append] at hi
  rw [List.getD_eq_getElem?_getD]
  rcases Nat.lt_or_ge i L.length with hl | hl
  · rw [List.getElem?_append_left (by simpa using hl), List.getElem?_append_left hl, ← List.getD_eq_getElem?_getD]
    exact ⟨cv i, by simp [hl], C.ints i hl⟩
  · rw [List.getElem?_append_right (by simpa using hl), List.getElem?_append_right hl, ← List.getD_eq_getElem?_getD]
    refine ⟨pc (i - L.length), ?_, D.ints _ (by omega)⟩
    rw [List.length_map, List.length_range, List.getElem?_map, List.getElem?_range (by omega)]
    rfl
theorem rstep27_spec {h : AH} (hw : WF h) {n : Int} {cl pv lv : AV} {L P : List (List Int)} {l : List Int} {cv pc : Nat → AV} (C : CnfAt h n cl L cv) (D : CnfAt h n pv P pc) (row : IntRow h lv l) (nc : NZ cl) (np : NZ pv) (hm : P.length ≤ 200000) (hl : l.length ≤ 2 ^ 36) :
    EvF (TT gt) X 37 [.agg [.int .i64 n, cl], pv, lv] h (fun r h' => (h.le h' ∧ WF h') ∧ StepSays n L P l r) := by
  refine EvF.enter rfl rfl rfl ?_
  repeat (first | refine EvC.seq ?_ | refine EvC.region rfl ?_)
  (refine EvO.cons rfl rfl rfl (EvP.new (b := .cells [.int .i64 n, cl] 24 false) (mk := .ptr) rfl rfl hw (fun h1 b hg1 hb1 hfr => ?_)))
  have f1 := loadAgg (T := TT gt) (t := 24) (off := 0) (n := 2) (r := [.int .i64 n, cl]) hb1 rfl rfl
  repeat (first | refine EvO.plain rfl rfl rfl rfl rfl rfl ?_ | refine EvO.plain rfl rfl rfl rfl rfl (by assumption) ?_ | refine EvC.seq ?_ | refine EvC.region rfl ?_ | refine EvO.nil ?_ | refine at_normal ?_)
  (refine EvO.cons rfl rfl rfl (EvP.callF rfl rfl rfl rfl (EvF.mono (refValid_spec (facts gt) hg1.wf (C.mono hg1.le)) ?_)))
  rintro _ h2 _ ⟨hg2, rfl⟩
  have hg := hg1.trans hg2
  clear f1
  have bad : ∀ {h' : AH}, Grew h h' → ¬ ((valid n L ∧ ∀ i, i < P.length → ∀ x ∈ P.getD i [], ok n x) ∧ ∀ x ∈ l, ok n x) → (h.le h' ∧ WF h') ∧ StepSays n L P l (.tuple [.bool false, .int .i64 2]) := fun hg hv => ⟨⟨hg.le, hg.wf⟩, false, 2, rfl, fun _ => ⟨rfl, rfl⟩, fun e => absurd e hv⟩
  by_cases hv : valid n L
  · rw [decide_eq_true hv]
    have f2 := loadAgg (T := TT gt) (t := 24) (off := 0) (n := 2) (r := [.int .i64 n, cl]) (hg2.le _ _ hb1) rfl rfl
    have hvv := hv
    obtain ⟨v0, v1, v2, v3, v4⟩ := hvv
    repeat (first | refine EvO.plain rfl rfl rfl rfl rfl rfl ?_ | refine EvO.plainOn rfl rfl rfl rfl rfl rfl ?_ | refine EvO.plainOn rfl rfl rfl rfl rfl (by assumption) ?_)
    refine EvO.on rfl rfl rfl (EvP.callF rfl rfl rfl rfl (EvF.mono (rproof_spec hg.wf ⟨v0, by omega⟩ (D.mono hg.le) hm) ?_))
    rintro _ h3 _ ⟨hg3, rfl⟩
    have hg' := hg.trans hg3
    clear f2
    by_cases hp : ∀ i, i < P.length → ∀ x ∈ P.getD i [], ok n x
    · rw [decide_eq_true hp]
      have b3 := hg3.le _ _ (hg2.le _ _ hb1)
      have f3 := load1 (T := TT gt) (t := 3) (off := 0) b3 rfl rfl rfl
      repeat (first | refine EvO.plain rfl rfl rfl rfl rfl rfl ?_ | refine EvO.plainOn rfl rfl rfl rfl rfl rfl ?_ | refine EvO.plainOn rfl rfl rfl rfl rfl (by assumption) ?_)
      refine EvO.on rfl rfl rfl (EvP.callF rfl rfl rfl rfl (EvF.mono (clause_spec (facts gt) (row.mono hg'.le) (by omega) n ⟨v0, by omega⟩) ?_))
      rintro _ h3 _ ⟨rfl, rfl⟩
      by_cases hlo : ∀ x ∈ l, ok n x
      · rw [decide_eq_true hlo]
        repeat (first | refine EvO.plain rfl rfl rfl rfl rfl rfl ?_ | refine EvO.nil ?_ | refine at_normal ?_ | refine EvO.plainOn rfl rfl rfl rfl rfl rfl ?_)
        refine EvC.cond (t := false) rfl (fun e => nomatch e) (fun _ => ?_)
        obtain ⟨N, rfl⟩ : ∃ N : Nat, n = N := ⟨n.toNat, by omega⟩
        have f4 := load1 (T := TT gt) (t := 22) (off := 1) b3 rfl rfl rfl
        have hle : h3.le h3 := fun _ _ e => e
        have q1 := D.rows.veq
        have q2 := row.veq
        have S3 := HS.all hg'.wf
        repeat (first | refine EvC.seq ?_ | refine at_normal ?_ | refine EvC.skip ?_)
        refine EvC.drawnH 9 (h3) (p := [⟨0, false, 0, 2⟩, ⟨1, false, 0, 2⟩, ⟨2, false, 0, 0⟩, ⟨3, false, 0, 0⟩, ⟨4, false, 0, 0⟩, ⟨6, false, 0, 1⟩, ⟨8, false, 0, 2⟩, ⟨5, true, 0, 1⟩, ⟨7, true, 1, 2⟩, ⟨9, true, 2, 3⟩, ⟨10, false, 3, 3⟩, ⟨11, false, 3, 3⟩]) rfl (by kernel_rfl) (by kernel_rfl) ?_
        repeat (first | refine EvH.easyG (by assumption) rfl rfl rfl rfl rfl rfl rfl rfl rfl rfl (by first | exact veq_s rfl | assumption) ?_ | refine EvH.easyG (by assumption) rfl rfl rfl rfl rfl rfl rfl rfl rfl (by assumption) (by first | exact veq_s rfl | assumption) ?_)
        refine EvH_newC (b := .cells [] 35 false) (mk := .slice 0 0 true) S3 1 (by decide) rfl rfl rfl rfl rfl rfl rfl rfl rfl (fun h4 id4 col4 A4 S4 hle4 o4 c4 => ?_)
        have f4' := load_mono hle4 f4
        clear f3 f4
        repeat (first | refine EvH.easy1 rfl rfl rfl rfl rfl rfl rfl rfl rfl rfl ?_ | refine EvH.easy1 rfl rfl rfl rfl rfl rfl rfl rfl rfl (by assumption) ?_ | refine EvH.easyG (by assumption) rfl rfl rfl rfl rfl rfl rfl rfl rfl rfl (by first | exact veq_s rfl | assumption) ?_)
        have V4 : Vec col4 1 h4 35 1 (.slice id4 0 0 0 true) 0 [] := .mk (tail := []) o4 c4 rfl (fun _ => ⟨Nat.le_refl _, rfl⟩)
        (refine EvH.act rfl rfl rfl rfl rfl rfl rfl (EvP.appendRow S4 V4 (by decide) (C.rows.mono (AH.le.trans' hg'.le S4.le)) nc (fun i hi => (C.ints i hi).sc.2) rfl rfl rfl rfl rfl rfl rfl rfl rfl rfl (by show (0 + L.length) * 24 ≤ 70368744177664; omega) (by omega) (fun v5 h5 col5 A5 S5 V5 => ⟨fun _ => S5.le, ?_⟩)))
        (refine EvH.act rfl rfl rfl rfl rfl rfl rfl (EvP.appendRow S5 V5 (by decide) (D.rows.mono (AH.le.trans' hg'.le S5.le)) np (fun i hi => (D.ints i hi).sc.2) rfl rfl rfl rfl rfl rfl rfl rfl rfl rfl (by show (0 + L.length + P.length) * 24 ≤ 70368744177664; omega) (by omega) (fun v6 h6 col6 A6 S6 V6 => ⟨fun _ => S6.le, ?_⟩)))
        have hN : 0 + L.length + P.length = (L ++ P).length := by simp
        rw [hN, List.nil_append] at V6
        have hle6 : h.le h6 := AH.le.trans' hg'.le S6.le
        have hLP : ∀ l ∈ L ++ P, ∀ x ∈ l, ok N x := fun l hl => by
          rcases List.mem_append.1 hl with h' | h'
          · exact lits_ok v4 l h'
          · exact lits_ok hp l h'
        have hlens : ∀ l ∈ L ++ P, l.length ≤ 2 ^ 48 := fun l hl => by
          rcases List.mem_append.1 hl with h' | h'
          · exact C.lens l h'
          · exact D.lens l h'
        obtain ⟨cvv, Cv⟩ := cnf_of_vec (n := (N : Int)) V6 (fun j hj => by
          obtain ⟨a, k1, k2⟩ := two_cells C D j hj
          exact ⟨a, k1, k2.mono hle6⟩) hlens (by simp; omega)
        refine EvH.act rfl rfl rfl rfl rfl rfl rfl (EvP.callF rfl rfl rfl rfl (EvF.mono (rstep_spec S6.wf (by omega) Cv (row.mono hle6) hLP hlo hl) ?_))
        rintro _ h7 _ ⟨⟨hl7, hw7⟩, b', rfl, hbb⟩
        refine ⟨fun _ => AH.le.trans' S6.le hl7, ?_⟩
        repeat (refine EvH.easy1 rfl rfl rfl rfl rfl rfl rfl rfl rfl rfl ?_)
        repeat (first | refine at_normal ?_ | refine EvC.ret ?_ | refine EvH.nil ?_)
        (refine ret_are (vs := [.bool b', .int .i64 0]) rfl rfl ?_)
        exact ⟨⟨AH.le.trans' hle6 hl7, hw7⟩, b', 0, rfl, fun e => absurd ⟨⟨hv, hp⟩, hlo⟩ e, fun _ => ⟨rfl, hbb⟩⟩
      · rw [decide_eq_false hlo]
        repeat (first | refine EvO.plain rfl rfl rfl rfl rfl rfl ?_ | refine EvO.nil ?_ | refine at_normal ?_ | refine EvO.plainOn rfl rfl rfl rfl rfl rfl ?_)
        refine EvC.cond (t := true) rfl (fun _ => ?_) (fun e => nomatch e)
        repeat (first | refine EvO.plain rfl rfl rfl rfl rfl rfl ?_ | refine EvC.seq ?_ | refine EvC.region rfl ?_ | refine EvO.nil ?_ | refine at_normal ?_ | refine EvC.ret ?_ | refine at_ret ?_)
        (refine ret_are (vs := [.bool false, .int .i64 2]) rfl rfl ?_)
        exact bad hg' (fun e => hlo e.2)
    · rw [decide_eq_false hp]
      repeat (first | refine EvO.plain rfl rfl rfl rfl rfl rfl ?_ | refine EvO.nil ?_ | refine at_normal ?_ | refine EvO.off rfl rfl rfl ?_ | refine EvO.plainOn rfl rfl rfl rfl rfl rfl ?_)
      refine EvC.cond (t := true) rfl (fun _ => ?_) (fun e => nomatch e)
      repeat (first | refine EvO.plain rfl rfl rfl rfl rfl rfl ?_ | refine EvC.seq ?_ | refine EvC.region rfl ?_ | refine EvO.nil ?_ | refine at_normal ?_ | refine EvC.ret ?_ | refine at_ret ?_)
      (refine ret_are (vs := [.bool false, .int .i64 2]) rfl rfl ?_)
      exact bad hg' (fun e => hp e.1.2)
  · rw [decide_eq_false hv]
    repeat (first | refine EvO.plain rfl rfl rfl rfl rfl rfl ?_ | refine EvO.nil ?_ | refine at_normal ?_ | refine EvO.off rfl rfl rfl ?_)
    refine EvC.cond (t := true) rfl (fun _ => ?_) (fun e => nomatch e)
    repeat (first | refine EvO.plain rfl rfl rfl rfl rfl rfl ?_ | refine EvC.seq ?_ | refine EvC.region rfl ?_ | refine EvO.nil ?_ | refine at_normal ?_ | refine EvC.ret ?_ | refine at_ret ?_)
    (refine ret_are (vs := [.bool false, .int .i64 2]) rfl rfl ?_)
    exact bad hg (fun e => hv e.1.1)
end Pf
end Go.Proofs.YtfjloafebkjadaaGreatDoor
