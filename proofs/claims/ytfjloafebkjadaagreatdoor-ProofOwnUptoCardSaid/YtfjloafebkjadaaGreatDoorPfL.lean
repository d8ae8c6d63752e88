/- What Step answers; few and small lists. -/
import Derived.Test.YtfjloafebkjadaaGreatDoorPfK
namespace Go.Proofs.YtfjloafebkjadaaGreatDoor
namespace Pf
open Go Go.AI Go.Proofs
variable {gt : Tree (List AV)}
theorem build2 {a b : AV} (ha : a.cells = [a] ∧ scalar a = true) (hb : b.cells = [b] ∧ scalar b = true) : abuildSlice (TT gt) 139 2 [(0, a), (1, b)] = some (.cells [a, b] 22 false, .slice 2 2 true) := by
  show (if 2 * ti22.size ≤ 2 ^ 24 ∧ ti22.zero.length = ti22.size then (match afill (fun i => some (i * ti22.size, ti22.size)) (rep 2 ti22.zero) [(0, a), (1, b)] with
    | some cs => some (AObj.cells cs 22 false, Mk.slice 2 2 true)
    | none => none) else none) = _
  have h1 : ti22.size = 1 := rfl
  have h2 : ti22.zero = [.nilSlice] := rfl
  simp [h1, h2, rep, afill, ha.1, hb.1, scalar_known ha.2, scalar_known hb.2, lsetMany, lset]
theorem total_append (L P : List (List Int)) : total (L ++ P) = total L + total P := by simp [total]
theorem pstep_specF {h : AH} (hw : WF h) {n : Int} {cl pv lv : AV} {L P : List (List Int)} {l : List Int} {cv pc : Nat → AV} (C : CnfAt h n cl L cv) (D : CnfAt h n pv P pc) (row : IntRow h lv l) (nc : NZ cl) (fz : FZ h pv) (hm : P.length ≤ 200000) (hl : l.length ≤ 2 ^ 30) (hb : total P ≤ 2 ^ 30) :
    EvF (TT gt) X 36 [.agg [.int .i64 n, cl], pv, lv] h (fun r h' => (h.le h' ∧ WF h') ∧ StepSays n L P l r) := by
  refine EvF.enter rfl rfl rfl ?_
  repeat (first | refine EvC.seq ?_ | refine EvC.region rfl ?_)
  (refine EvO.cons rfl rfl rfl (EvP.new (b := .cells [.int .i64 n, cl] 24 false) (mk := .ptr) rfl rfl hw (fun h1 b hg1 hb1 hfr => ?_)))
  have f1 := loadAgg (T := TT gt) (t := 24) (off := 0) (n := 2) (r := [.int .i64 n, cl]) hb1 rfl rfl
  repeat (first | refine EvO.plain rfl rfl rfl rfl rfl rfl ?_ | refine EvO.plain rfl rfl rfl rfl rfl (by assumption) ?_ | refine EvC.seq ?_ | refine EvC.region rfl ?_ | refine EvO.nil ?_ | refine at_normal ?_)
  (refine EvO.cons rfl rfl rfl (EvP.callF rfl rfl rfl rfl (EvF.mono (fit_spec hg1.wf (C.mono hg1.le) (D.mono hg1.le) hm) ?_)))
  rintro _ h2 _ ⟨hg2, rfl⟩
  have hg := hg1.trans hg2
  clear f1
  have bad : ∀ {h' : AH}, Grew h h' → ¬ ((valid n L ∧ ∀ i, i < P.length → ∀ x ∈ P.getD i [], ok n x) ∧ ∀ x ∈ l, ok n x) → (h.le h' ∧ WF h') ∧ StepSays n L P l (.tuple [.bool false, .int .i64 2]) := fun hg hv => ⟨⟨hg.le, hg.wf⟩, false, 2, rfl, fun _ => ⟨rfl, rfl⟩, fun e => absurd e hv⟩
  by_cases hv : valid n L ∧ ∀ i, i < P.length → ∀ x ∈ P.getD i [], ok n x
  · rw [decide_eq_true hv]
    have f2 := loadAgg (T := TT gt) (t := 24) (off := 0) (n := 2) (r := [.int .i64 n, cl]) (hg2.le _ _ hb1) rfl rfl
    have hvv := hv
    obtain ⟨⟨v0, v1, v2, v3, v4⟩, hp⟩ := hvv
    repeat (first | refine EvO.plain rfl rfl rfl rfl rfl rfl ?_ | refine EvO.plainOn rfl rfl rfl rfl rfl rfl ?_ | refine EvO.plainOn rfl rfl rfl rfl rfl (by assumption) ?_)
    refine EvO.on rfl rfl rfl (EvP.callF rfl rfl rfl rfl (EvF.mono (pwithin_spec (facts gt) hg.wf (row.mono hg.le) (by omega) ⟨v0, by omega⟩) ?_))
    rintro _ h3 _ ⟨hg3, rfl⟩
    have hg' := hg.trans hg3
    clear f2
    by_cases hlo : ∀ x ∈ l, ok n x
    · rw [decide_eq_true hlo]
      repeat (first | refine EvO.plain rfl rfl rfl rfl rfl rfl ?_ | refine EvO.nil ?_ | refine at_normal ?_ | refine EvO.plainOn rfl rfl rfl rfl rfl rfl ?_)
      refine EvC.cond (t := false) rfl (fun e => nomatch e) (fun _ => ?_)
      have b3 := hg3.le _ _ (hg2.le _ _ hb1)
      have f3 := load1 (T := TT gt) (t := 3) (off := 0) b3 rfl rfl rfl
      obtain ⟨N, rfl⟩ : ∃ N : Nat, n = N := ⟨n.toNat, by omega⟩
      have S3 := HS.all hg'.wf
      repeat (first | refine EvO.plain rfl rfl rfl rfl rfl rfl ?_ | refine EvO.plain rfl rfl rfl rfl rfl (by assumption) ?_ | refine EvC.seq ?_ | refine EvC.region rfl ?_ | refine at_normal ?_ | refine EvC.skip ?_)
      (refine EvO.cons rfl rfl rfl (EvP.callF rfl rfl rfl rfl (EvF.mono (cs_begin S3 N (by omega)) ?_)))
      rintro _ h4 _ ⟨p, rfl, C4⟩
      clear f3
      have f4 := load1 (T := TT gt) (t := 22) (off := 1) ((cs_le C4).1 _ _ b3) rfl rfl rfl
      repeat (first | refine EvO.plain rfl rfl rfl rfl rfl rfl ?_ | refine EvO.plain rfl rfl rfl rfl rfl (by assumption) ?_ | refine EvC.seq ?_ | refine EvC.region rfl ?_ | refine EvO.nil ?_ | refine at_normal ?_)
      clear f4
      obtain ⟨V, col, S, rfl, hall, Ch, W4, U4, B4, T4, Tl4⟩ := C4
      (refine EvO.cons rfl rfl rfl (EvP.newR (b := .cells [cl, pv] 22 false) (mk := .slice 2 2 true) Ch.hs rfl (show abuildSlice (TT gt) 139 2 [(0, cl), (1, pv)] = _ from build2 C.rows.sc D.rows.sc) (fun h5 id A5 S5 hle5 o5 _ _ => ?_)))
      have Ch5 := Ch.more A5 S5 hle5
      have hle : h.le (h3.add id (.cells [cl, pv] 22 false)) := AH.le.trans' hg'.le hle5
      have row5 : RowOf h5 1 (.slice id 0 2 2 true) 2 (fun i => [if i = 0 then cl else pv]) := .mk (cs := [cl, pv]) (by unfold cellsOf; rw [o5]) fun i hi => by
        have : i = 0 ∨ i = 1 := by omega
        rcases this with rfl | rfl <;> rfl
      have hle5' : h.le h5 := AH.le.trans' hle S5.le
      skip
      (refine EvO.cons rfl rfl rfl (EvP.callF rfl rfl rfl rfl (EvF.mono (concat_spec S5.wf (C.mono hle5') (D.mono hle5') nc (fz.mono hle5') row5 (by omega)) ?_)))
      rintro r h6 _ ⟨col6, A6, V6⟩
      obtain ⟨G6, S6, hle6, row6⟩ := Vec.publish Ch5.hs A6 (by decide) V6 (by decide)
      have C6 : CS G6 h6 N V.p ((L ++ P).take 0) := ⟨V, col, S, rfl, hall, Ch5.more (Step.hide Ch5.hs A6 (by decide)) S6 hle6, W4, U4, B4, T4, Tl4⟩
      have hG6 : h.le G6 := AH.le.trans' hle hle6
      have hel := two_cells C D
      generalize ((List.range L.length).map cv ++ (List.range P.length).map pc : List AV) = cells at *
      have hLP : ∀ l ∈ L ++ P, ∀ x ∈ l, ok N x := fun l hl => by
        rcases List.mem_append.1 hl with h' | h'
        · exact lits_ok v4 l h'
        · exact lits_ok hp l h'
      have htot : total (L ++ P) ≤ 2 ^ 31 := by rw [total_append]; omega
      have hlen : (L ++ P).length ≤ 400000 := by rw [List.length_append]; omega
      have row6' : RowOf G6 1 r (L ++ P).length (fun i => [cells.getD i .undef]) := row6.congr fun i hi => by
        obtain ⟨a, k1, _⟩ := hel i hi
        rw [Nat.mul_one, List.take_one, List.head?_drop, k1, List.getD_eq_getElem?_getD, k1]; rfl
      have hel6 : ∀ i, i < (L ++ P).length → IntRow G6 (cells.getD i .undef) ((L ++ P).getD i []) := fun i hi => by
        obtain ⟨a, k1, k2⟩ := hel i hi
        rw [List.getD_eq_getElem?_getD, k1]; exact k2.mono hG6
      have ln6 := row6'.len_any (T := TT gt) (t := 22) rfl h6
      have rowl : IntRow G6 lv l := row.mono hG6
      repeat (first | refine EvO.plain rfl rfl rfl rfl rfl rfl ?_ | refine EvO.plain rfl rfl rfl rfl rfl (by assumption) ?_ | refine EvO.nil ?_ | refine at_normal ?_ | refine EvC.block ?_)
      clear ln6 row5 hall Ch Ch5 W4 U4 B4 T4 Tl4 V6 A6 S6 row6 hel hle5 hle6 S5 A5 o5
      generalize V.p = p at *
      have done : ∀ {hx : AH} {k : Int}, h.le hx → WF hx → (k = -1 ↔ ¬ Clash (L ++ P) (neg l)) → (h.le hx ∧ WF hx) ∧ StepSays N L P l (.tuple [.bool (k != -1), .int .i64 0]) := fun h7 h8 hk => ⟨⟨h7, h8⟩, _, 0, rfl, fun e => absurd ⟨hv, hlo⟩ e, fun _ => ⟨rfl, by
        rw [bne_iff_ne, ne_eq, hk, Classical.not_not]⟩⟩
      refine EvC.loop (fun m σ h' => ∃ (i : Nat) (E : Nat → AV), CS G6 h' N p ((L ++ P).take i) ∧ i ≤ (L ++ P).length ∧ m = (L ++ P).length - i ∧ σ = upds [(2, lv), (8, .ptr p 0), (28, r), (29, .int .i64 (L ++ P).length), (30, .int .i64 i)] E) ((L ++ P).length) ?_ ?_
      · exact ⟨0, _, C6, Nat.zero_le _, rfl, hold ⟨rfl, rfl, rfl, rfl, rfl, trivial⟩⟩
      · clear C6
        rintro m _ h7 ⟨i, E, C7, hi, rfl, rfl⟩
        generalize hLPe : L ++ P = LP at *
        repeat (first | refine EvO.plain rfl rfl rfl rfl rfl rfl ?_ | refine EvC.seq ?_ | refine EvC.region rfl ?_ | refine EvO.nil ?_ | refine at_normal ?_)
        refine EvC.decide rfl (fun hc => ?_) (fun hc => ?_)
        · have hlt : i < LP.length := by omega
          have hlm := getDL_mem hlt
          obtain ⟨q, b1, b2⟩ := (row6'.mono (cs_le C7).1).at1 (T := TT gt) (t := 22) (e := 35) rfl rfl rfl rfl (k := .i64) (i := i) (by omega) (by omega)
          rw [Int.toNat_natCast] at b2
          have ht := total_take hlt
          have ht2 := total_le LP (i + 1)
          repeat (first | refine EvO.plain rfl rfl rfl rfl rfl rfl ?_ | refine EvO.plain rfl rfl rfl rfl rfl (by assumption) ?_ | refine EvC.seq ?_ | refine EvC.region rfl ?_ | refine EvO.nil ?_ | refine at_normal ?_ | refine EvC.skip ?_ | refine EvC.block ?_)
          (refine EvO.cons rfl rfl rfl (EvP.callF rfl rfl rfl rfl (EvF.mono (cs_add C7 (hel6 i hlt) (hLP _ hlm) (by omega) (by rw [List.length_take]; omega)) ?_)))
          rintro _ h8 _ C8
          clear b1 b2
          repeat (first | refine EvO.plain rfl rfl rfl rfl rfl rfl ?_ | refine EvC.region rfl ?_ | refine EvO.nil ?_ | refine at_normal ?_ | refine be_normal ?_ | refine ro_normal ?_ | refine EvO.cons rfl rfl rfl (EvP.add64 rfl rfl (by omega) ?_))
          refine ⟨LP.length - (i + 1), by omega, i + 1, _, ?_, by omega, rfl, hold ⟨rfl, rfl, rfl, rfl, rfl, trivial⟩⟩
          have hs : LP.take (i + 1) = LP.take i ++ [LP.getD i []] := by
            rw [List.take_add_one, List.getD_eq_getElem?_getD, List.getElem?_eq_getElem hlt]; rfl
          rw [hs]; exact C8
        · have hend : i = LP.length := by omega
          subst hend
          rw [List.take_length] at C7
          repeat (first | refine EvO.plain rfl rfl rfl rfl rfl rfl ?_ | refine EvC.seq ?_ | refine EvC.region rfl ?_ | refine at_normal ?_ | refine EvC.exit ?_ | refine at_exit ?_ | refine be_same rfl ?_ | refine ro_exit ?_)
          (refine EvO.cons rfl rfl rfl (EvP.callF rfl rfl rfl rfl (EvF.mono (cs_opp C7 rowl hlo (by omega)) ?_)))
          rintro r5 h8 _ ⟨G8, hlG8, row8, C8⟩
          skip
          (refine EvO.cons rfl rfl rfl (EvP.callF rfl rfl rfl rfl (EvF.mono (cs_clash C8 row8 (fun x hx => by obtain ⟨y, hy, rfl⟩ := List.mem_map.1 hx; exact ok_neg (hlo y hy)) (by rw [List.length_map]; omega)) ?_)))
          rintro _ h9 _ ⟨k, rfl, hk, C9⟩
          repeat (first | refine EvO.plain rfl rfl rfl rfl rfl rfl ?_ | refine EvO.nil ?_ | refine at_normal ?_ | refine EvC.ret ?_)
          (refine ret_are (vs := [.bool (k != -1), .int .i64 0]) rfl rfl ?_)
          exact done (AH.le.trans' hG6 (AH.le.trans' hlG8 (cs_le C9).1)) (cs_le C9).2 hk
    · rw [decide_eq_false hlo]
      repeat (first | refine EvO.plain rfl rfl rfl rfl rfl rfl ?_ | refine EvO.nil ?_ | refine at_normal ?_ | refine EvO.plainOn rfl rfl rfl rfl rfl rfl ?_)
      refine EvC.cond (t := true) rfl (fun _ => ?_) (fun e => nomatch e)
      repeat (first | refine EvO.plain rfl rfl rfl rfl rfl rfl ?_ | refine EvC.seq ?_ | refine EvC.region rfl ?_ | refine EvO.nil ?_ | refine at_normal ?_ | refine EvC.ret ?_ | refine at_ret ?_)
      (refine ret_are (vs := [.bool false, .int .i64 2]) rfl rfl ?_)
      exact bad hg' (fun e => hlo e.2)
  · rw [decide_eq_false hv]
    repeat (first | refine EvO.plain rfl rfl rfl rfl rfl rfl ?_ | refine EvO.nil ?_ | refine at_normal ?_ | refine EvO.off rfl rfl rfl ?_)
    refine EvC.cond (t := true) rfl (fun _ => ?_) (fun e => nomatch e)
    repeat (first | refine EvO.plain rfl rfl rfl rfl rfl rfl ?_ | refine EvC.seq ?_ | refine EvC.region rfl ?_ | refine EvO.nil ?_ | refine at_normal ?_ | refine EvC.ret ?_ | refine at_ret ?_)
    (refine ret_are (vs := [.bool false, .int .i64 2]) rfl rfl ?_)
    exact bad hg (fun e => hv e.1)
theorem pstep_spec {h : AH} (hw : WF h) {n : Int} {cl pv lv : AV} {L P : List (List Int)} {l : List Int} {cv pc : Nat → AV} (C : CnfAt h n cl L cv) (D : CnfAt h n pv P pc) (row : IntRow h lv l) (nc : NZ cl) (np : NZ pv) (hm : P.length ≤ 200000) (hl : l.length ≤ 2 ^ 30) (hb : total P ≤ 2 ^ 30) :
    EvF (TT gt) X 36 [.agg [.int .i64 n, cl], pv, lv] h (fun r h' => (h.le h' ∧ WF h') ∧ StepSays n L P l r) := pstep_specF hw C D row nc (FZ.of_nz np D.rows) hm hl hb
end Pf
end Go.Proofs.YtfjloafebkjadaaGreatDoor
namespace Go.Proofs.YtfjloafebkjadaaGreatDoor
namespace Pf
open Go Go.AI Go.Proofs
variable {gt : Tree (List AV)}
set_option maxHeartbeats 4000000 in
/-- Few and small lists. -/
theorem few27_spec {h : AH} (hw : WF h) {n : Int} {cl pv : AV} {L P : List (List Int)} {cv pc : Nat → AV} (C : CnfAt h n cl L cv) (D : CnfAt h n pv P pc) (nc : NZ cl) (np : NZ pv) (hb : total L + total P ≤ 2 ^ 60) (hm : L.length + P.length ≤ 2 ^ 29) :
    EvF (TT gt) X 19 [.agg [.int .i64 n, cl], pv] h (fun r h' => (h.le h' ∧ WF h') ∧ ∃ b, r = .bool b ∧ (b = true → L.length ≤ 80 ∧ P.length ≤ 80 ∧ total L + total P ≤ 500 ∧ (n ≤ 30 ∨ n > 50000))) := by
  have S0 := HS.all hw
  refine EvF.enter rfl rfl rfl ?_
  repeat (first | refine EvC.seq ?_ | refine EvC.region rfl ?_)
  (refine EvO.cons rfl rfl rfl (EvP.newR (b := .cells [.int .i64 n, cl] 24 false) (mk := .ptr) S0 rfl rfl (fun h1 b A1 S1 hle1 o1 _ _ => ?_)))
  repeat (first | refine EvO.plain rfl rfl rfl rfl rfl rfl ?_ | refine EvC.seq ?_ | refine EvC.region rfl ?_ | refine EvO.nil ?_ | refine at_normal ?_)
  (refine EvO.cons rfl rfl rfl (EvP.newC (b := .cells [] 35 false) (mk := .slice 0 0 true) S1 1 rfl rfl (by decide) (fun h2 id col2 A2 S2 o2 c2 _ => ?_)))
  have b2 := S2.le _ _ (AH.get_add h b (.cells [.int .i64 n, cl] 24 false))
  have f2 := load1 (T := TT gt) (t := 22) (off := 1) b2 rfl rfl rfl
  repeat (first | refine EvO.plain rfl rfl rfl rfl rfl rfl ?_ | refine EvO.plain rfl rfl rfl rfl rfl (by assumption) ?_)
  have V2 : Vec col2 1 h2 35 1 (.slice id 0 0 0 true) 0 [] := .mk (tail := []) o2 c2 rfl (fun _ => ⟨Nat.le_refl _, rfl⟩)
  (refine EvO.cons rfl rfl rfl (EvP.appendRow S2 V2 (by decide) (C.rows.mono (fun i o e => S2.le i o (hle1 i o e))) nc (fun i hi => (C.ints i hi).sc.2) rfl rfl rfl rfl rfl rfl rfl rfl rfl rfl (by show (0 + L.length) * 24 ≤ 70368744177664; omega) (by omega) (fun v3 h3 col3 A3 S3 V3 => ?_)))
  clear f2
  repeat (refine EvO.plain rfl rfl rfl rfl rfl rfl ?_)
  (refine EvO.cons rfl rfl rfl (EvP.appendRow S3 V3 (by decide) (D.rows.mono (fun i o e => S3.le i o (hle1 i o e))) np (fun i hi => (D.ints i hi).sc.2) rfl rfl rfl rfl rfl rfl rfl rfl rfl rfl (by show (0 + L.length + P.length) * 24 ≤ 70368744177664; omega) (by omega) (fun v4 h4 col4 A4 S4 V4 => ?_)))
  have ln4 := V4.row.len_any (T := TT gt) (t := 22) rfl h4
  repeat (first | refine EvO.plain rfl rfl rfl rfl rfl rfl ?_ | refine EvO.plain rfl rfl rfl rfl rfl (by assumption) ?_ | refine EvO.nil ?_ | refine at_normal ?_ | refine EvC.block ?_)
  clear ln4
  have hN : 0 + L.length + P.length = (L ++ P).length := by simp
  rw [hN] at V4
  have hel : ∀ i, i < (L ++ P).length → ∃ a, ([] ++ (List.range L.length).map cv ++ (List.range P.length).map pc)[i]? = some a ∧ IntRow h a ((L ++ P).getD i []) := fun i hi => by
    rw [List.length_append] at hi
    rw [List.getD_eq_getElem?_getD, List.nil_append]
    rcases Nat.lt_or_ge i L.length with hl | hl
    · rw [List.getElem?_append_left (by simpa using hl), List.getElem?_append_left hl, ← List.getD_eq_getElem?_getD]
      exact ⟨cv i, by simp [hl], C.ints i hl⟩
    · rw [List.getElem?_append_right (by simpa using hl), List.getElem?_append_right hl, ← List.getD_eq_getElem?_getD]
      refine ⟨pc (i - L.length), ?_, D.ints _ (by omega)⟩
      rw [List.length_map, List.length_range, List.getElem?_map, List.getElem?_range (by omega)]
      rfl
  have htot : total (L ++ P) = total L + total P := by simp [total]
  rw [hN]
  generalize L ++ P = LP at *
  generalize ([] ++ (List.range L.length).map cv ++ (List.range P.length).map pc : List AV) = cells at *
  refine EvC.loop (fun m σ h' => h' = h4 ∧ ∃ (i : Nat) (E : Nat → AV), i ≤ LP.length ∧ m = LP.length - i ∧ σ = upds [(1, pv), (2, .ptr b 0), (5, .int .i64 (total (LP.take i))), (13, v4), (14, .int .i64 LP.length), (15, .int .i64 i)] E) (LP.length) ?_ ?_
  · exact ⟨rfl, 0, _, Nat.zero_le _, rfl, hold ⟨rfl, rfl, rfl, rfl, rfl, rfl, trivial⟩⟩
  · rintro m _ h4 ⟨rfl, i, E, hi, rfl, rfl⟩
    repeat (first | refine EvO.plain rfl rfl rfl rfl rfl rfl ?_ | refine EvC.seq ?_ | refine EvC.region rfl ?_ | refine EvO.nil ?_ | refine at_normal ?_)
    refine EvC.decide rfl (fun hc => ?_) (fun hc => ?_)
    · have hlt : i < LP.length := by omega
      obtain ⟨p, u, a1, a2, a3⟩ := V4.at1 (T := TT gt) (t := 22) (k := .i64) (i := i) rfl rfl rfl rfl (by omega) (by omega)
      obtain ⟨a, h5, h6⟩ := hel i hlt
      rw [Int.toNat_natCast, h5] at a3
      cases a3
      have ln := h6.len_any (T := TT gt) (t := 35) rfl h4
      have ht := total_take hlt
      have ht2 := total_le LP (i + 1)
      repeat (first | refine EvO.plain rfl rfl rfl rfl rfl rfl ?_ | refine EvO.plain rfl rfl rfl rfl rfl (by assumption) ?_ | refine EvC.seq ?_ | refine EvC.region rfl ?_ | refine EvO.nil ?_ | refine at_normal ?_ | refine EvC.skip ?_ | refine EvC.block ?_ | refine be_normal ?_ | refine ro_normal ?_ | refine EvO.cons rfl rfl rfl (EvP.add64 rfl rfl (by omega) ?_))
      clear a1 a2
      refine ⟨LP.length - (i + 1), by omega, rfl, i + 1, _, by omega, rfl, hold ⟨rfl, rfl, ?_, rfl, rfl, rfl, trivial⟩⟩
      rw [ht]; rfl
    · have hend : i = LP.length := by omega
      subst hend
      rw [List.take_length]
      have b4 := S4.le _ _ (AH.get_add h b (.cells [.int .i64 n, cl] 24 false))
      have f4 := load1 (T := TT gt) (t := 22) (off := 1) b4 rfl rfl rfl
      have f7 := load1 (T := TT gt) (t := 3) (off := 0) b4 rfl rfl rfl
      have l1 := C.rows.len_any (T := TT gt) (t := 22) rfl h4
      have l2 := D.rows.len_any (T := TT gt) (t := 22) rfl h4
      have fin : (h.le h4 ∧ WF h4) := ⟨fun i o e => S4.le i o (hle1 i o e), S4.wf⟩
      repeat (first | refine EvO.plain rfl rfl rfl rfl rfl rfl ?_ | refine EvO.plain rfl rfl rfl rfl rfl (by assumption) ?_ | refine EvC.seq ?_ | refine EvC.region rfl ?_ | refine at_normal ?_ | refine EvC.exit ?_ | refine at_exit ?_ | refine be_same rfl ?_ | refine ro_exit ?_)
      have bad : ∃ b, AV.bool false = .bool b ∧ (b = true → L.length ≤ 80 ∧ P.length ≤ 80 ∧ total L + total P ≤ 500 ∧ (n ≤ 30 ∨ n > 50000)) := ⟨false, rfl, fun e => nomatch e⟩
      (refine EvO.cons rfl rfl rfl (EvP.bool rfl rfl (fun q1 => ?_) (fun q1 => ?_)))
      · have q1 := of_decide_eq_true q1
        repeat (first | refine EvO.plain rfl rfl rfl rfl rfl rfl ?_ | refine EvO.plainOn rfl rfl rfl rfl rfl rfl ?_ | refine EvO.plainOn rfl rfl rfl rfl rfl (by assumption) ?_)
        (refine EvO.on rfl rfl rfl (EvP.bool rfl rfl (fun q2 => ?_) (fun q2 => ?_)))
        · have q2 := of_decide_eq_true q2
          repeat (first | refine EvO.plain rfl rfl rfl rfl rfl rfl ?_ | refine EvO.plainOn rfl rfl rfl rfl rfl rfl ?_)
          (refine EvO.on rfl rfl rfl (EvP.bool rfl rfl (fun q3 => ?_) (fun q3 => ?_)))
          · have q3 := of_decide_eq_true q3
            repeat (first | refine EvO.plain rfl rfl rfl rfl rfl rfl ?_ | refine EvO.plainOn rfl rfl rfl rfl rfl rfl ?_ | refine EvO.plainOn rfl rfl rfl rfl rfl (by assumption) ?_)
            (refine EvO.on rfl rfl rfl (EvP.bool rfl rfl (fun q4 => ?_) (fun q4 => ?_)))
            · have q4 := of_decide_eq_true q4
              repeat (first | refine EvO.plain rfl rfl rfl rfl rfl rfl ?_ | refine EvO.nil ?_ | refine at_normal ?_ | refine EvC.ret ?_ | refine EvO.off rfl rfl rfl ?_ | refine EvO.plainOn rfl rfl rfl rfl rfl rfl ?_)
              (refine ret_is (v := .bool true) rfl rfl ?_)
              exact ⟨fin, true, rfl, fun _ => ⟨by omega, by omega, by omega, .inl q4⟩⟩
            · have q4 := of_decide_eq_false q4
              repeat (first | refine EvO.plainOn rfl rfl rfl rfl rfl rfl ?_ | refine EvO.plainOn rfl rfl rfl rfl rfl (by assumption) ?_)
              (refine EvO.on rfl rfl rfl (EvP.bool rfl rfl (fun q5 => ?_) (fun q5 => ?_)))
              · have q5 := of_decide_eq_true q5
                repeat (first | refine EvO.plain rfl rfl rfl rfl rfl rfl ?_ | refine EvO.nil ?_ | refine at_normal ?_ | refine EvC.ret ?_ | refine EvO.plainOn rfl rfl rfl rfl rfl rfl ?_)
                (refine ret_is (v := .bool true) rfl rfl ?_)
                exact ⟨fin, true, rfl, fun _ => ⟨by omega, by omega, by omega, .inr q5⟩⟩
              · repeat (first | refine EvO.plain rfl rfl rfl rfl rfl rfl ?_ | refine EvO.nil ?_ | refine at_normal ?_ | refine EvC.ret ?_ | refine EvO.plainOn rfl rfl rfl rfl rfl rfl ?_)
                (refine ret_is (v := .bool false) rfl rfl ?_)
                exact ⟨fin, bad⟩
          · repeat (first | refine EvO.plain rfl rfl rfl rfl rfl rfl ?_ | refine EvO.nil ?_ | refine at_normal ?_ | refine EvC.ret ?_ | refine EvO.off rfl rfl rfl ?_)
            (refine ret_is (v := .bool false) rfl rfl ?_)
            exact ⟨fin, bad⟩
        · repeat (first | refine EvO.plain rfl rfl rfl rfl rfl rfl ?_ | refine EvO.nil ?_ | refine at_normal ?_ | refine EvC.ret ?_ | refine EvO.off rfl rfl rfl ?_)
          (refine ret_is (v := .bool false) rfl rfl ?_)
          exact ⟨fin, bad⟩
      · repeat (first | refine EvO.plain rfl rfl rfl rfl rfl rfl ?_ | refine EvO.nil ?_ | refine at_normal ?_ | refine EvC.ret ?_ | refine EvO.off rfl rfl rfl ?_)
        (refine ret_is (v := .bool false) rfl rfl ?_)
        exact ⟨fin, bad⟩
end Pf
end Go.Proofs.YtfjloafebkjadaaGreatDoor
