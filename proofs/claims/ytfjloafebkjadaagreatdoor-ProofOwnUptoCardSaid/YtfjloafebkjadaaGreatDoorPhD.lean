/- What Expand answers. -/
import Derived.Test.YtfjloafebkjadaaGreatDoorPhB
import Derived.Test.YtfjloafebkjadaaGreatDoorPgH
namespace Go.Proofs.YtfjloafebkjadaaGreatDoor
namespace Pf
open Go Go.AI Go.Proofs
variable {gt : Tree (List AV)}
theorem lset3 (a b c x y z : AV) : lsetMany [a, b, c] 0 (AV.agg [x, y, z]).cells = [x, y, z] := rfl
set_option maxHeartbeats 40000000 in
theorem Expand_spec {h : AH} (hw : WF h) {n : Int} {cl pv : AV} {L P : List (List Int)} {cv pc : Nat → AV} (C : CnfAt h n cl L cv) (D : CnfAt h n pv P pc) (hn : n ≤ 30 ∨ n > 50000) (hL : L.length ≤ 80) (hP : P.length ≤ 80) (ht : total L + total P ≤ 500) :
    EvF (TT gt) X 31 [.agg [.int .i64 n, cl], pv] h (fun r h' => (h.le h' ∧ WF h') ∧ ExpandSays n L P r h') := by
  refine EvF.enter rfl rfl rfl ?_
  repeat (first | refine EvC.seq ?_ | refine EvC.region rfl ?_)
  (refine EvO.cons rfl rfl rfl (EvP.new (b := .cells [.int .i64 n, cl] 24 false) (mk := .ptr) rfl rfl hw (fun h1 b hg1 hb1 hfr => ?_)))
  have f1 := loadAgg (T := TT gt) (t := 24) (off := 0) (n := 2) (r := [.int .i64 n, cl]) hb1 rfl rfl
  repeat (first | refine EvO.plain rfl rfl rfl rfl rfl rfl ?_ | refine EvO.plain rfl rfl rfl rfl rfl (by assumption) ?_ | refine EvC.seq ?_ | refine EvC.region rfl ?_ | refine EvO.nil ?_ | refine at_normal ?_)
  (refine EvO.cons rfl rfl rfl (EvP.callF rfl rfl rfl rfl (EvF.mono (check_spec hg1.wf (C.mono hg1.le) (D.mono hg1.le) (by omega) (by omega)) ?_)))
  rintro _ h2 hn2 ⟨⟨hl2, hw2⟩, is, e, rfl, x1, x2⟩
  have hg2 : Grew h1 h2 := ⟨hl2, hw2, hn2⟩
  have hg := hg1.trans hg2
  clear f1
  have b2 := hg2.le _ _ hb1
  by_cases hv : valid n L ∧ ∀ i, i < P.length → ∀ x ∈ P.getD i [], ok n x
  · have hOB := x2 hv
    obtain ⟨rfl, x3⟩ := hOB
    have hvv := hv
    obtain ⟨⟨v0, v1, v2, v3, v4⟩, hp⟩ := hvv
    have hOB : ∃ N : Nat, n = N := ⟨n.toNat, by omega⟩
    obtain ⟨N, rfl⟩ := hOB
    have hN : N ≤ 30 := by omega
    repeat (first | refine EvO.plain rfl rfl rfl rfl rfl rfl ?_ | refine EvC.seq ?_ | refine EvC.region rfl ?_ | refine EvO.nil ?_ | refine at_normal ?_)
    refine EvC.cond (t := false) rfl (fun e => nomatch e) (fun _ => ?_)
    cases is with
    | false =>
      have hnr : ¬ Refutes L P := fun e => (nomatch x3.2 e)
      repeat (first | refine EvO.plain rfl rfl rfl rfl rfl rfl ?_ | refine EvC.seq ?_ | refine EvC.region rfl ?_ | refine EvO.nil ?_ | refine at_normal ?_ | refine EvC.skip ?_)
      refine EvC.cond (t := true) rfl (fun _ => ?_) (fun e => nomatch e)
      repeat (first | refine EvO.plain rfl rfl rfl rfl rfl rfl ?_ | refine EvC.seq ?_ | refine EvC.region rfl ?_ | refine EvO.nil ?_ | refine at_normal ?_ | refine EvC.ret ?_ | refine at_ret ?_)
      (refine ret_are (vs := [.nilSlice, .int .i64 43]) rfl rfl ?_)
      exact ⟨⟨hg.le, hg.wf⟩, .inr (.inl ⟨hv, hnr, rfl⟩)⟩
    | true =>
      have href := x3.1 rfl
      have f2 := load1 (T := TT gt) (t := 22) (off := 1) b2 rfl rfl rfl
      have f3 := load1 (T := TT gt) (t := 3) (off := 0) b2 rfl rfl rfl
      have ln := C.rows.len_any (T := TT gt) (t := 22) rfl h2
      repeat (first | refine EvO.plain rfl rfl rfl rfl rfl rfl ?_ | refine EvC.seq ?_ | refine EvC.region rfl ?_ | refine EvO.nil ?_ | refine at_normal ?_ | refine EvC.skip ?_)
      refine EvC.cond (t := false) rfl (fun e => nomatch e) (fun _ => ?_)
      repeat (first | refine EvO.plain rfl rfl rfl rfl rfl rfl ?_ | refine EvO.plain rfl rfl rfl rfl rfl (by assumption) ?_ | refine EvC.seq ?_ | refine EvC.region rfl ?_ | refine EvO.nil ?_ | refine at_normal ?_ | refine EvC.skip ?_)
      (refine EvO.cons rfl rfl rfl (EvP.callF rfl rfl rfl rfl (EvF.mono (begin_spec (HS.all hw2) N (by omega)) ?_)))
      rintro _ h3 _ ⟨V3, col3, rfl, C3⟩
      clear f2 f3 ln
      have hs3 := C3.hs
      repeat (first | refine EvO.plain rfl rfl rfl rfl rfl rfl ?_ | refine EvC.seq ?_ | refine EvC.region rfl ?_ | refine EvO.nil ?_ | refine at_normal ?_)
      (refine EvO.cons rfl rfl rfl (EvP.newC (b := .cells [] 3 false) (mk := .slice 0 0 true) hs3 (2 * N + 9) rfl rfl (by omega) (fun h4 id4 col4 A4 S4 o4 c4 _ => ?_)))
      have V4 : Vec col4 (2 * N + 9) h4 3 1 (.slice id4 0 0 0 true) 0 [] := .mk (tail := []) o4 c4 rfl (fun _ => ⟨Nat.le_refl _, rfl⟩)
      have C4 := C3.own A4 (fun c e => by omega) S4
      have hr : ∀ j, (List.replicate (2 * N + 2) ([] : List Int)).getD j [] = [] := fun j => by
        rw [List.getD_eq_getElem?_getD, List.getElem?_replicate]; split <;> rfl
      have E4 : EX h2 h4 col4 N { V3 with fo := [] } { all := [], trail := [], why := List.replicate (N + 1) 0, uses := List.replicate (2 * N + 2) [] } (.slice id4 0 0 0 true) [] .nilSlice 0 [] := by
        refine ⟨C4, ⟨fun c hc => (by cases hc), fun c hc => (by cases hc), Nat.zero_le _, fun l _ k hk => absurd hk (Nat.not_lt_zero _), fun j u hu => ?_, fun j => ?_⟩, List.length_replicate, fun j => ?_, fun x hx => (by cases hx), Nat.zero_le _, V4, .nil⟩
        · have hu : u ∈ (List.replicate (2 * N + 2) ([] : List Int)).getD j [] := hu
          rw [hr] at hu; cases hu
        · show ((List.replicate (2 * N + 2) ([] : List Int)).getD j []).length ≤ _
          rw [hr]; simp
        · show ((List.replicate (2 * N + 2) ([] : List Int)).getD j []).length ≤ _
          rw [hr]; simp
      have b4 := S4.le _ _ b2
      have f4 := load1 (T := TT gt) (t := 22) (off := 1) b4 rfl rfl rfl
      have ln := C.rows.len_any (T := TT gt) (t := 22) rfl h4
      repeat (first | refine EvO.plain rfl rfl rfl rfl rfl rfl ?_ | refine EvO.plain rfl rfl rfl rfl rfl (by assumption) ?_ | refine EvC.seq ?_ | refine EvC.region rfl ?_ | refine EvO.nil ?_ | refine at_normal ?_ | refine EvC.block ?_)
      clear f4 ln
      have hpv : V3.p = ({ V3 with fo := [] } : Lay).p := rfl
      generalize ({ V3 with fo := [] } : Lay) = V4' at *
      generalize V3.p = p at *
      clear C3 C4 hs3 A4 V4 S4
      refine EvC.loop (fun m σ h' => ∃ (i : Nat) (G : AH) (col : Nat → Nat) (V : Lay) (S : Ch) (atv : AV) (ats : List Int) (E : Nat → AV), EX G h' col N V S atv ats .nilSlice 0 [] ∧ h2.le G ∧ V.p = p ∧ S.all = L.take i ∧ S.trail = [] ∧ ats = (List.range i).map (fun j : Nat => (j : Int)) ∧ (∀ j, j < i → L.getD j [] ≠ []) ∧ i ≤ L.length ∧ m = L.length - i ∧ σ = upds [(1, pv), (8, .nilSlice), (9, .int .i64 L.length), (10, .ptr p 0), (11, atv), (42, cl), (43, .int .i64 L.length), (44, .int .i64 i)] E) (L.length) ?_ ?_
      · exact ⟨0, h2, col4, V4', _, _, [], _, E4, fun _ _ e => e, hpv.symm, rfl, rfl, rfl, fun j hj => absurd hj (Nat.not_lt_zero _), Nat.zero_le _, rfl, hold ⟨rfl, rfl, rfl, rfl, rfl, rfl, rfl, rfl, trivial⟩⟩
      · clear E4 hpv
        rintro m _ h5 ⟨i, G, col, V, S, atv, ats, E, E5, hG, hp5, hall, htr, hats, hne, hi, rfl, rfl⟩
        have hle5 : h.le h5 := AH.le.trans' hg.le (AH.le.trans' hG E5.C.hs.le)
        repeat (first | refine EvO.plain rfl rfl rfl rfl rfl rfl ?_ | refine EvC.seq ?_ | refine EvC.region rfl ?_ | refine EvO.nil ?_ | refine at_normal ?_)
        refine EvC.decide rfl (fun hc => ?_) (fun hc => ?_)
        · have hlt : i < L.length := by omega
          have hlm := getDL_mem hlt
          have hll := len_total hlm
          have hOB := (C.rows.mono hle5).at1 (T := TT gt) (t := 22) (e := 35) rfl rfl rfl rfl (k := .i64) (i := i) (by omega) (by omega)
          obtain ⟨q, b1, b3⟩ := hOB
          rw [Int.toNat_natCast] at b3
          have lr := RowOf.len_any (T := TT gt) (t := 35) (C.ints i hlt) rfl h5
          repeat (first | refine EvO.plain rfl rfl rfl rfl rfl rfl ?_ | refine EvO.plain rfl rfl rfl rfl rfl (by assumption) ?_ | refine EvC.seq ?_ | refine EvC.region rfl ?_ | refine EvO.nil ?_ | refine at_normal ?_ | refine EvC.skip ?_ | refine EvC.block ?_)
          by_cases h0 : L.getD i [] = []
          · refine EvC.cond (t := true) (isT (beq_true (by rw [h0]; rfl))) (fun _ => ?_) (fun e => nomatch e)
            repeat (first | refine EvO.plain rfl rfl rfl rfl rfl rfl ?_ | refine EvC.seq ?_ | refine EvC.region rfl ?_ | refine EvO.nil ?_ | refine at_normal ?_ | refine EvC.ret ?_ | refine at_ret ?_ | refine be_ret ?_ | refine ro_ret ?_)
            (refine ret_are (vs := [.nilSlice, .int .i64 0]) rfl rfl ?_)
            exact ⟨⟨hle5, E5.C.hs.wf⟩, .inr (.inr (.inl ⟨hv, href, ⟨i, hlt, h0⟩, rfl⟩))⟩
          · refine EvC.cond (t := false) (isT (beq_false (by have : (L.getD i []).length ≠ 0 := fun e => h0 (List.eq_nil_of_length_eq_zero e); omega))) (fun e => nomatch e) (fun _ => ?_)
            clear b1 b3 lr
            subst hp5
            have ht1 := total_le L i
            have ht2 := total_le L (i + 1)
            have ht3 := total_take hlt
            repeat (first | refine EvO.plain rfl rfl rfl rfl rfl rfl ?_ | refine EvC.seq ?_ | refine EvC.region rfl ?_ | refine at_normal ?_ | refine EvC.skip ?_)
            (refine EvO.cons rfl rfl rfl (EvP.callF rfl rfl rfl rfl (EvF.mono (ex_add E5 (RowOf.mono (AH.le.trans' hg.le hG) (C.ints i hlt)) (lits_ok v4 _ hlm) (by rw [hall]; omega) (by rw [hall, List.length_take]; omega)) ?_)))
            rintro _ h6 _ ⟨col6, V6, S6, E6, q1, q2, q3, q4⟩
            repeat (first | refine EvO.plain rfl rfl rfl rfl rfl rfl ?_ | refine EvC.region rfl ?_ | refine EvO.nil ?_ | refine at_normal ?_)
            (refine EvO.cons rfl rfl rfl (EvP.newR (b := .cells [.int .i64 i] 3 false) (mk := .slice 1 1 true) E6.C.hs rfl rfl (fun h7 id7 A7 S7 hle7 o7 _ _ => ?_)))
            have E7 := E6.more A7 S7 hle7
            (refine EvO.cons rfl rfl rfl (EvP.appendC S7 E7.at_ (by omega) rfl rfl rfl rfl rfl rfl rfl rfl rfl (by decide) rfl rfl (afirst_all o7 rfl) rfl (by decide) rfl (by rw [hats]; simp; show (i + 1) * 8 ≤ 70368744177664; omega) (by rw [hats]; simp; omega) (fun w8 h8 col8 A8 S8 V8 => ?_)))
            have hOB := E7.setAt' (ats' := ats ++ [(i : Int)]) A8 S8 (by rw [List.length_append, List.map_append]; exact V8)
            obtain ⟨V8, u8, E8⟩ := hOB
            repeat (first | refine EvO.plain rfl rfl rfl rfl rfl rfl ?_ | refine EvC.region rfl ?_ | refine EvO.nil ?_ | refine at_normal ?_ | refine be_normal ?_ | refine ro_normal ?_ | refine EvO.cons rfl rfl rfl (EvP.add64 rfl rfl (by omega) ?_))
            refine ⟨L.length - (i + 1), by omega, i + 1, _, col8, _, S6, w8, ats ++ [(i : Int)], _, E8, AH.le.trans' hG hle7, u8.trans q1, ?_, by rw [q3]; exact htr, by rw [hats, List.range_succ, List.map_append]; rfl, fun j hj => ?_, by omega, rfl, hold ⟨rfl, rfl, rfl, rfl, rfl, rfl, rfl, rfl, trivial⟩⟩
            · rw [q2, hall, List.take_add_one, List.getD_eq_getElem?_getD, List.getElem?_eq_getElem hlt]; rfl
            · have hOB := Nat.lt_or_ge j i
              rcases hOB with h' | h'
              · exact hne j h'
              · have hOB : j = i := by omega
                obtain rfl := hOB
                exact h0
        · have hOB : i = L.length := by omega
          obtain rfl := hOB
          rw [List.take_length] at hall
          have lp := D.rows.len_any (T := TT gt) (t := 22) rfl h5
          have X0 : XS N L P 0 L ats [] [] := by
            refine ⟨⟨by rw [List.append_nil]; rfl, rfl⟩, ⟨by rw [hats]; simp, fun j hj => ⟨j, ?_, by simpa using hj, by rw [List.append_nil]⟩⟩, fun c hc => ?_, fun d hd => ?_, lits_ok v4, fun d hd => by have := len_total hd; omega, by omega, by omega, by simp, fun j hj => absurd hj (Nat.not_lt_zero _)⟩
            · rw [hats, List.getD_eq_getElem?_getD, List.getElem?_map, List.getElem?_range hj]; rfl
            · rw [List.take_zero, List.append_nil] at hc
              exact .inr ⟨c, hc, fun y hy => hy⟩
            · have hOB := List.getElem_of_mem hd
              obtain ⟨j, hj, rfl⟩ := hOB
              have := hne j hj
              rwa [List.getD_eq_getElem?_getD, List.getElem?_eq_getElem hj] at this
          repeat (first | refine EvO.plain rfl rfl rfl rfl rfl rfl ?_ | refine EvO.plain rfl rfl rfl rfl rfl (by assumption) ?_ | refine EvC.seq ?_ | refine EvC.region rfl ?_ | refine EvO.nil ?_ | refine at_normal ?_ | refine EvC.block ?_ | refine EvC.exit ?_ | refine at_exit ?_ | refine be_same rfl ?_ | refine ro_exit ?_)
          clear lp
          refine EvC.loop (fun m σ h' => ∃ (q : Nat) (G : AH) (col : Nat → Nat) (V : Lay) (S : Ch) (atv : AV) (ats : List Int) (outv : AV) (ls : List (Int × Int × Int)) (made : List (List Int)) (E : Nat → AV), EX G h' col N V S atv ats outv ls.length (ls.flatMap lineC) ∧ h2.le G ∧ V.p = p ∧ XS N L P q S.all ats made ls ∧ q ≤ P.length ∧ m = P.length - q ∧ σ = upds [(8, outv), (9, .int .i64 L.length), (10, .ptr p 0), (11, atv), (60, pv), (61, .int .i64 P.length), (62, .int .i64 q)] E) (P.length) ?_ ?_
          · exact ⟨0, G, col, V, S, atv, ats, .nilSlice, [], [], _, E5, hG, hp5, by rw [hall]; exact X0, Nat.zero_le _, rfl, hold ⟨rfl, rfl, rfl, rfl, rfl, rfl, rfl, trivial⟩⟩
          · clear E5 X0 hall htr hats hp5 hle5 hG
            rintro m _ h6 ⟨q, G, col, V, S, atv, ats, outv, ls, made, E, E6, hG, hp6, XX, hq, rfl, rfl⟩
            have hle6 : h.le h6 := AH.le.trans' hg.le (AH.le.trans' hG E6.C.hs.le)
            repeat (first | refine EvO.plain rfl rfl rfl rfl rfl rfl ?_ | refine EvC.seq ?_ | refine EvC.region rfl ?_ | refine EvO.nil ?_ | refine at_normal ?_)
            refine EvC.decide rfl (fun hc => ?_) (fun hc => ?_)
            · have hlt : q < P.length := by omega
              have hlm := getDL_mem hlt
              have hll := len_total hlm
              have hpo := hp q hlt
              have hOB := (D.rows.mono hle6).at1 (T := TT gt) (t := 22) (e := 35) rfl rfl rfl rfl (k := .i64) (i := q) (by omega) (by omega)
              obtain ⟨qq, b1, b3⟩ := hOB
              rw [Int.toNat_natCast] at b3
              subst hp6
              repeat (first | refine EvO.plain rfl rfl rfl rfl rfl rfl ?_ | refine EvO.plain rfl rfl rfl rfl rfl (by assumption) ?_ | refine EvC.seq ?_ | refine EvC.region rfl ?_ | refine EvO.nil ?_ | refine at_normal ?_ | refine EvC.skip ?_ | refine EvC.block ?_)
              (refine EvO.cons rfl rfl rfl (EvP.callF rfl rfl rfl rfl (EvF.mono (opposites_spec E6.C.hs (RowOf.mono (AH.le.trans' hg.le hG) (D.ints q hlt)) (by omega) (fun x hx => by have := hpo x hx; unfold ok at this; omega)) ?_)))
              rintro r h7 _ ⟨A7, G7, S7, hG7, row7⟩
              clear b1 b3
              have E7 := E6.more A7 S7 hG7
              skip
              (refine EvO.cons rfl rfl rfl (EvP.callF rfl rfl rfl rfl (EvF.mono (ex_clash E7 row7 (fun x hx => by obtain ⟨y, hy, rfl⟩ := List.mem_map.1 hx; exact ok_neg (hpo y hy)) (by rw [List.length_map]; omega)) ?_)))
              rintro _ h8 _ ⟨k, col8, V8, S8, rfl, E8, p8, a8, hk, nd, hwhy, hm2, hk2⟩
              have h0 : ∀ c ∈ L ++ P.take q, (0 : Int) ∉ c := fun c hc h0 => by
                have hOB := List.mem_append.1 hc
                rcases hOB with h' | h'
                · exact (lits_ok v4 c h' 0 h0).1 rfl
                · exact (lits_ok hp c (List.mem_of_mem_take h') 0 h0).1 rfl
              have hcl : Clash S.all (neg (P.getD q [])) := clash_sub XX.sub h0 (href.2.2 q hlt)
              have hk1 : k ≠ -1 := fun e => hk.1 e hcl
              have hle8 : h2.le G7 := AH.le.trans' hG hG7
              repeat (first | refine EvO.plain rfl rfl rfl rfl rfl rfl ?_ | refine EvC.seq ?_ | refine EvC.region rfl ?_ | refine EvO.nil ?_ | refine at_normal ?_)
              refine EvC.decide rfl (fun hneg => ?_) (fun hneg => ?_)
              · have e2 : k = -2 := Classical.byContradiction fun e2 => by
                  have hOB := hk2 hk1 e2
                  obtain ⟨j, rfl, _⟩ := hOB
                  omega
                repeat (first | refine EvO.plain rfl rfl rfl rfl rfl rfl ?_ | refine EvC.region rfl ?_ | refine EvO.nil ?_ | refine at_normal ?_ | refine EvC.exit ?_ | refine at_exit ?_ | refine be_same rfl ?_ | refine ro_normal ?_ | refine EvO.cons rfl rfl rfl (EvP.add64 rfl rfl (by omega) ?_))
                exact ⟨P.length - (q + 1), by omega, q + 1, G7, col8, V8, S8, atv, ats, outv, ls, made, _, E8, hle8, p8, by rw [a8]; exact XX.taut hlt (hm2 e2), by omega, rfl, hold ⟨rfl, rfl, rfl, rfl, rfl, rfl, rfl, trivial⟩⟩
              · have hOB := hk2 hk1 (by omega)
                obtain ⟨j, rfl, hj, hcj⟩ := hOB
                rw [← a8] at hj hcj XX hwhy
                rw [← p8]
                have f0 := E8.C.fld (gt := gt) (t := 22) (off := 0) rfl rfl rfl
                have hOB := E8.C.all.at1 (T := TT gt) (t := 22) (k := .i64) (i := j) rfl rfl rfl rfl (by omega) (by omega)
                obtain ⟨pa, ua, i1, i2, i3⟩ := hOB
                have hOB := E8.C.alls j hj
                obtain ⟨a', k1, ra⟩ := hOB
                rw [Int.toNat_natCast, k1] at i3
                cases i3
                have hOB := vec_int_at (gt := gt) E8.at_ (i := (j : Int)) (by omega) (by have := XX.at_.1; omega)
                obtain ⟨pb, j1, j2⟩ := hOB
                rw [Int.toNat_natCast] at j2
                have f3 := E8.C.fld (gt := gt) (t := 35) (off := 3) rfl rfl rfl
                have lt := E8.C.trail.row.len_any (T := TT gt) (t := 35) rfl h8
                have htl := E8.t2
                have htl0 := E8.t2
                repeat (first | refine EvC.seq ?_ | refine at_normal ?_ | refine EvC.skip ?_)
                refine EvC.drawn (p := [⟨0, false, 0, 0⟩, ⟨1, false, 0, 0⟩, ⟨2, false, 0, 0⟩, ⟨3, false, 0, 0⟩, ⟨4, false, 0, 0⟩, ⟨5, false, 0, 0⟩, ⟨6, false, 0, 0⟩, ⟨7, false, 0, 0⟩, ⟨8, false, 0, 0⟩, ⟨9, false, 0, 0⟩, ⟨10, false, 0, 0⟩, ⟨11, false, 0, 0⟩, ⟨12, false, 0, 0⟩]) rfl (by kernel_rfl) (by kernel_rfl) rfl ?_
                repeat (first | refine EvO.plain rfl rfl rfl rfl rfl rfl ?_ | refine EvO.plain rfl rfl rfl rfl rfl (by assumption) ?_ | refine EvC.seq ?_ | refine EvC.region rfl ?_ | refine EvO.nil ?_ | refine at_normal ?_ | refine EvC.block ?_ | refine EvR.nil ?_ | refine EvO.cons rfl rfl rfl (EvP.sub64 rfl rfl (by omega) ?_) | refine EvR.plain rfl rfl rfl rfl rfl rfl rfl ?_ | refine EvR.plain rfl rfl rfl rfl rfl rfl (by assumption) ?_)
                clear f0 i1 i2 j1 j2 f3 lt
                have p8' := p8
                clear p8 p8'
                generalize hpV : V8.p = pp at *
                refine EvC.loop (fun m σ h' => ∃ (i : Nat) (G : AH) (col : Nat → Nat) (V : Lay) (outv cvv : AV) (c : List Int) (mm : Int) (ls' : List (Int × Int × Int)) (made' : List (List Int)) (E : Nat → AV), EX G h' col N V S8 atv ats outv ls'.length (ls'.flatMap lineC) ∧ h2.le G ∧ V.p = pp ∧ IntRow G cvv c ∧ XI N L S8.all ats S8.trail (neg (P.getD q [])) i c mm made' ls' ∧ ls'.length + i ≤ ls.length + S8.trail.length ∧ i ≤ S8.trail.length ∧ m = i ∧ σ = upds [(8, outv), (9, .int .i64 L.length), (10, .ptr pp 0), (11, atv), (17, cvv), (18, .int .i64 mm), (19, .int .i64 ((i : Int) - 1)), (60, pv), (61, .int .i64 P.length), (62, .int .i64 q)] E) (S8.trail.length) ?_ ?_
                · exact ⟨S8.trail.length, G7, col8, V8, outv, ua, S8.all.getD j [], ats.getD j 0, ls, made, _, E8, hle8, hpV, ra, ⟨XX.mk_, XX.at_, XX.at_.2 j hj, fun y hy => .inl (by rw [List.take_length]; exact hcj y hy), XX.oks _ (getDL_mem hj), XX.short _ (getDL_mem hj), .inl (XX.ne _ (getDL_mem hj))⟩, by omega, Nat.le_refl _, rfl, hold ⟨rfl, rfl, rfl, rfl, rfl, rfl, rfl, rfl, rfl, rfl, trivial⟩⟩
                · clear E8 hle8 ra k1 hk hk1 hk2 hm2 hcl h0 hcj hj nd hneg E7 row7 hG7 S7 A7 hle6 E6 hG hpo hlm htl
                  have htl : S8.trail.length ≤ N := htl0
                  rintro i _ h9 ⟨_, G9, col9, V9, outv9, cvv, c, mm, ls9, made9, E, E9, hG9, hp9, rowc, X9, hb9, hi9, rfl, rfl⟩
                  have hle9 : h.le h9 := AH.le.trans' hg.le (AH.le.trans' hG9 E9.C.hs.le)
                  repeat (first | refine EvO.plain rfl rfl rfl rfl rfl rfl ?_ | refine EvC.seq ?_ | refine EvC.region rfl ?_ | refine EvO.nil ?_ | refine at_normal ?_)
                  refine EvC.decide rfl (fun hi0 => ?_) (fun hi0 => ?_)
                  · have hOB : ∃ i', i = i' + 1 := ⟨i - 1, by omega⟩
                    obtain ⟨i, rfl⟩ := hOB
                    have hil : i < S8.trail.length := by omega
                    have hlo := E9.t1 _ (getD_mem hil)
                    have hlo' := hlo
                    obtain ⟨o0, o1, o2⟩ := hlo'
                    have f3 := E9.C.fld (gt := gt) (t := 35) (off := 3) rfl rfl rfl
                    have hOB := vec_int_at (gt := gt) E9.C.trail (i := ((i + 1 : Nat) : Int) - 1) (by omega) (by omega)
                    obtain ⟨pa, i1, i2⟩ := hOB
                    rw [show (((i + 1 : Nat) : Int) - 1).toNat = i by omega] at i2
                    have f2 := E9.C.fld (gt := gt) (t := 35) (off := 2) rfl rfl rfl
                    have hwv : Vec col9 4 h9 3 1 V9.wv S8.why.length (S8.why.map (AV.int .i64)) := by rw [hwhy.1]; exact E9.C.why
                    have hwl := hwhy.1
                    have hOB := vec_int_at (gt := gt) hwv (i := max (S8.trail.getD i 0) (-S8.trail.getD i 0)) (by omega) (by omega)
                    obtain ⟨pb, j1, j2⟩ := hOB
                    have rs := hwhy.2 i hil
                    subst hp9
                    generalize hwe : S8.why.getD (max (S8.trail.getD i 0) (-S8.trail.getD i 0)).toNat 0 = w at *
                    repeat (first | refine EvO.plain rfl rfl rfl rfl rfl rfl ?_ | refine EvO.plain rfl rfl rfl rfl rfl (by assumption) ?_ | refine EvC.seq ?_ | refine EvC.region rfl ?_ | refine EvO.nil ?_ | refine at_normal ?_ | refine EvC.skip ?_ | refine EvC.block ?_ | refine EvO.cons rfl rfl rfl (EvP.neg64 rfl (by omega) ?_) | refine EvO.cons rfl rfl rfl (EvP.max rfl rfl rfl rfl ?_))
                    (refine EvO.cons rfl rfl rfl (EvP.bool rfl rfl (fun q1 => ?_) (fun q1 => ?_)))
                    · have q1 := of_decide_eq_true q1
                      have htk : S8.trail.getD i 0 ∈ neg (P.getD q []) := by
                        rcases rs with ⟨_, h'⟩ | ⟨wn, rfl, _⟩
                        · exact h'
                        · omega
                      repeat (first | refine EvO.plain rfl rfl rfl rfl rfl rfl ?_ | refine EvO.nil ?_ | refine at_normal ?_ | refine EvO.off rfl rfl rfl ?_)
                      refine EvC.cond (t := true) rfl (fun _ => ?_) (fun e => nomatch e)
                      repeat (first | refine EvO.plain rfl rfl rfl rfl rfl rfl ?_ | refine EvC.region rfl ?_ | refine EvO.nil ?_ | refine at_normal ?_ | refine EvC.exit ?_ | refine at_exit ?_ | refine be_same rfl ?_ | refine ro_normal ?_ | refine EvO.cons rfl rfl rfl (EvP.sub64 rfl rfl (by omega) ?_))
                      exact ⟨i, by omega, i, G9, col9, V9, outv9, cvv, c, mm, ls9, made9, _, E9, hG9, rfl, rowc, X9.skip hil (.inl htk), by omega, by omega, rfl, hold ⟨rfl, rfl, rfl, rfl, rfl, rfl, congrArg (AV.int .i64) (by omega), rfl, rfl, rfl, trivial⟩⟩
                    · have q1 := of_decide_eq_false q1
                      rcases rs with ⟨e, _⟩ | ⟨wn, rfl, hwn, hxin, hoth⟩
                      · omega
                      · have hsc := X9.short
                        clear f3 i1 i2 f2 j1 j2
                        repeat (first | refine EvO.plain rfl rfl rfl rfl rfl rfl ?_ | refine EvO.plainOn rfl rfl rfl rfl rfl rfl ?_ | refine EvO.on rfl rfl rfl (EvP.neg64 rfl (by omega) ?_))
                        refine EvO.on rfl rfl rfl (EvP.callF rfl rfl rfl rfl (EvF.mono (containsI_spec (RowOf.mono E9.C.hs.le rowc) (-S8.trail.getD i 0) (by omega)) ?_))
                        rintro _ h9 _ ⟨rfl, rfl⟩
                        by_cases hin : -S8.trail.getD i 0 ∈ c
                        · rw [decide_eq_true hin]
                          repeat (first | refine EvO.plain rfl rfl rfl rfl rfl rfl ?_ | refine EvO.nil ?_ | refine at_normal ?_ | refine EvO.plainOn rfl rfl rfl rfl rfl rfl ?_)
                          refine EvC.cond (t := false) rfl (fun e => nomatch e) (fun _ => ?_)
                          have hal := X9.at_.1
                          have hd1 := XX.oks _ (getDL_mem hwn)
                          have hd2 := XX.short _ (getDL_mem hwn)
                          have hOB := vec_int_at (gt := gt) E9.at_ (i := (wn : Int)) (by omega) (by omega)
                          obtain ⟨pc', g1, g2⟩ := hOB
                          rw [Int.toNat_natCast] at g2
                          repeat (first | refine EvO.plain rfl rfl rfl rfl rfl rfl ?_ | refine EvO.plain rfl rfl rfl rfl rfl (by assumption) ?_ | refine EvC.seq ?_ | refine EvC.region rfl ?_ | refine at_normal ?_ | refine EvC.skip ?_)
                          (refine EvO.cons rfl rfl rfl (EvP.newC (b := .cells [.int .i64 0, .int .i64 0, .int .i64 0] 43 false) (mk := .ptr) E9.C.hs (2 * N + 11) rfl rfl (by omega) (fun h10 lid col10 A10 S10 o10 c10 _ => ?_)))
                          have hOB := E9.other' A10 S10
                          obtain ⟨V10, u10, E10⟩ := hOB
                          skip
                          (refine EvO.cons0 rfl rfl (EvP.storeC (v := .agg [.int .i64 (ats.getD wn 0), .int .i64 mm, .int .i64 (S8.trail.getD i 0)]) S10 (2 * N + 11) o10 c10 (by omega) rfl rfl rfl rfl rfl (by show 0 + 3 ≤ 3; decide) (fun h11 A11 S11 o11 _ _ => ?_)))
                          have o11 : h11.t.get lid = some (.cells [.int .i64 (ats.getD wn 0), .int .i64 mm, .int .i64 (S8.trail.getD i 0)] 43 false) := o11
                          have c11 : col10 lid = 2 * N + 11 := c10
                          have hOB := E10.other' A11 S11
                          obtain ⟨V11, u11, E11⟩ := hOB
                          have u11 := u11.trans u10
                          clear g1 g2
                          repeat (first | refine EvO.plain rfl rfl rfl rfl rfl rfl ?_ | refine EvC.seq ?_ | refine EvC.region rfl ?_ | refine EvO.nil ?_ | refine at_normal ?_)
                          have hw0 : (0 : Int) ≤ (wn : Int) := Int.natCast_nonneg wn
                          have hw1 : (wn : Int) < (S8.all.length : Nat) := Int.ofNat_lt.2 hwn
                          have X12 := X9.next hil hN hwn XX.oks hlo hxin hoth hin
                          have hOB := ex_row (gt := gt) E11 hwn u11
                          obtain ⟨av1, pd, ad, f0, d1, d2, rd⟩ := hOB
                          have hba : ∀ x ∈ S8.all.getD wn [], -1000000 ≤ x ∧ x ≤ 1000000 := fun x hx => by have := hd1 x hx; unfold ok at this; omega
                          have hc36 : c.length ≤ 2 ^ 36 := by omega
                          have hd36 : (S8.all.getD wn []).length ≤ 2 ^ 36 := by omega
                          have hlb : S8.trail.getD i 0 < 0 → 1 ≤ -S8.trail.getD i 0 ∧ -S8.trail.getD i 0 ≤ 9223372036854775807 := fun h => by omega
                          have hbc : ∀ x ∈ c, -1000000 ≤ x ∧ x ≤ 1000000 := fun x hx => by have := X9.oks x hx; unfold ok at this; omega
                          refine EvC.join (fun σ h' => ∃ (G' : AH) (col' : Nat → Nat) (V' : Lay) (cv' : AV) (E' : Nat → AV), EX G' h' col' N V' S8 atv ats outv9 ls9.length (ls9.flatMap lineC) ∧ h2.le G' ∧ V'.p = V9.p ∧ IntRow G' cv' (resAt (S8.all.getD wn []) c (S8.trail.getD i 0)) ∧ h'.t.get lid = some (.cells (lineC (lineAt (ats.getD wn 0) mm (S8.trail.getD i 0))) 43 false) ∧ σ = upds [(8, outv9), (9, .int .i64 L.length), (10, .ptr V9.p 0), (11, atv), (17, cv'), (19, .int .i64 (((i + 1 : Nat) : Int) - 1)), (22, .ptr lid 0), (60, pv), (61, .int .i64 P.length), (62, .int .i64 q)] E') ?_ ?_
                          · refine EvC.decide rfl (fun hng => ?_) (fun hng => ?_)
                            · have hOB := vec_int_at (gt := gt) E11.at_ (i := (wn : Int)) (by omega) (by omega)
                              obtain ⟨pc', g1, g2⟩ := hOB
                              rw [Int.toNat_natCast] at g2
                              clear f0 d1 d2
                              repeat (first | refine EvO.plain rfl rfl rfl rfl rfl rfl ?_ | refine EvO.plain rfl rfl rfl rfl rfl (by assumption) ?_ | refine EvC.seq ?_ | refine EvC.region rfl ?_ | refine EvO.cons rfl rfl rfl (EvP.neg64 rfl (by omega) ?_))
                              (refine EvO.cons0 rfl rfl (EvP.storeC (v := .agg [.int .i64 mm, .int .i64 (ats.getD wn 0), .int .i64 (-S8.trail.getD i 0)]) S11 (2 * N + 11) o11 c11 (by omega) rfl rfl rfl rfl rfl (by show 0 + 3 ≤ 3; decide) (fun h12 A12 S12 o12 _ _ => ?_)))
                              rw [lset3] at o12
                              have hE12 := E11.other' A12 S12
                              obtain ⟨V12, u12, E12⟩ := hE12
                              have u12 := u12.trans u11
                              clear g1 g2
                              repeat (first | refine EvO.plain rfl rfl rfl rfl rfl rfl ?_ | refine EvC.region rfl ?_ | refine EvO.nil ?_ | refine at_normal ?_)
                              have hr12 := ex_row (gt := gt) E12 hwn u12
                              obtain ⟨av', pd, ad', f0, d1, d2, rd'⟩ := hr12
                              repeat (first | refine EvO.plain rfl rfl rfl rfl rfl rfl ?_ | refine EvO.plain rfl rfl rfl rfl rfl (by assumption) ?_ | refine EvO.cons rfl rfl rfl (EvP.neg64 rfl (by omega) ?_))
                              (refine EvO.cons rfl rfl rfl (EvP.callF rfl rfl rfl rfl (EvF.mono (resolve_spec S12 rowc rd' hc36 hd36 hbc hba (-S8.trail.getD i 0) (hlb hng)) ?_)))
                              rintro r h13 _ ⟨A13, G13, S13, hG13, hr⟩
                              rcases hr with ⟨_, w', rfl, rw13, _⟩ | ⟨hno, _⟩
                              · repeat (first | refine EvO.plain rfl rfl rfl rfl rfl rfl ?_ | refine EvO.nil ?_ | refine jo_normal ?_)
                                exact ⟨G13, _, _, w', _, E12.more A13 S13 hG13, AH.le.trans' hG9 hG13, u12, by unfold resAt; rw [if_pos hng]; exact rw13, by unfold lineAt; rw [if_pos hng]; exact (A13.get S12.wf o12 (fun e => e)).1, hold ⟨rfl, rfl, rfl, rfl, rfl, rfl, rfl, rfl, rfl, rfl, trivial⟩⟩
                              · exact absurd ⟨hin, by rw [Int.neg_neg]; exact hxin⟩ hno
                            · repeat (first | refine EvO.plain rfl rfl rfl rfl rfl rfl ?_ | refine EvO.plain rfl rfl rfl rfl rfl (by assumption) ?_ | refine EvC.region rfl ?_)
                              (refine EvO.cons rfl rfl rfl (EvP.callF rfl rfl rfl rfl (EvF.mono (resolve_spec S11 rd rowc (by omega) (by omega) hba hbc (S8.trail.getD i 0) (by omega)) ?_)))
                              rintro r h13 _ ⟨A13, G13, S13, hG13, hr⟩
                              rcases hr with ⟨_, w', rfl, rw13, _⟩ | ⟨hno, _⟩
                              · repeat (first | refine EvO.plain rfl rfl rfl rfl rfl rfl ?_ | refine EvO.nil ?_ | refine jo_normal ?_)
                                exact ⟨G13, _, _, w', _, E11.more A13 S13 hG13, AH.le.trans' hG9 hG13, u11, by unfold resAt; rw [if_neg hng]; exact rw13, by unfold lineAt; rw [if_neg hng]; exact (A13.get S11.wf o11 (fun e => e)).1, hold ⟨rfl, rfl, rfl, rfl, rfl, rfl, rfl, rfl, rfl, rfl, trivial⟩⟩
                              · exact absurd ⟨hxin, hin⟩ hno
                          · rintro σ h12 ⟨G12, col12, V12, cv12, E', E12, hG12, hp12, row12, o12, rfl⟩
                            clear f0 d1 d2
                            generalize lineAt (ats.getD wn 0) mm (S8.trail.getD i 0) = x at *
                            obtain ⟨xa, xb, xv⟩ := x
                            have f12 := loadAgg (T := TT gt) (t := 43) (off := 0) (n := 3) (r := [.int .i64 xa, .int .i64 xb, .int .i64 xv]) o12 rfl rfl
                            have hqN : q * N ≤ 80 * 30 := Nat.mul_le_mul (by omega) hN
                            have hxl := XX.lines
                            repeat (first | refine EvO.plain rfl rfl rfl rfl rfl rfl ?_ | refine EvO.plain rfl rfl rfl rfl rfl (by assumption) ?_ | refine EvC.seq ?_ | refine EvC.region rfl ?_ | refine at_normal ?_)
                            (refine EvO.cons rfl rfl rfl (EvP.newR (b := .cells [.int .i64 xa, .int .i64 xb, .int .i64 xv] 43 false) (mk := .slice 1 1 true) E12.C.hs rfl (show abuildSlice (TT gt) 40 1 [(0, .agg [.int .i64 xa, .int .i64 xb, .int .i64 xv])] = _ from build3 (gt := gt) xa xb xv) (fun h13 id13 A13 S13 hle13 o13 _ _ => ?_)))
                            have E13 := E12.more A13 S13 hle13
                            (refine EvO.cons rfl rfl rfl (EvP.appendC S13 E13.out (by omega) rfl rfl rfl rfl rfl rfl rfl rfl rfl (by decide) rfl rfl (afirst_all o13 rfl) rfl (by decide) rfl (by show (ls9.length + 1) * 24 ≤ 70368744177664; omega) (by show ls9.length + 1 ≤ 1099511627776; omega) (fun w14 h14 col14 A14 S14 V14 => ?_)))
                            have hOB := E13.setOut' (o' := (ls9 ++ [(xa, xb, xv)]).length) (cells' := (ls9 ++ [(xa, xb, xv)]).flatMap lineC) A14 S14 (by rw [List.length_append, List.flatMap_append]; exact V14)
                            obtain ⟨V14, u14, E14⟩ := hOB
                            have lo := E14.out.row.len_any (T := TT gt) (t := 40) rfl h14
                            have hlo14 : (ls9 ++ [(xa, xb, xv)]).length = ls9.length + 1 := by simp
                            repeat (first | refine EvO.plain rfl rfl rfl rfl rfl rfl ?_ | refine EvO.plain rfl rfl rfl rfl rfl (by assumption) ?_ | refine EvC.seq ?_ | refine EvC.region rfl ?_ | refine EvO.nil ?_ | refine at_normal ?_)
                            refine EvC.cond (t := false) (isT (decide_eq_false (by omega))) (fun e => nomatch e) (fun _ => ?_)
                            repeat (first | refine EvO.plain rfl rfl rfl rfl rfl rfl ?_ | refine EvO.plain rfl rfl rfl rfl rfl (by assumption) ?_ | refine EvC.region rfl ?_ | refine EvO.nil ?_ | refine at_normal ?_ | refine EvC.skip ?_ | refine be_normal ?_ | refine ro_normal ?_ | refine EvO.cons rfl rfl rfl (EvP.add64 rfl rfl (by omega) ?_) | refine EvO.cons rfl rfl rfl (EvP.sub64 rfl rfl (by omega) ?_))
                            exact ⟨i, by omega, i, _, col14, _, w14, cv12, _, _, ls9 ++ [(xa, xb, xv)], _, _, E14, AH.le.trans' hG12 hle13, u14.trans hp12, RowOf.mono hle13 row12, X12, by omega, by omega, rfl, hold ⟨rfl, rfl, rfl, rfl, rfl, congrArg (AV.int .i64) (by omega), congrArg (AV.int .i64) (by omega), rfl, rfl, rfl, trivial⟩⟩
                        · rw [decide_eq_false hin]
                          repeat (first | refine EvO.plain rfl rfl rfl rfl rfl rfl ?_ | refine EvO.nil ?_ | refine at_normal ?_ | refine EvO.plainOn rfl rfl rfl rfl rfl rfl ?_)
                          refine EvC.cond (t := true) rfl (fun _ => ?_) (fun e => nomatch e)
                          repeat (first | refine EvO.plain rfl rfl rfl rfl rfl rfl ?_ | refine EvC.region rfl ?_ | refine EvO.nil ?_ | refine at_normal ?_ | refine EvC.exit ?_ | refine at_exit ?_ | refine be_same rfl ?_ | refine ro_normal ?_ | refine EvO.cons rfl rfl rfl (EvP.sub64 rfl rfl (by omega) ?_))
                          exact ⟨i, by omega, i, G9, col9, V9, outv9, cvv, c, mm, ls9, made9, _, E9, hG9, rfl, rowc, X9.skip hil (.inr hin), by omega, by omega, rfl, hold ⟨rfl, rfl, rfl, rfl, rfl, rfl, congrArg (AV.int .i64) (by omega), rfl, rfl, rfl, trivial⟩⟩
                  · have hOB : i = 0 := by omega
                    obtain rfl := hOB
                    have hsc := X9.short
                    have hqN : q * N ≤ 80 * 30 := Nat.mul_le_mul (by omega) hN
                    have hxl := XX.lines
                    have hxs := XX.small
                    have hxf := XX.few
                    subst hp9
                    repeat (first | refine EvO.plain rfl rfl rfl rfl rfl rfl ?_ | refine EvC.seq ?_ | refine EvC.region rfl ?_ | refine at_normal ?_ | refine EvC.exit ?_ | refine at_exit ?_ | refine be_same rfl ?_ | refine ro_exit ?_)
                    (refine EvO.cons rfl rfl rfl (EvP.callF rfl rfl rfl rfl (EvF.mono (ex_add E9 rowc X9.oks (by omega) (by omega)) ?_)))
                    rintro _ h10 _ ⟨col10, V10, S10, E10, r1, r2, r3, r4⟩
                    repeat (first | refine EvO.plain rfl rfl rfl rfl rfl rfl ?_ | refine EvC.seq ?_ | refine EvC.region rfl ?_ | refine EvO.nil ?_ | refine at_normal ?_)
                    (refine EvO.cons rfl rfl rfl (EvP.newR (b := .cells [.int .i64 mm] 3 false) (mk := .slice 1 1 true) E10.C.hs rfl rfl (fun h11 id11 A11 S11 hle11 o11 _ _ => ?_)))
                    have E11 := E10.more A11 S11 hle11
                    have hal := XX.at_.1
                    (refine EvO.cons rfl rfl rfl (EvP.appendC S11 E11.at_ (by omega) rfl rfl rfl rfl rfl rfl rfl rfl rfl (by decide) rfl rfl (afirst_all o11 rfl) rfl (by decide) rfl (by show (ats.length + 1) * 8 ≤ 70368744177664; omega) (by omega) (fun w12 h12 col12 A12 S12 V12 => ?_)))
                    have hOB := E11.setAt' (ats' := ats ++ [mm]) A12 S12 (by rw [List.length_append, List.map_append]; exact V12)
                    obtain ⟨V12, u12, E12⟩ := hOB
                    have lc := RowOf.len_any (T := TT gt) (t := 35) rowc rfl h12
                    have hG12 := AH.le.trans' hG9 hle11
                    repeat (first | refine EvO.plain rfl rfl rfl rfl rfl rfl ?_ | refine EvO.plain rfl rfl rfl rfl rfl (by assumption) ?_ | refine EvC.seq ?_ | refine EvC.region rfl ?_ | refine EvO.nil ?_ | refine at_normal ?_)
                    by_cases hce : c = []
                    · refine EvC.cond (t := true) (isT (beq_true (by rw [hce]; rfl))) (fun _ => ?_) (fun e => nomatch e)
                      repeat (first | refine EvO.plain rfl rfl rfl rfl rfl rfl ?_ | refine EvC.seq ?_ | refine EvC.region rfl ?_ | refine EvO.nil ?_ | refine at_normal ?_ | refine EvC.ret ?_ | refine EvC.exit ?_ | refine at_exit ?_ | refine be_same rfl ?_ | refine be_other rfl ?_ | refine ro_exit ?_)
                      (refine ret_are (vs := [outv9, .int .i64 0]) rfl rfl ?_)
                      have hnew : 0 < ls9.length ∧ mm + 1 = L.length + ls9.length := X9.new.elim (fun h => absurd hce h) id
                      have hOB := X9.num
                      obtain ⟨kk, e1, e2, e3⟩ := hOB
                      have hmk := X9.mk_.2
                      refine ⟨⟨AH.le.trans' hg.le (AH.le.trans' hG12 S12.le), S12.wf⟩, .inr (.inr (.inr ⟨hv, href, hne, outv9, ls9, made9, rfl, lines_row E12.out, X9.mk_, hnew.1, by omega, ?_⟩))⟩
                      rw [hce, List.getD_eq_getElem?_getD, List.getElem?_append_right (by omega), ← List.getD_eq_getElem?_getD] at e3
                      rw [← e3]
                      congr 1
                      omega
                    · refine EvC.cond (t := false) (isT (beq_false (by have : c.length ≠ 0 := fun e => hce (List.eq_nil_of_length_eq_zero e); omega))) (fun e => nomatch e) (fun _ => ?_)
                      clear lc
                      repeat (first | refine EvO.plain rfl rfl rfl rfl rfl rfl ?_ | refine EvC.region rfl ?_ | refine EvO.nil ?_ | refine at_normal ?_ | refine EvC.skip ?_ | refine be_normal ?_ | refine ro_normal ?_ | refine EvO.cons rfl rfl rfl (EvP.add64 rfl rfl (by omega) ?_))
                      have hqs : (q + 1) * N = q * N + N := Nat.succ_mul q N
                      exact ⟨P.length - (q + 1), by omega, q + 1, _, col12, _, S10, w12, ats ++ [mm], outv9, ls9, made9, _, E12, hG12, u12.trans r1, by rw [r2]; exact XX.next hlt X9 hce (by omega), by omega, rfl, hold ⟨rfl, rfl, rfl, rfl, rfl, rfl, rfl, trivial⟩⟩
            · have hOB : q = P.length := by omega
              obtain rfl := hOB
              exact absurd href.2.1 (XX.steps (P.length - 1) (by have := href.1; omega))
  · have hOB := x1 hv
    obtain ⟨rfl, rfl⟩ := hOB
    repeat (first | refine EvO.plain rfl rfl rfl rfl rfl rfl ?_ | refine EvC.seq ?_ | refine EvC.region rfl ?_ | refine EvO.nil ?_ | refine at_normal ?_)
    refine EvC.cond (t := true) rfl (fun _ => ?_) (fun e => nomatch e)
    repeat (first | refine EvO.plain rfl rfl rfl rfl rfl rfl ?_ | refine EvC.seq ?_ | refine EvC.region rfl ?_ | refine EvO.nil ?_ | refine at_normal ?_ | refine EvC.ret ?_ | refine at_ret ?_)
    (refine ret_are (vs := [.nilSlice, .int .i64 2]) rfl rfl ?_)
    exact ⟨⟨hg.le, hg.wf⟩, .inl ⟨hv, rfl⟩⟩
end Pf
end Go.Proofs.YtfjloafebkjadaaGreatDoor
