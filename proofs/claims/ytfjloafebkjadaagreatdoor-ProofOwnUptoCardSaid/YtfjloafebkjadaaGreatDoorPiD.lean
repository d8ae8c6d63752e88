/- What Core answers. -/
import Derived.Test.YtfjloafebkjadaaGreatDoorPiC
namespace Go.Proofs.YtfjloafebkjadaaGreatDoor
namespace Pf
open Go Go.AI Go.Proofs
variable {gt : Tree (List AV)}
/-- Numbers that rise, below one. -/
def RisesTo (A : List Int) (m : Nat) : Prop := A.Pairwise (· < ·) ∧ ∀ x ∈ A, 0 ≤ x ∧ x < m
/-- What Core says. -/
def CoreSays (n : Int) (L P : List (List Int)) (r : AV) (h : AH) : Prop :=
  (¬ (valid n L ∧ ∀ i, i < P.length → ∀ x ∈ P.getD i [], ok n x) ∧ r = .tuple [.nilSlice, .nilSlice, .int .i64 2]) ∨
  ((valid n L ∧ ∀ i, i < P.length → ∀ x ∈ P.getD i [], ok n x) ∧ ¬ Refutes L P ∧ r = .tuple [.nilSlice, .nilSlice, .int .i64 43]) ∨
  ((valid n L ∧ ∀ i, i < P.length → ∀ x ∈ P.getD i [], ok n x) ∧ Refutes L P ∧ ∃ av bv A B, r = .tuple [av, bv, .int .i64 0] ∧ IntRow h av A ∧ IntRow h bv B ∧ RisesTo A L.length ∧ RisesTo B P.length ∧ Refutes (nth L A) (nth P B))
theorem pick_rises {need : Int → Bool} {a m : Nat} : RisesTo (pick need a m) m := ⟨pick_sorted, fun x hx => by
  have hOB := mem_pick.1 hx
  obtain ⟨j, rfl, hj, _⟩ := hOB
  omega⟩
theorem pick_len {need : Int → Bool} {a m : Nat} : (pick need a m).length ≤ m := by
  unfold pick
  rw [List.length_map]
  exact Nat.le_trans (List.length_filter_le ..) (by rw [List.length_range]; exact Nat.le_refl _)
theorem take_app {L P : List (List Int)} {k : Nat} : (L ++ P).take (L.length + k) = L ++ P.take k := by
  rw [List.take_append, List.take_of_length_le (by omega)]
  congr 2; omega
theorem take_next2 {L : List (List Int)} {i : Nat} (h : i < L.length) : L.take (i + 1) = L.take i ++ [L.getD i []] := by
  rw [List.take_add_one, List.getD_eq_getElem?_getD, List.getElem?_eq_getElem h]; rfl
theorem getD_take {L : List (List Int)} {m j : Nat} (h : j < m) : (L.take m).getD j [] = L.getD j [] := by
  rw [List.getD_eq_getElem?_getD, List.getD_eq_getElem?_getD, List.getElem?_take, if_pos h]
theorem total_take_le (L : List (List Int)) (k : Nat) : total (L.take k) ≤ total L := total_le L k
theorem pick_no {need : Int → Bool} {i l : Nat} (h : need (i : Int) = false) : pick need 0 (min (i + 1) l) = pick need 0 (min i l) ∧ pick need l (i + 1 - l) = pick need l (i - l) := by
  have hOB := Nat.lt_or_ge i l
  rcases hOB with h' | h'
  · rw [Nat.min_eq_left (by omega), Nat.min_eq_left (by omega), pick_succ, Nat.zero_add, h, show i + 1 - l = 0 by omega, show i - l = 0 by omega]
    simp
  · rw [Nat.min_eq_right (by omega), Nat.min_eq_right (by omega), show i + 1 - l = (i - l) + 1 by omega, pick_succ, show l + (i - l) = i by omega, h]
    simp
theorem pick_lo {need : Int → Bool} {i l : Nat} (h' : i < l) (h : need (i : Int) = true) : pick need 0 (min (i + 1) l) = pick need 0 (min i l) ++ [(i : Int)] ∧ pick need l (i + 1 - l) = pick need l (i - l) := by
  rw [Nat.min_eq_left (by omega), Nat.min_eq_left (by omega), pick_succ, Nat.zero_add, h, show i + 1 - l = 0 by omega, show i - l = 0 by omega]
  simp
theorem pick_hi {need : Int → Bool} {i l : Nat} (h' : l ≤ i) (h : need (i : Int) = true) : pick need 0 (min (i + 1) l) = pick need 0 (min i l) ∧ pick need l (i + 1 - l) = pick need l (i - l) ++ [(i : Int) - l] := by
  rw [Nat.min_eq_right (by omega), Nat.min_eq_right (by omega), show i + 1 - l = (i - l) + 1 by omega, pick_succ, show l + (i - l) = i by omega, h, show (i : Int) - l = ((i - l : Nat) : Int) by omega]
  simp
set_option maxHeartbeats 40000000 in
theorem Core_spec {h : AH} (hw : WF h) {n : Int} {cl pv : AV} {L P : List (List Int)} {cv pc : Nat → AV} (C : CnfAt h n cl L cv) (D : CnfAt h n pv P pc) (nc : NZ cl) (np : NZ pv) (hn : n ≤ 30 ∨ n > 50000) (hL : L.length ≤ 80) (hP : P.length ≤ 80) (hb : total L + total P ≤ 500) :
    EvF (TT gt) X 20 [.agg [.int .i64 n, cl], pv] h (fun r h' => (h.le h' ∧ WF h') ∧ CoreSays n L P r h') := by
  refine EvF.enter rfl rfl rfl ?_
  repeat (first | refine EvC.seq ?_ | refine EvC.region rfl ?_)
  (refine EvO.cons rfl rfl rfl (EvP.new (b := .cells [.int .i64 n, cl] 24 false) (mk := .ptr) rfl rfl hw (fun h1 b hg1 hb1 hfr => ?_)))
  have f1 := loadAgg (T := TT gt) (t := 24) (off := 0) (n := 2) (r := [.int .i64 n, cl]) hb1 rfl rfl
  repeat (first | refine EvO.plain rfl rfl rfl rfl rfl rfl ?_ | refine EvO.plain rfl rfl rfl rfl rfl (by assumption) ?_ | refine EvC.seq ?_ | refine EvC.region rfl ?_ | refine EvO.nil ?_ | refine at_normal ?_)
  (refine EvO.cons rfl rfl rfl (EvP.callF rfl rfl rfl rfl (EvF.mono (check_spec hg1.wf (C.mono hg1.le) (D.mono hg1.le) (by omega) (by omega)) ?_)))
  rintro _ h2 hn2 ⟨⟨hl2, hw2⟩, is, e, rfl, x1, x2⟩
  have hg2 : Grew h1 h2 := ⟨hl2, hw2, hn2⟩
  have hg := hg1.trans hg2
  clear f1
  have b2 := hg2.le _ _ hb1
  by_cases hv : valid n L ∧ ∀ i, i < P.length → ∀ x ∈ P.getD i [], ok n x
  · have hOB := x2 hv
    obtain ⟨rfl, x3⟩ := hOB
    have hvv := hv
    obtain ⟨⟨v0, v1, v2, v3, v4⟩, hp⟩ := hvv
    have hOB : ∃ N : Nat, n = N := ⟨n.toNat, by omega⟩
    obtain ⟨N, rfl⟩ := hOB
    have hN : N ≤ 30 := by omega
    repeat (first | refine EvO.plain rfl rfl rfl rfl rfl rfl ?_ | refine EvC.seq ?_ | refine EvC.region rfl ?_ | refine EvO.nil ?_ | refine at_normal ?_)
    refine EvC.cond (t := false) rfl (fun e => nomatch e) (fun _ => ?_)
    cases is with
    | false =>
      have hnr : ¬ Refutes L P := fun e => (nomatch x3.2 e)
      repeat (first | refine EvO.plain rfl rfl rfl rfl rfl rfl ?_ | refine EvC.seq ?_ | refine EvC.region rfl ?_ | refine EvO.nil ?_ | refine at_normal ?_ | refine EvC.skip ?_)
      refine EvC.cond (t := true) rfl (fun _ => ?_) (fun e => nomatch e)
      repeat (first | refine EvO.plain rfl rfl rfl rfl rfl rfl ?_ | refine EvC.seq ?_ | refine EvC.region rfl ?_ | refine EvO.nil ?_ | refine at_normal ?_ | refine EvC.ret ?_ | refine at_ret ?_)
      (refine ret_are (vs := [.nilSlice, .nilSlice, .int .i64 43]) rfl rfl ?_)
      exact ⟨⟨hg.le, hg.wf⟩, .inr (.inl ⟨hv, hnr, rfl⟩)⟩
    | true =>
      have href := x3.1 rfl
      have hok : ∀ c ∈ L ++ P, ∀ x ∈ c, ok N x := fun c hc => (List.mem_append.1 hc).elim (lits_ok v4 c) (lits_ok hp c)
      have htot : total (L ++ P) ≤ 500 := by rw [total_append]; exact hb
      have hlen : ∀ c ∈ L ++ P, c.length ≤ 500 := fun c hc => by have := len_total hc; omega
      have hall : (L ++ P).length = L.length + P.length := List.length_append
      have f2 := load1 (T := TT gt) (t := 22) (off := 1) b2 rfl rfl rfl
      have ln := C.rows.len_any (T := TT gt) (t := 22) rfl h2
      repeat (first | refine EvO.plain rfl rfl rfl rfl rfl rfl ?_ | refine EvC.seq ?_ | refine EvC.region rfl ?_ | refine EvO.nil ?_ | refine at_normal ?_ | refine EvC.skip ?_)
      refine EvC.cond (t := false) rfl (fun e => nomatch e) (fun _ => ?_)
      repeat (first | refine EvO.plain rfl rfl rfl rfl rfl rfl ?_ | refine EvO.plain rfl rfl rfl rfl rfl (by assumption) ?_ | refine EvC.seq ?_ | refine EvC.region rfl ?_ | refine EvO.nil ?_ | refine at_normal ?_ | refine EvC.skip ?_)
      (refine EvO.cons rfl rfl rfl (EvP.callF rfl rfl rfl rfl (EvF.mono (idx_spec (D.mono hg.le) (by omega) (fun c hc => by have := hlen c (List.mem_append_right _ hc); omega) ⟨P.length - 1, by have := href.1; omega, href.2.1⟩) ?_)))
      rintro _ h2 _ ⟨rfl, e, rfl, he, he0⟩
      repeat (first | refine EvO.plain rfl rfl rfl rfl rfl rfl ?_ | refine EvC.seq ?_ | refine EvC.region rfl ?_ | refine EvO.nil ?_ | refine at_normal ?_)
      have S2 := HS.all hw2
      (refine EvO.cons rfl rfl rfl (EvP.newC (b := .map [] 0) (mk := .map) S2 1 rfl rfl (by decide) (fun h3 nid col A3 S3 o3 c3 _ => ?_)))
      have M3 : MapI col 1 h3 (.map nid) [] := .new o3 c3
      repeat (first | refine EvO.plain rfl rfl rfl rfl rfl rfl ?_ | refine EvO.cons rfl rfl rfl (EvP.add64 rfl rfl (by omega) ?_))
      (refine EvO.cons0 rfl rfl (EvP.mapIns S3 M3 (by decide) keyed_set rfl rfl rfl (fun h4 A4 S4 M4 => ?_)))
      have bm4 := BM.nil.put ((L.length : Int) + e)
      clear f2 ln M3 o3 c3 A3
      have b4 := S4.le _ _ b2
      have f2 := load1 (T := TT gt) (t := 22) (off := 1) b4 rfl rfl rfl
      repeat (first | refine EvO.plain rfl rfl rfl rfl rfl rfl ?_ | refine EvO.plain rfl rfl rfl rfl rfl (by assumption) ?_ | refine EvC.seq ?_ | refine EvC.region rfl ?_ | refine EvO.nil ?_ | refine at_normal ?_)
      (refine EvO.cons rfl rfl rfl (EvP.newR (b := .cells [cl, pv] 22 false) (mk := .slice 2 2 true) S4 rfl (show abuildSlice (TT gt) 139 2 [(0, cl), (1, pv)] = _ from build2 C.rows.sc D.rows.sc) (fun h5 id5 A5 S5 hle5 o5 _ _ => ?_)))
      clear f2
      have row5 : RowOf h5 1 (.slice id5 0 2 2 true) 2 (fun i => [if i = 0 then cl else pv]) := .mk (cs := [cl, pv]) (by unfold cellsOf; rw [o5]) fun i hi => by
        have : i = 0 ∨ i = 1 := by omega
        rcases this with rfl | rfl <;> rfl
      have hle : h.le h5 := AH.le.trans' hg.le (AH.le.trans' hle5 S5.le)
      have M5 := M4.step A5 S4.wf (fun e => e)
      skip
      (refine EvO.cons rfl rfl rfl (EvP.callF rfl rfl rfl rfl (EvF.mono (concat_spec S5.wf (C.mono hle) (D.mono hle) nc (FZ.of_nz np D.rows |>.mono hle) row5 (by omega)) ?_)))
      rintro av h6 _ ⟨col6, A6, V6⟩
      have hOB := publishV S5 A6 (by decide) V6 (by decide)
      obtain ⟨G6, S6, hG6, V6⟩ := hOB
      have M6 := M5.step (Step.hide S5 A6 (by decide)) S5.wf (fun e => e)
      have hG2 : h2.le G6 := AH.le.trans' hle5 hG6
      clear row5 o5 A5 A6 M5 M4 S5 A4 S4 S3 b4 hle5 hG6
      have hra : ∀ i, i < (L ++ P).length → ∃ a, ((List.range L.length).map cv ++ (List.range P.length).map pc)[i]? = some a ∧ IntRow h a ((L ++ P).getD i []) := two_cells C D
      generalize ((List.range L.length).map cv ++ (List.range P.length).map pc) = cells at *
      repeat (first | refine EvO.plain rfl rfl rfl rfl rfl rfl ?_ | refine EvC.seq ?_ | refine EvC.region rfl ?_ | refine EvO.nil ?_ | refine at_normal ?_ | refine EvC.block ?_ | refine EvO.cons rfl rfl rfl (EvP.add64 rfl rfl (by omega) ?_))
      have Mk0 : Marks L P e (L.length + (e + 1)) (fun x => decide ((L.length : Int) + e = x) || (fun _ => false) x) := by
        refine ⟨?_, fun x hx => ?_, fun j h1 h2 => by omega⟩
        · rw [Bool.or_eq_true, decide_eq_true_eq]; left; omega
        · rw [Bool.or_eq_true, decide_eq_true_eq] at hx
          rcases hx with hx | hx
          · exact ⟨L.length + e, by omega, Nat.le_refl _⟩
          · cases hx
      generalize (fun x => decide ((L.length : Int) + e = x) || (fun _ => false) x) = need0 at Mk0 bm4
      refine EvC.loop (fun m σ h' => ∃ (i : Nat) (x : Int) (G : AH) (mm : List (Int × AV)) (need : Int → Bool) (E : Nat → AV), HS G h' col ∧ G6.le G ∧ MapI col 1 h' (.map nid) mm ∧ BM mm need ∧ Marks L P e (L.length + i) need ∧ i ≤ e + 1 ∧ x = (L.length : Int) + i - 1 ∧ m = i ∧ σ = upds [(1, pv), (2, .ptr b 0), (4, .nilSlice), (5, .nilSlice), (8, .int .i64 L.length), (10, .map nid), (11, av), (12, .int .i64 x)] E) (e + 1) ?_ ?_
      · exact ⟨e + 1, _, G6, _, need0, _, S6, fun _ _ e => e, M6, bm4, Mk0, Nat.le_refl _, by omega, rfl, hold ⟨rfl, rfl, rfl, rfl, rfl, rfl, rfl, rfl, trivial⟩⟩
      · clear M6 bm4 Mk0 S6
        rintro i _ h7 ⟨_, x, G, mm, need, E, S7, hG7, M7, bm, Mk, hi, hx, rfl, rfl⟩
        have hle7 : h2.le h7 := AH.le.trans' hG2 (AH.le.trans' hG7 S7.le)
        have V7 := (V6.le hG7).le S7.le
        repeat (first | refine EvO.plain rfl rfl rfl rfl rfl rfl ?_ | refine EvC.seq ?_ | refine EvC.region rfl ?_ | refine EvO.nil ?_ | refine at_normal ?_)
        refine EvC.decide rfl (fun hc => ?_) (fun hc => ?_)
        · have hOB : ∃ k, i = k + 1 := ⟨i - 1, by omega⟩
          obtain ⟨k, rfl⟩ := hOB
          have hOB : x = ((L.length + k : Nat) : Int) := by omega
          obtain rfl := hOB
          have Mk : Marks L P e ((L.length + k) + 1) need := Mk
          cases hnk : need ((L.length + k : Nat) : Int) with
          | false =>
            have fm := bm.look (gt := gt) M7 hnk
            repeat (first | refine EvO.plain rfl rfl rfl rfl rfl rfl ?_ | refine EvO.plain rfl rfl rfl rfl rfl (by assumption) ?_ | refine EvC.seq ?_ | refine EvC.region rfl ?_ | refine EvO.nil ?_ | refine at_normal ?_ | refine EvC.skip ?_ | refine EvC.block ?_)
            refine EvC.cond (t := true) rfl (fun _ => ?_) (fun e => nomatch e)
            clear fm
            repeat (first | refine EvO.plain rfl rfl rfl rfl rfl rfl ?_ | refine EvC.region rfl ?_ | refine EvO.nil ?_ | refine at_normal ?_ | refine EvC.exit ?_ | refine at_exit ?_ | refine be_same rfl ?_ | refine ro_normal ?_ | refine EvO.cons rfl rfl rfl (EvP.sub64 rfl rfl (by omega) ?_))
            exact ⟨k, by omega, k, _, G, mm, need, _, S7, hG7, M7, bm, Mk.skip (.inl hnk), by omega, by omega, rfl, hold ⟨rfl, rfl, rfl, rfl, rfl, rfl, rfl, rfl, trivial⟩⟩
          | true =>
            have fm := bm.look (gt := gt) M7 hnk
            repeat (first | refine EvO.plain rfl rfl rfl rfl rfl rfl ?_ | refine EvO.plain rfl rfl rfl rfl rfl (by assumption) ?_ | refine EvC.seq ?_ | refine EvC.region rfl ?_ | refine EvO.nil ?_ | refine at_normal ?_ | refine EvC.skip ?_ | refine EvC.block ?_)
            refine EvC.cond (t := false) rfl (fun e => nomatch e) (fun _ => ?_)
            clear fm
            have f3 := load1 (T := TT gt) (t := 3) (off := 0) (hle7 _ _ b2) rfl rfl rfl
            repeat (first | refine EvO.plain rfl rfl rfl rfl rfl rfl ?_ | refine EvO.plain rfl rfl rfl rfl rfl (by assumption) ?_ | refine EvC.seq ?_ | refine EvC.region rfl ?_ | refine at_normal ?_ | refine EvC.skip ?_)
            (refine EvO.cons rfl rfl rfl (EvP.callF rfl rfl rfl rfl (EvF.mono (cs_begin (HS.all S7.wf) N (by omega)) ?_)))
            rintro _ h8 hn8 ⟨p, rfl, C8⟩
            have hOB := cut_head (gt := gt) V7 (k := L.length + k) (by omega)
            obtain ⟨sv, fs', Vs⟩ := hOB
            have fs := fs' _ (cs_le C8).1
            clear fs'
            have ls := Vs.row.len_any (T := TT gt) (t := 22) rfl h8
            clear f3
            repeat (first | refine EvO.plain rfl rfl rfl rfl rfl rfl ?_ | refine EvO.plain rfl rfl rfl rfl rfl (by assumption) ?_ | refine EvC.seq ?_ | refine EvC.region rfl ?_ | refine EvO.nil ?_ | refine at_normal ?_ | refine EvC.block ?_)
            clear fs ls
            refine EvC.loop (fun m σ h' => ∃ (j : Nat) (E : Nat → AV), CS h7 h' N p ((L ++ P).take j) ∧ h7.next ≤ h'.next ∧ j ≤ L.length + k ∧ m = L.length + k - j ∧ σ = upds [(1, pv), (2, .ptr b 0), (4, .nilSlice), (5, .nilSlice), (8, .int .i64 L.length), (10, .map nid), (11, av), (12, .int .i64 ((L.length + k : Nat) : Int)), (13, .ptr p 0), (63, sv), (64, .int .i64 ((L.length + k : Nat) : Int)), (65, .int .i64 j)] E) (L.length + k) ?_ ?_
            · exact ⟨0, _, C8, hn8, Nat.zero_le _, rfl, hold ⟨rfl, rfl, rfl, rfl, rfl, rfl, rfl, rfl, rfl, rfl, rfl, rfl, trivial⟩⟩
            · clear C8 hn8
              rintro _ _ h9 ⟨j, E, C9, hn9, hj, rfl, rfl⟩
              repeat (first | refine EvO.plain rfl rfl rfl rfl rfl rfl ?_ | refine EvC.seq ?_ | refine EvC.region rfl ?_ | refine EvO.nil ?_ | refine at_normal ?_)
              refine EvC.decide rfl (fun hc => ?_) (fun hc => ?_)
              · have hlt : j < L.length + k := by omega
                have hlm : (L ++ P).getD j [] ∈ L ++ P := getDL_mem (by omega)
                have hll := hlen _ hlm
                have ht := total_take_le (L ++ P) j
                have hOB := (Vs.le (cs_le C9).1).at1 (T := TT gt) (t := 22) (k := .i64) (i := j) rfl rfl rfl rfl (by omega) (by omega)
                obtain ⟨q, u, i1, i2, i3⟩ := hOB
                rw [Int.toNat_natCast, List.getElem?_take, if_pos hlt] at i3
                have hOB := hra j (by omega)
                obtain ⟨a, k1, ra⟩ := hOB
                rw [k1] at i3
                cases i3
                repeat (first | refine EvO.plain rfl rfl rfl rfl rfl rfl ?_ | refine EvO.plain rfl rfl rfl rfl rfl (by assumption) ?_ | refine EvC.seq ?_ | refine EvC.region rfl ?_ | refine EvO.nil ?_ | refine at_normal ?_ | refine EvC.skip ?_ | refine EvC.block ?_)
                (refine EvO.cons rfl rfl rfl (EvP.callF rfl rfl rfl rfl (EvF.mono (cs_add C9 (RowOf.mono (AH.le.trans' hg.le hle7) ra) (hok _ hlm) (by omega) (by rw [List.length_take]; omega)) ?_)))
                rintro _ h10 hn10 C10
                clear i1 i2
                repeat (first | refine EvO.plain rfl rfl rfl rfl rfl rfl ?_ | refine EvC.region rfl ?_ | refine EvO.nil ?_ | refine at_normal ?_ | refine be_normal ?_ | refine ro_normal ?_ | refine EvO.cons rfl rfl rfl (EvP.add64 rfl rfl (by omega) ?_))
                exact ⟨L.length + k - (j + 1), by omega, j + 1, _, by rw [take_next2 (by omega)]; exact C10, Nat.le_trans hn9 hn10, by omega, by omega, hold ⟨rfl, rfl, rfl, rfl, rfl, rfl, rfl, rfl, rfl, rfl, rfl, rfl, trivial⟩⟩
              · have hOB : j = L.length + k := by omega
                obtain rfl := hOB
                have hlm : (L ++ P).getD (L.length + k) [] ∈ L ++ P := getDL_mem (by omega)
                have hll := hlen _ hlm
                have hOB := (V7.le (cs_le C9).1).at1 (T := TT gt) (t := 22) (k := .i64) (i := ((L.length + k : Nat) : Int)) rfl rfl rfl rfl (by omega) (by omega)
                obtain ⟨q, u, i1, i2, i3⟩ := hOB
                have hOB := hra (L.length + k) (by omega)
                obtain ⟨a, k1, ra⟩ := hOB
                rw [Int.toNat_natCast, k1] at i3
                cases i3
                repeat (first | refine EvO.plain rfl rfl rfl rfl rfl rfl ?_ | refine EvO.plain rfl rfl rfl rfl rfl (by assumption) ?_ | refine EvC.seq ?_ | refine EvC.region rfl ?_ | refine at_normal ?_ | refine EvC.exit ?_ | refine at_exit ?_ | refine be_same rfl ?_ | refine ro_exit ?_)
                (refine EvO.cons rfl rfl rfl (EvP.callF rfl rfl rfl rfl (EvF.mono (cs_opp C9 (RowOf.mono (AH.le.trans' hg.le hle7) ra) (hok _ hlm) (by omega)) ?_)))
                rintro tk h10 hn10 ⟨G10, hG10, row10, C10⟩
                obtain ⟨V, colc, S, rfl, hSall, Ch, W4, U4, B4, T4, Tl4⟩ := C10
                clear i1 i2
                have hSall : S.all = (L ++ P).take (L.length + k) := hSall
                skip
                (refine EvO.cons rfl rfl rfl (EvP.callF rfl rfl rfl rfl (EvF.mono (clash_specW Ch W4 T4 Tl4 row10 (fun x hx => by obtain ⟨y, hy, rfl⟩ := List.mem_map.1 hx; exact ok_neg (hok _ hlm y hy)) (by rw [List.length_map]; omega)) ?_)))
                rintro _ h11 hn11 ⟨kk, colc', tv, tr', why', rfl, hkk, Ch', gd, wy, hm2, hk2⟩
                rw [hSall] at hkk wy hk2
                have hcl : Clash (L ++ P.take k) (neg (P.getD k [])) := href.2.2 k (by omega)
                have hk1 : kk ≠ -1 := fun e' => hkk.1 e' (by rw [take_app, getD_app2]; exact hcl)
                have hle11 : h7.le h11 := AH.le.trans' hG10 Ch'.hs.le
                have S11 := S7.grow hle11 Ch'.hs.wf (Nat.le_trans hn9 (Nat.le_trans hn10 hn11))
                have M11 := M7.le hle11
                repeat (first | refine EvO.plain rfl rfl rfl rfl rfl rfl ?_ | refine EvC.seq ?_ | refine EvC.region rfl ?_ | refine EvO.nil ?_ | refine at_normal ?_)
                refine EvC.decide rfl (fun hneg => ?_) (fun hneg => ?_)
                · have hOB := hk2 hk1 (by omega)
                  obtain ⟨jj, rfl, hjj, hcj⟩ := hOB
                  rw [List.length_take] at hjj
                  repeat (first | refine EvO.plain rfl rfl rfl rfl rfl rfl ?_ | refine EvC.seq ?_ | refine EvC.region rfl ?_)
                  (refine EvO.cons rfl rfl rfl (EvP.callF rfl rfl rfl rfl (EvF.mono (needed_spec Ch' W4.oks (fun c hc => by have := W4.short c hc; rw [hSall] at hc; have := hlen c (List.mem_of_mem_take hc); omega) W4.many gd.oks gd.len gd.nodup (by rw [hSall]; exact wy) (k := jj) (by rw [hSall, List.length_take]; omega)) ?_)))
                  rintro ov h12 _ ⟨col12, out, pn, A12, V12, N12, hol⟩
                  have hOB := publishV S11 A12 (by rintro (e | e) <;> cases e) V12 (by decide)
                  obtain ⟨G12, S12, hG12, V12⟩ := hOB
                  have M12 := M11.step (Step.hide S11 A12 (by rintro (e | e) <;> cases e)) S11.wf (fun e => e)
                  have hol : out.length ≤ 2000 := by have : tr'.length ≤ N := gd.len; have : out.length ≤ tr'.length + 1 := hol; omega
                  have lo := V12.row.len_any (T := TT gt) (t := 35) rfl h12
                  repeat (first | refine EvO.plain rfl rfl rfl rfl rfl rfl ?_ | refine EvO.plain rfl rfl rfl rfl rfl (by assumption) ?_ | refine EvO.nil ?_ | refine at_normal ?_ | refine EvC.block ?_)
                  clear lo
                  refine EvC.loop (fun m σ h' => ∃ (j : Nat) (mm' : List (Int × AV)) (need' : Int → Bool) (E : Nat → AV), HS G12 h' col ∧ MapI col 1 h' (.map nid) mm' ∧ BM mm' need' ∧ (∀ x, need' x = true ↔ need x = true ∨ x ∈ out.take j) ∧ j ≤ out.length ∧ m = out.length - j ∧ σ = upds [(1, pv), (2, .ptr b 0), (4, .nilSlice), (5, .nilSlice), (8, .int .i64 L.length), (10, .map nid), (11, av), (12, .int .i64 ((L.length + k : Nat) : Int)), (84, ov), (85, .int .i64 out.length), (86, .int .i64 j)] E) (out.length) ?_ ?_
                  · exact ⟨0, mm, need, _, S12, M12, bm, fun x => ⟨.inl, fun e => e.elim id (fun e => by simp at e)⟩, Nat.zero_le _, rfl, hold ⟨rfl, rfl, rfl, rfl, rfl, rfl, rfl, rfl, rfl, rfl, rfl, trivial⟩⟩
                  · clear S12 M12
                    rintro _ _ h13 ⟨j, mm', need', E, S13, M13, bm', hnd, hj, rfl, rfl⟩
                    repeat (first | refine EvO.plain rfl rfl rfl rfl rfl rfl ?_ | refine EvC.seq ?_ | refine EvC.region rfl ?_ | refine EvO.nil ?_ | refine at_normal ?_)
                    refine EvC.decide rfl (fun hc => ?_) (fun hc => ?_)
                    · have hlt : j < out.length := by omega
                      have hOB := vec_int_at (gt := gt) (V12.le S13.le) (i := (j : Int)) (by omega) (by omega)
                      obtain ⟨q, i1, i2⟩ := hOB
                      rw [Int.toNat_natCast] at i2
                      repeat (first | refine EvO.plain rfl rfl rfl rfl rfl rfl ?_ | refine EvO.plain rfl rfl rfl rfl rfl (by assumption) ?_ | refine EvC.seq ?_ | refine EvC.region rfl ?_ | refine EvO.nil ?_ | refine at_normal ?_ | refine EvC.skip ?_ | refine EvC.block ?_)
                      (refine EvO.cons0 rfl rfl (EvP.mapPut S13 M13 (by decide) keyed_set rfl rfl rfl (fun h14 A14 S14 M14 => ?_)))
                      clear i1 i2
                      repeat (first | refine EvO.plain rfl rfl rfl rfl rfl rfl ?_ | refine EvC.region rfl ?_ | refine EvO.nil ?_ | refine at_normal ?_ | refine be_normal ?_ | refine ro_normal ?_ | refine EvO.cons rfl rfl rfl (EvP.add64 rfl rfl (by omega) ?_))
                      refine ⟨out.length - (j + 1), by omega, j + 1, _, _, _, S14, M14, bm'.put _, fun x => ?_, by omega, by omega, hold ⟨rfl, rfl, rfl, rfl, rfl, rfl, rfl, rfl, rfl, rfl, rfl, trivial⟩⟩
                      rw [Bool.or_eq_true, decide_eq_true_eq, hnd, mem_take_next hlt]
                      constructor
                      · rintro (e | e | e)
                        · exact .inr (.inr e.symm)
                        · exact .inl e
                        · exact .inr (.inl e)
                      · rintro (e | e | e)
                        · exact .inr (.inl e)
                        · exact .inr (.inr e)
                        · exact .inl e.symm
                    · have hOB : j = out.length := by omega
                      obtain rfl := hOB
                      rw [List.take_length] at hnd
                      repeat (first | refine EvO.plain rfl rfl rfl rfl rfl rfl ?_ | refine EvC.region rfl ?_ | refine EvO.nil ?_ | refine at_normal ?_ | refine EvC.exit ?_ | refine at_exit ?_ | refine be_same rfl ?_ | refine ro_exit ?_ | refine be_normal ?_ | refine ro_normal ?_ | refine EvO.cons rfl rfl rfl (EvP.sub64 rfl rfl (by omega) ?_))
                      refine ⟨k, by omega, k, _, G12, mm', need', _, S13, AH.le.trans' hG7 hG12, M13, bm', Mk.more (by omega) (fun x hx => (hnd x).2 (.inl hx)) (fun x hx => ?_) ?_, by omega, by omega, rfl, hold ⟨rfl, rfl, rfl, rfl, rfl, rfl, rfl, rfl, trivial⟩⟩
                      · have hOB := (hnd x).1 hx
                        rcases hOB with h' | h'
                        · exact .inl h'
                        · have hOB := N12.rng x h'
                          obtain ⟨a, a1, a2⟩ := hOB
                          rw [hSall, List.length_take] at a2
                          exact .inr ⟨a, a1, by omega⟩
                      · rw [hSall] at N12
                        refine N12.clash wy (by rw [List.length_take]; omega) hcj (fun a ha => ?_)
                        have hOB := N12.rng _ ha
                        obtain ⟨a', a1, a2⟩ := hOB
                        rw [List.length_take] at a2
                        have hOB : a = a' := by omega
                        obtain rfl := hOB
                        exact mem_sel.2 ⟨a, by omega, (hnd _).2 (.inr ha), (getD_take (by omega)).symm⟩
                · have e2 : kk = -2 := Classical.byContradiction fun e2 => by
                    have hOB := hk2 hk1 e2
                    obtain ⟨jj, rfl, _⟩ := hOB
                    omega
                  have hOB := hm2 e2
                  obtain ⟨y, y1, y2⟩ := hOB
                  repeat (first | refine EvO.plain rfl rfl rfl rfl rfl rfl ?_ | refine EvC.region rfl ?_ | refine EvO.nil ?_ | refine at_normal ?_ | refine EvC.skip ?_ | refine be_normal ?_ | refine ro_normal ?_ | refine EvO.cons rfl rfl rfl (EvP.sub64 rfl rfl (by omega) ?_))
                  exact ⟨k, by omega, k, _, G, mm, need, _, S11, hG7, M11, bm, Mk.skip (.inr (.inl ⟨y, .tak y1, .tak y2⟩)), by omega, by omega, rfl, hold ⟨rfl, rfl, rfl, rfl, rfl, rfl, rfl, rfl, trivial⟩⟩
        · have hOB : i = 0 := by omega
          obtain rfl := hOB
          rw [Nat.add_zero] at Mk
          have hres := Mk.refutes he he0
          have lv := V7.row.len_any (T := TT gt) (t := 22) rfl h7
          rw [hall] at lv
          repeat (first | refine EvO.plain rfl rfl rfl rfl rfl rfl ?_ | refine EvO.plain rfl rfl rfl rfl rfl (by assumption) ?_ | refine EvC.seq ?_ | refine EvC.region rfl ?_ | refine EvO.nil ?_ | refine at_normal ?_ | refine EvC.block ?_ | refine EvC.exit ?_ | refine at_exit ?_ | refine be_same rfl ?_ | refine ro_exit ?_)
          clear lv
          refine EvC.loop (fun m σ h' => ∃ (i : Nat) (G : AH) (col' : Nat → Nat) (av1 bv1 : AV) (E : Nat → AV), HS G h' col' ∧ MapI col' 1 h' (.map nid) mm ∧ h2.le G ∧ Vec col' 2 h' 3 1 av1 (pick need 0 (min i L.length)).length ((pick need 0 (min i L.length)).map (AV.int .i64)) ∧ Vec col' 3 h' 3 1 bv1 (pick need L.length (i - L.length)).length ((pick need L.length (i - L.length)).map (AV.int .i64)) ∧ i ≤ L.length + P.length ∧ m = L.length + P.length - i ∧ σ = upds [(4, av1), (5, bv1), (8, .int .i64 L.length), (10, .map nid), (94, .int .i64 ((L.length + P.length : Nat) : Int)), (95, .int .i64 i)] E) (L.length + P.length) ?_ ?_
          · exact ⟨0, G, col, .nilSlice, .nilSlice, _, S7, M7, AH.le.trans' hG2 hG7, by rw [Nat.zero_min]; exact .nil, by rw [Nat.zero_sub]; exact .nil, Nat.zero_le _, rfl, hold ⟨rfl, rfl, rfl, rfl, rfl, rfl, trivial⟩⟩
          · clear S7 M7 V7 hle7
            rintro _ _ h8 ⟨i, G, col', av1, bv1, E, S8, M8, hG8, VA, VB, hi, rfl, rfl⟩
            repeat (first | refine EvO.plain rfl rfl rfl rfl rfl rfl ?_ | refine EvC.seq ?_ | refine EvC.region rfl ?_ | refine EvO.nil ?_ | refine at_normal ?_)
            refine EvC.decide rfl (fun hc => ?_) (fun hc => ?_)
            · have hlt : i < L.length + P.length := by omega
              have hpa := pick_len (need := need) (a := 0) (m := min i L.length)
              have hpb := pick_len (need := need) (a := L.length) (m := i - L.length)
              cases hnk : need ((i : Nat) : Int) with
              | false =>
                have fm := bm.look (gt := gt) M8 hnk
                repeat (first | refine EvO.plain rfl rfl rfl rfl rfl rfl ?_ | refine EvO.plain rfl rfl rfl rfl rfl (by assumption) ?_ | refine EvC.seq ?_ | refine EvC.region rfl ?_ | refine EvO.nil ?_ | refine at_normal ?_ | refine EvC.skip ?_ | refine EvC.block ?_ | refine EvO.off rfl rfl rfl ?_)
                refine EvC.cond (t := false) rfl (fun e => nomatch e) (fun _ => ?_)
                repeat (first | refine EvO.plain rfl rfl rfl rfl rfl rfl ?_ | refine EvO.plain rfl rfl rfl rfl rfl (by assumption) ?_ | refine EvC.seq ?_ | refine EvC.region rfl ?_ | refine EvO.nil ?_ | refine at_normal ?_)
                refine EvC.cond (t := false) rfl (fun e => nomatch e) (fun _ => ?_)
                clear fm
                repeat (first | refine EvO.plain rfl rfl rfl rfl rfl rfl ?_ | refine EvC.region rfl ?_ | refine EvO.nil ?_ | refine at_normal ?_ | refine EvC.skip ?_ | refine be_normal ?_ | refine ro_normal ?_ | refine EvO.cons rfl rfl rfl (EvP.add64 rfl rfl (by omega) ?_))
                have hOB := pick_no (l := L.length) hnk
                obtain ⟨pe1, pe2⟩ := hOB
                exact ⟨L.length + P.length - (i + 1), by omega, i + 1, G, col', av1, bv1, _, S8, M8, hG8, by rw [pe1]; exact VA, by rw [pe2]; exact VB, by omega, by omega, hold ⟨rfl, rfl, rfl, rfl, rfl, rfl, trivial⟩⟩
              | true =>
                have fm := bm.look (gt := gt) M8 hnk
                repeat (first | refine EvO.plain rfl rfl rfl rfl rfl rfl ?_ | refine EvO.plain rfl rfl rfl rfl rfl (by assumption) ?_ | refine EvC.seq ?_ | refine EvC.region rfl ?_ | refine EvO.nil ?_ | refine at_normal ?_ | refine EvC.skip ?_ | refine EvC.block ?_ | refine EvO.plainOn rfl rfl rfl rfl rfl rfl ?_)
                (refine EvO.on rfl rfl rfl (EvP.bool rfl rfl (fun q1 => ?_) (fun q1 => ?_)))
                · have q1 := of_decide_eq_true q1
                  repeat (first | refine EvO.plain rfl rfl rfl rfl rfl rfl ?_ | refine EvO.nil ?_ | refine at_normal ?_)
                  refine EvC.cond (t := true) rfl (fun _ => ?_) (fun e => nomatch e)
                  clear fm
                  repeat (first | refine EvO.plain rfl rfl rfl rfl rfl rfl ?_ | refine EvC.region rfl ?_)
                  (refine EvO.cons rfl rfl rfl (EvP.newR (b := .cells [.int .i64 i] 3 false) (mk := .slice 1 1 true) S8 rfl rfl (fun h9 id9 A9 S9 hle9 o9 _ _ => ?_)))
                  (refine EvO.cons rfl rfl rfl (EvP.appendC S9 (VA.step A9 S8.wf (fun e => e)) (by decide) rfl rfl rfl rfl rfl rfl rfl rfl rfl (by decide) rfl rfl (afirst_all o9 rfl) rfl (by decide) rfl (by show ((pick need 0 (min i L.length)).length + 1) * 8 ≤ 70368744177664; omega) (by show (pick need 0 (min i L.length)).length + 1 ≤ 1099511627776; omega) (fun w' h10 col10 A10 S10 V10 => ?_)))
                  have hOB := pick_lo (l := L.length) (by omega) hnk
                  obtain ⟨pe1, pe2⟩ := hOB
                  repeat (first | refine EvO.plain rfl rfl rfl rfl rfl rfl ?_ | refine EvC.region rfl ?_ | refine EvO.nil ?_ | refine at_normal ?_ | refine be_normal ?_ | refine ro_normal ?_ | refine EvO.cons rfl rfl rfl (EvP.add64 rfl rfl (by omega) ?_))
                  exact ⟨L.length + P.length - (i + 1), by omega, i + 1, _, col10, w', bv1, _, S10, (M8.step A9 S8.wf (fun e => e)).step A10 S9.wf (by decide), AH.le.trans' hG8 hle9, by rw [pe1, List.length_append, List.map_append]; exact V10, by rw [pe2]; exact (VB.step A9 S8.wf (fun e => e)).step A10 S9.wf (by decide), by omega, by omega, hold ⟨rfl, rfl, rfl, rfl, rfl, rfl, trivial⟩⟩
                · have q1 := of_decide_eq_false q1
                  repeat (first | refine EvO.plain rfl rfl rfl rfl rfl rfl ?_ | refine EvO.nil ?_ | refine at_normal ?_)
                  refine EvC.cond (t := false) rfl (fun e => nomatch e) (fun _ => ?_)
                  repeat (first | refine EvO.plain rfl rfl rfl rfl rfl rfl ?_ | refine EvO.plain rfl rfl rfl rfl rfl (by assumption) ?_ | refine EvC.seq ?_ | refine EvC.region rfl ?_ | refine EvO.nil ?_ | refine at_normal ?_)
                  refine EvC.cond (t := true) rfl (fun _ => ?_) (fun e => nomatch e)
                  clear fm
                  repeat (first | refine EvO.plain rfl rfl rfl rfl rfl rfl ?_ | refine EvC.region rfl ?_ | refine EvO.cons rfl rfl rfl (EvP.sub64 rfl rfl (by omega) ?_))
                  (refine EvO.cons rfl rfl rfl (EvP.newR (b := .cells [.int .i64 ((i : Int) - L.length)] 3 false) (mk := .slice 1 1 true) S8 rfl rfl (fun h9 id9 A9 S9 hle9 o9 _ _ => ?_)))
                  (refine EvO.cons rfl rfl rfl (EvP.appendC S9 (VB.step A9 S8.wf (fun e => e)) (by decide) rfl rfl rfl rfl rfl rfl rfl rfl rfl (by decide) rfl rfl (afirst_all o9 rfl) rfl (by decide) rfl (by show ((pick need L.length (i - L.length)).length + 1) * 8 ≤ 70368744177664; omega) (by show (pick need L.length (i - L.length)).length + 1 ≤ 1099511627776; omega) (fun w' h10 col10 A10 S10 V10 => ?_)))
                  have hOB := pick_hi (l := L.length) (by omega) hnk
                  obtain ⟨pe1, pe2⟩ := hOB
                  repeat (first | refine EvO.plain rfl rfl rfl rfl rfl rfl ?_ | refine EvC.region rfl ?_ | refine EvO.nil ?_ | refine at_normal ?_ | refine be_normal ?_ | refine ro_normal ?_ | refine EvO.cons rfl rfl rfl (EvP.add64 rfl rfl (by omega) ?_))
                  exact ⟨L.length + P.length - (i + 1), by omega, i + 1, _, col10, av1, w', _, S10, (M8.step A9 S8.wf (fun e => e)).step A10 S9.wf (by decide), AH.le.trans' hG8 hle9, by rw [pe1]; exact (VA.step A9 S8.wf (fun e => e)).step A10 S9.wf (by decide), by rw [pe2, List.length_append, List.map_append]; exact V10, by omega, by omega, hold ⟨rfl, rfl, rfl, rfl, rfl, rfl, trivial⟩⟩
            · have hOB : i = L.length + P.length := by omega
              obtain rfl := hOB
              rw [Nat.min_eq_right (by omega)] at VA
              rw [Nat.add_sub_cancel_left] at VB
              repeat (first | refine EvO.plain rfl rfl rfl rfl rfl rfl ?_ | refine EvC.seq ?_ | refine EvC.region rfl ?_ | refine EvO.nil ?_ | refine at_normal ?_ | refine EvC.ret ?_ | refine EvC.exit ?_ | refine at_exit ?_ | refine be_same rfl ?_ | refine ro_exit ?_)
              (refine ret_are (vs := [av1, bv1, .int .i64 0]) rfl rfl ?_)
              exact ⟨⟨AH.le.trans' hg.le (AH.le.trans' hG8 S8.le), S8.wf⟩, .inr (.inr ⟨hv, href, av1, bv1, _, _, rfl, row_ints VA.row, row_ints VB.row, pick_rises, pick_rises, hres⟩)⟩
  · have hOB := x1 hv
    obtain ⟨rfl, rfl⟩ := hOB
    repeat (first | refine EvO.plain rfl rfl rfl rfl rfl rfl ?_ | refine EvC.seq ?_ | refine EvC.region rfl ?_ | refine EvO.nil ?_ | refine at_normal ?_)
    refine EvC.cond (t := true) rfl (fun _ => ?_) (fun e => nomatch e)
    repeat (first | refine EvO.plain rfl rfl rfl rfl rfl rfl ?_ | refine EvC.seq ?_ | refine EvC.region rfl ?_ | refine EvO.nil ?_ | refine at_normal ?_ | refine EvC.ret ?_ | refine at_ret ?_)
    (refine ret_are (vs := [.nilSlice, .nilSlice, .int .i64 2]) rfl rfl ?_)
    exact ⟨⟨hg.le, hg.wf⟩, .inl ⟨hv, rfl⟩⟩
end Pf
end Go.Proofs.YtfjloafebkjadaaGreatDoor
