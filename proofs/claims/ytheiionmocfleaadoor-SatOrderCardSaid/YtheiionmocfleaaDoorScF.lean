/- The law SatSolves answers true. -/
import Derived.Test.YtheiionmocfleaaDoorSbY
import Derived.Test.YtheiionmocfleaaDoorScD
/- The reference's steps. -/
namespace Go.Proofs.YtheiionmocfleaaDoor
namespace Pf
open Go Go.AI Go.Proofs
variable {gt : Tree (List AV)}
def neg (l : List Int) : List Int := l.map (- ·)
def Refutes (L P : List (List Int)) : Prop := 0 < P.length ∧ P.getD (P.length - 1) [] = [] ∧ ∀ i, i < P.length → Clash (L ++ P.take i) (neg (P.getD i []))
theorem rstep_spec {h : AH} (hw : WF h) {n : Nat} (hn : n ≤ 50000) {cl lv : AV} {L : List (List Int)} {cv : Nat → AV} {l : List Int} (C : CnfAt h n cl L cv) (row : IntRow h lv l) (hL : ∀ l ∈ L, ∀ x ∈ l, ok n x) (hl : ∀ x ∈ l, ok n x) (hll : l.length ≤ 2 ^ 36) :
    EvF (TT gt) X 51 [.int .i64 n, cl, lv] h (fun r h' => (h.le h' ∧ WF h') ∧ ∃ b, r = .bool b ∧ (b = true ↔ Clash L (neg l))) := by
  have S0 := HS.all hw
  have ln := row.len_any (T := TT gt) (t := 25) rfl h
  refine EvF.enter rfl rfl rfl ?_
  repeat (first | refine EvO.plain rfl rfl rfl rfl rfl rfl ?_ | refine EvO.plain rfl rfl rfl rfl rfl (by assumption) ?_ | refine EvC.seq ?_ | refine EvC.region rfl ?_ | refine EvO.nil ?_ | refine at_normal ?_ | refine EvC.block ?_)
  clear ln
  refine EvC.loop (fun m σ h' => ∃ (i : Nat) (w : AV) (col1 : Nat → Nat) (E : Nat → AV), Step (fun x => x = 1) (fun _ => 0) h col1 h' ∧ HS h h' col1 ∧ Vec col1 1 h' 3 1 w i ((neg (l.take i)).map (AV.int .i64)) ∧ i ≤ l.length ∧ m = l.length - i ∧ σ = upds [(0, .int .i64 n), (1, cl), (7, w), (12, lv), (13, .int .i64 l.length), (14, .int .i64 i)] E) (l.length) ?_ ?_
  · exact ⟨0, _, _, _, Step.refl S0, S0, .nil, Nat.zero_le _, rfl, hold ⟨rfl, rfl, rfl, rfl, rfl, rfl, trivial⟩⟩
  · rintro m _ h1 ⟨i, w, col1, E, A, S1, V, hi, rfl, rfl⟩
    repeat (first | refine EvO.plain rfl rfl rfl rfl rfl rfl ?_ | refine EvC.seq ?_ | refine EvC.region rfl ?_ | refine EvO.nil ?_ | refine at_normal ?_)
    refine EvC.decide rfl (fun hc => ?_) (fun hc => ?_)
    · have hlt : i < l.length := by omega
      have hOB := (row.mono S1.le).at1 (T := TT gt) (t := 25) (e := 3) rfl rfl rfl rfl (k := .i64) (i := i) (by omega) (by omega)
      obtain ⟨q, b1, b2⟩ := hOB
      rw [Int.toNat_natCast] at b2
      have hx := hl _ (getD_mem hlt)
      obtain ⟨x0, x1, x2⟩ := hx
      repeat (first | refine EvO.plain rfl rfl rfl rfl rfl rfl ?_ | refine EvO.plain rfl rfl rfl rfl rfl (by assumption) ?_ | refine EvC.seq ?_ | refine EvC.region rfl ?_ | refine EvO.nil ?_ | refine at_normal ?_ | refine EvC.skip ?_ | refine EvC.block ?_ | refine EvO.cons rfl rfl rfl (EvP.neg64 rfl (by omega) ?_))
      (refine EvO.cons rfl rfl rfl (EvP.newR (b := .cells [.int .i64 (-l.getD i 0)] 3 false) (mk := .slice 1 1 true) S1 rfl rfl (fun h2 id A2 S2 hle o2 _ _ => ?_)))
      refine EvO.cons rfl rfl rfl (EvP.appendC S2 (V.step A2 S1.wf (fun e => e)) (by decide) rfl rfl rfl rfl rfl rfl rfl rfl rfl (by decide) rfl rfl (afirst_all o2 rfl) rfl (by decide) rfl (by show (i + 1) * 8 ≤ 70368744177664; omega) (by show i + 1 ≤ 1099511627776; omega) (fun w' h3 col3 A3 S3 V3 => ?_))
      have B := (A.trans (A2.mono (fun _ e => e.elim))).trans A3
      clear b1 b2
      repeat (first | refine EvO.plain rfl rfl rfl rfl rfl rfl ?_ | refine EvC.region rfl ?_ | refine EvO.nil ?_ | refine at_normal ?_ | refine be_normal ?_ | refine ro_normal ?_ | refine EvO.cons rfl rfl rfl (EvP.add64 rfl rfl (by omega) ?_))
      refine ⟨l.length - (i + 1), by omega, i + 1, w', col3, _, B, S3.down hle, ?_, by omega, rfl, hold ⟨rfl, rfl, rfl, rfl, rfl, rfl, trivial⟩⟩
      have ht : l.take (i + 1) = l.take i ++ [l.getD i 0] := by
        rw [List.take_add_one, List.getD_eq_getElem?_getD, List.getElem?_eq_getElem hlt]; rfl
      rw [ht, neg, List.map_append, List.map_append]
      exact V3
    · have hend : i = l.length := by omega
      subst hend
      rw [List.take_length] at V
      repeat (first | refine EvO.plain rfl rfl rfl rfl rfl rfl ?_ | refine EvC.seq ?_ | refine EvC.region rfl ?_ | refine at_normal ?_ | refine EvC.exit ?_ | refine at_exit ?_ | refine be_same rfl ?_ | refine ro_exit ?_)
      (refine EvO.cons rfl rfl rfl (EvP.callF rfl rfl rfl rfl (EvF.mono (follow_spec S1.wf hn (C.mono S1.le) (vec_introw V) hL (fun x hx => by obtain ⟨y, hy, rfl⟩ := List.mem_map.1 hx; exact Sa.ok_neg (hl y hy)) (by rw [neg, List.length_map]; omega)) ?_)))
      rintro _ h2 _ ⟨⟨hl2, hw2⟩, a, b, rfl, hb⟩
      repeat (first | refine EvO.plain rfl rfl rfl rfl rfl rfl ?_ | refine EvC.seq ?_ | refine EvC.region rfl ?_ | refine EvO.nil ?_ | refine at_normal ?_ | refine EvC.ret ?_)
      (refine ret_is (v := .bool b) rfl rfl ?_)
      refine ⟨⟨AH.le.trans' S1.le hl2, hw2⟩, b, rfl, ?_⟩
      rcases hb with ⟨rfl, _, hcl⟩ | ⟨rfl, val, _, V, ht, hs⟩
      · exact ⟨fun _ => hcl, fun _ => rfl⟩
      · exact ⟨fun e => (nomatch e), fun hcl => absurd hcl (no_clash' (tr_cons V) ht hs)⟩
/-- A row of rows, as it is read. -/
theorem cnf_of_vec {h : AH} {col : Nat → Nat} {c : Nat} {n : Int} {v : AV} {LL : List (List Int)} {cells : List AV} (V : Vec col c h 25 1 v LL.length cells) (hel : ∀ i, i < LL.length → ∃ a, cells[i]? = some a ∧ IntRow h a (LL.getD i [])) (hl : ∀ l ∈ LL, l.length ≤ 2 ^ 48) (hm : LL.length ≤ 2 ^ 48) :
    ∃ cv, CnfAt h n v LL cv := by
  refine ⟨fun i => cells.getD i .undef, ⟨V.row.congr fun i hi => ?_, fun i hi => ?_, hl, hm⟩⟩
  · have hOB := hel i hi
    obtain ⟨a, h1, _⟩ := hOB
    rw [Nat.mul_one, List.take_one, List.head?_drop, h1, List.getD_eq_getElem?_getD, h1]; rfl
  · have hOB := hel i hi
    obtain ⟨a, h1, h2⟩ := hOB
    rw [List.getD_eq_getElem?_getD, h1]; exact h2
theorem refutes_spec {h : AH} (hw : WF h) {n : Nat} (hn : n ≤ 50000) {cl pv : AV} {L P : List (List Int)} {cv pc : Nat → AV} (C : CnfAt h n cl L cv) (D : CnfAt h n pv P pc) (nc : NZ cl) (hL : ∀ l ∈ L, ∀ x ∈ l, ok n x) (hP : ∀ l ∈ P, ∀ x ∈ l, ok n x) (hb : ∀ l ∈ P, l.length ≤ 2 ^ 36) (hm : L.length + P.length ≤ 2 ^ 29) :
    EvF (TT gt) X 22 [.int .i64 n, cl, pv] h (fun r h' => (h.le h' ∧ WF h') ∧ ∃ b, r = .bool b ∧ (b = true ↔ Refutes L P)) := by
  have S0 := HS.all hw
  refine EvF.enter rfl rfl rfl ?_
  repeat (first | refine EvO.plain rfl rfl rfl rfl rfl rfl ?_ | refine EvC.seq ?_ | refine EvC.region rfl ?_ | refine EvO.nil ?_ | refine at_normal ?_)
  (refine EvO.cons rfl rfl rfl (EvP.newC (b := .cells [] 25 false) (mk := .slice 0 0 true) S0 1 rfl rfl (by decide) (fun h1 id col1 A1 S1 o1 c1 _ => ?_)))
  repeat (refine EvO.plain rfl rfl rfl rfl rfl rfl ?_)
  have V1 : Vec col1 1 h1 25 1 (.slice id 0 0 0 true) 0 [] := .mk (tail := []) o1 c1 rfl (fun _ => ⟨Nat.le_refl _, rfl⟩)
  (refine EvO.cons rfl rfl rfl (EvP.appendRow S1 V1 (by decide) (C.rows.mono S1.le) nc (fun i hi => (C.ints i hi).sc.2) rfl rfl rfl rfl rfl rfl rfl rfl rfl rfl (by show (0 + L.length) * 24 ≤ 70368744177664; omega) (by omega) (fun v2 h2 col2 A2 S2 V2 => ?_)))
  have lp := fun h' => D.rows.len_any (T := TT gt) (t := 22) rfl h'
  have lp2 := lp h2
  repeat (first | refine EvO.plain rfl rfl rfl rfl rfl rfl ?_ | refine EvO.plain rfl rfl rfl rfl rfl (by assumption) ?_ | refine EvC.seq ?_ | refine EvC.region rfl ?_ | refine EvO.nil ?_ | refine at_normal ?_ | refine EvC.block ?_)
  clear lp2
  have hN : 0 + L.length = (L ++ P.take 0).length := by simp
  rw [hN, List.nil_append] at V2
  have hel : ∀ i, i < (L ++ P.take 0).length → ∃ a, ((List.range L.length).map cv)[i]? = some a ∧ IntRow h a ((L ++ P.take 0).getD i []) := fun i hi => by
    rw [List.take_zero, List.append_nil] at hi ⊢
    exact ⟨cv i, by simp [hi], C.ints i hi⟩
  refine EvC.loop (fun m σ h' => ∃ (i : Nat) (w : AV) (cells : List AV) (col : Nat → Nat) (E : Nat → AV), HS h h' col ∧ Vec col 1 h' 25 1 w (L ++ P.take i).length cells ∧ (∀ j, j < (L ++ P.take i).length → ∃ a, cells[j]? = some a ∧ IntRow h a ((L ++ P.take i).getD j [])) ∧ (∀ j, j < i → Clash (L ++ P.take j) (neg (P.getD j []))) ∧ i ≤ P.length ∧ m = P.length - i ∧ σ = upds [(0, .int .i64 n), (2, pv), (7, w), (13, pv), (14, .int .i64 P.length), (15, .int .i64 i)] E) (P.length) ?_ ?_
  · exact ⟨0, v2, _, col2, _, S2, V2, hel, fun j hj => absurd hj (Nat.not_lt_zero _), Nat.zero_le _, rfl, hold ⟨rfl, rfl, rfl, rfl, rfl, rfl, trivial⟩⟩
  · clear S2 V2 hel S1 V1 A1 A2
    rintro m _ h3 ⟨i, w, cells, col, E, S, V, hel, hj, hi, rfl, rfl⟩
    have lim : (L ++ P.take i).length = L.length + i := by rw [List.length_append, List.length_take]; omega
    repeat (first | refine EvO.plain rfl rfl rfl rfl rfl rfl ?_ | refine EvC.seq ?_ | refine EvC.region rfl ?_ | refine EvO.nil ?_ | refine at_normal ?_)
    refine EvC.decide rfl (fun hc => ?_) (fun hc => ?_)
    · have hlt : i < P.length := by omega
      have hlm := getDL_mem hlt
      have hOB := (D.rows.mono S.le).at1 (T := TT gt) (t := 22) (e := 25) rfl rfl rfl rfl (k := .i64) (i := i) (by omega) (by omega)
      obtain ⟨q, b1, b2⟩ := hOB
      rw [Int.toNat_natCast] at b2
      obtain ⟨cvi, Ci⟩ := cnf_of_vec (n := (n : Int)) V (fun j hj => by
        have hOB := hel j hj
        obtain ⟨a, k1, k2⟩ := hOB
        exact ⟨a, k1, k2.mono S.le⟩) (fun l hl => by
        have hOB := List.mem_append.1 hl
        rcases hOB with h' | h'
        · exact C.lens l h'
        · exact D.lens l (List.mem_of_mem_take h')) (by omega)
      have hLo : ∀ l ∈ L ++ P.take i, ∀ x ∈ l, ok n x := fun l hl => by
        have hOB := List.mem_append.1 hl
        rcases hOB with h' | h'
        · exact hL l h'
        · exact hP l (List.mem_of_mem_take h')
      repeat (first | refine EvO.plain rfl rfl rfl rfl rfl rfl ?_ | refine EvO.plain rfl rfl rfl rfl rfl (by assumption) ?_ | refine EvC.seq ?_ | refine EvC.region rfl ?_ | refine EvO.nil ?_ | refine at_normal ?_ | refine EvC.skip ?_ | refine EvC.block ?_)
      clear b1 b2
      (refine EvO.cons rfl rfl rfl (EvP.callF rfl rfl rfl rfl (EvF.mono (rstep_spec S.wf hn Ci ((D.ints i hlt).mono S.le) hLo (hP _ hlm) (hb _ hlm)) ?_)))
      rintro _ h4 hn4 ⟨⟨hl4, hw4⟩, b, rfl, hbb⟩
      have S4 := S.grow hl4 hw4 hn4
      have V4 := V.le hl4
      repeat (first | refine EvO.plain rfl rfl rfl rfl rfl rfl ?_ | refine EvO.nil ?_ | refine at_normal ?_)
      cases b with
      | false =>
        refine EvC.cond (t := true) rfl (fun _ => ?_) (fun e => nomatch e)
        repeat (first | refine EvO.plain rfl rfl rfl rfl rfl rfl ?_ | refine EvC.seq ?_ | refine EvC.region rfl ?_ | refine EvO.nil ?_ | refine at_normal ?_ | refine EvC.ret ?_ | refine at_ret ?_ | refine be_ret ?_ | refine ro_ret ?_)
        (refine ret_is (v := .bool false) rfl rfl ?_)
        exact ⟨⟨S4.le, hw4⟩, false, rfl, fun e => (nomatch e), fun e => nomatch hbb.2 (e.2.2 i hlt)⟩
      | true =>
        refine EvC.cond (t := false) rfl (fun e => nomatch e) (fun _ => ?_)
        repeat (first | refine EvO.plain rfl rfl rfl rfl rfl rfl ?_ | refine EvC.region rfl ?_ | refine at_normal ?_ | refine EvC.skip ?_)
        (refine EvO.cons rfl rfl rfl (EvP.newR (b := .cells [pc i] 25 false) (mk := .slice 1 1 true) S4 rfl (show abuildSlice (TT gt) 22 1 [(0, pc i)] = _ from build1 rfl rfl rfl rfl (D.ints i hlt).sc) (fun h5 id5 A5 S5 hle5 o5 _ _ => ?_)))
        refine EvO.cons rfl rfl rfl (EvP.appendC S5 (V4.step A5 S4.wf (fun e => e)) (by decide) rfl rfl rfl rfl rfl rfl rfl rfl rfl (by decide) rfl rfl (afirst_all o5 rfl) rfl (by decide) (by simp [(D.ints i hlt).sc.2]) (by show ((L ++ P.take i).length + 1) * 24 ≤ 70368744177664; omega) (by show (L ++ P.take i).length + 1 ≤ 1099511627776; omega) (fun w' h6 col6 A6 S6 V6 => ?_))
        repeat (first | refine EvO.plain rfl rfl rfl rfl rfl rfl ?_ | refine EvC.region rfl ?_ | refine EvO.nil ?_ | refine at_normal ?_ | refine be_normal ?_ | refine ro_normal ?_ | refine EvO.cons rfl rfl rfl (EvP.add64 rfl rfl (by omega) ?_))
        have hs : P.take (i + 1) = P.take i ++ [P.getD i []] := by
          rw [List.take_add_one, List.getD_eq_getElem?_getD, List.getElem?_eq_getElem hlt]; rfl
        have hcl : cells.length = (L ++ P.take i).length := by have := V.count; omega
        refine ⟨P.length - (i + 1), by omega, i + 1, w', cells ++ [pc i], col6, _, S6.down hle5, ?_, fun j hj' => ?_, fun j hj' => ?_, by omega, rfl, hold ⟨rfl, rfl, rfl, rfl, rfl, rfl, trivial⟩⟩
        · have : (L ++ P.take (i + 1)).length = (L ++ P.take i).length + 1 := by rw [hs]; simp; omega
          rw [this]; exact V6
        · rw [hs, ← List.append_assoc] at hj' ⊢
          rw [List.length_append] at hj'
          rw [List.getD_eq_getElem?_getD]
          have hOB := Nat.lt_or_ge j (L ++ P.take i).length
          rcases hOB with h' | h'
          · rw [List.getElem?_append_left (by omega), List.getElem?_append_left h', ← List.getD_eq_getElem?_getD]
            exact hel j h'
          · have : j = (L ++ P.take i).length := by simp at hj' h' ⊢; omega
            subst this
            rw [List.getElem?_append_right (by omega), List.getElem?_append_right (Nat.le_refl _), hcl]
            exact ⟨pc i, by simp, by simpa using D.ints i hlt⟩
        · have hOB := Nat.lt_or_ge j i
          rcases hOB with h' | h'
          · exact hj j h'
          · have hOB : j = i := by omega
            obtain rfl := hOB
            exact hbb.1 rfl
    · have hend : i = P.length := by omega
      subst hend
      have lp3 := lp h3
      have fin : h.le h3 ∧ WF h3 := ⟨S.le, S.wf⟩
      repeat (first | refine EvO.plain rfl rfl rfl rfl rfl rfl ?_ | refine EvO.plain rfl rfl rfl rfl rfl (by assumption) ?_ | refine EvC.seq ?_ | refine EvC.region rfl ?_ | refine at_normal ?_ | refine EvC.exit ?_ | refine at_exit ?_ | refine be_same rfl ?_ | refine ro_exit ?_)
      by_cases h0 : 0 < P.length
      · refine EvO.cons rfl rfl rfl (EvP.quiet rfl (isB (decide_eq_true (by omega))) ?_)
        have hOB := (D.rows.mono S.le).at1 (T := TT gt) (t := 22) (e := 25) rfl rfl rfl rfl (k := .i64) (i := (P.length : Int) - 1) (by omega) (by omega)
        obtain ⟨q, b1, b2⟩ := hOB
        have hto : ((P.length : Int) - 1).toNat = P.length - 1 := by omega
        rw [hto] at b2
        have lq := (D.ints (P.length - 1) (by omega)).len_any (T := TT gt) (t := 25) rfl h3
        repeat (first | refine EvO.plain rfl rfl rfl rfl rfl rfl ?_ | refine EvO.plainOn rfl rfl rfl rfl rfl rfl ?_ | refine EvO.plainOn rfl rfl rfl rfl rfl (by assumption) ?_ | refine EvO.on rfl rfl rfl (EvP.sub64 rfl rfl (by omega) ?_))
        refine EvO.on rfl rfl rfl (EvP.quiet rfl rfl ?_)
        repeat (first | refine EvO.plain rfl rfl rfl rfl rfl rfl ?_ | refine EvO.nil ?_ | refine at_normal ?_ | refine EvC.ret ?_)
        (refine ret_is (v := .bool (((P.getD (P.length - 1) []).length : Int) == 0)) rfl rfl ?_)
        refine ⟨fin, _, rfl, ?_⟩
        rw [beq_iff_eq]
        have : ((P.getD (P.length - 1) []).length : Int) = 0 ↔ P.getD (P.length - 1) [] = [] := by
          rw [← List.length_eq_zero_iff]; omega
        rw [this]
        exact ⟨fun e => ⟨h0, e, hj⟩, fun e => e.2.1⟩
      · refine EvO.cons rfl rfl rfl (EvP.quiet rfl (isB (decide_eq_false (by omega))) ?_)
        repeat (first | refine EvO.plain rfl rfl rfl rfl rfl rfl ?_ | refine EvO.nil ?_ | refine at_normal ?_ | refine EvC.ret ?_ | refine EvO.off rfl rfl rfl ?_)
        (refine ret_is (v := .bool false) rfl rfl ?_)
        exact ⟨fin, false, rfl, fun e => (nomatch e), fun e => absurd e.1 h0⟩
end Pf
end Go.Proofs.YtheiionmocfleaaDoor
/- The law SatSolves, walked through. -/
namespace Go.Proofs.YtheiionmocfleaaDoor
namespace Pf
namespace Sa
open Go Go.AI Go.Proofs
variable {gt : Tree (List AV)}
theorem rup_refutes {n : Nat} {L P : List (List Int)} (R : Rup n L P) : Refutes L P := by
  have hne : P ≠ [] := fun e => by rw [e] at R; exact nomatch R.1
  have h0 : 0 < P.length := List.length_pos_iff.2 hne
  refine ⟨h0, ?_, fun i hi => (R.2 i hi).1⟩
  have := R.1
  rw [List.getLast?_eq_getElem?] at this
  rw [List.getD_eq_getElem?_getD, this]; rfl
-- the law's other way out
set_option maxHeartbeats 8000000 in
theorem law_solves {h : AH} (hw : WF h) {vars : Int} {cl : AV} {L : List (List Int)} {cv : Nat → AV} (C : CnfAt h vars cl L cv) (nc : NZ cl) {mv : AV} {M : List Bool} (hM : BoolRow h mv M) (nm : NZ mv) :
    EvF (TT gt) X 4 [.agg [.int .i64 vars, cl], mv] h (fun r _ => r = .bool true) := by
  have S0 := HS.all hw
  refine EvF.enter rfl rfl rfl ?_
  repeat (first | refine EvC.seq ?_ | refine EvC.region rfl ?_)
  (refine EvO.cons rfl rfl rfl (EvP.newR (b := .cells [.int .i64 vars, cl] 24 false) (mk := .ptr) S0 rfl rfl (fun h1 b A1 S1 hle1 o1 _ _ => ?_)))
  have f1 := loadAgg (T := TT gt) (t := 24) (off := 0) (n := 2) (r := [.int .i64 vars, cl]) o1 rfl rfl
  repeat (first | refine EvO.plain rfl rfl rfl rfl rfl rfl ?_ | refine EvO.plain rfl rfl rfl rfl rfl (by assumption) ?_ | refine EvC.seq ?_ | refine EvC.region rfl ?_ | refine EvO.nil ?_ | refine at_normal ?_)
  (refine EvO.cons rfl rfl rfl (EvP.callF rfl rfl rfl rfl (EvF.mono (few_spec (facts gt) S1.wf (C.mono (fun i o e => S1.le _ _ (hle1 _ _ e)))) ?_)))
  rintro _ h2 _ ⟨hg2, q, rfl⟩
  have hle2 : h.le h2 := fun i o e => hg2.le _ _ (S1.le _ _ (hle1 _ _ e))
  have f2 := loadAgg (T := TT gt) (t := 24) (off := 0) (n := 2) (r := [.int .i64 vars, cl]) (hg2.le _ _ o1) rfl rfl
  clear f1
  cases q with
  | false =>
    repeat (first | refine EvO.plain rfl rfl rfl rfl rfl rfl ?_ | refine EvO.nil ?_ | refine at_normal ?_ | refine EvO.off rfl rfl rfl ?_)
    refine EvC.cond (t := true) rfl (fun _ => ?_) (fun e => nomatch e)
    repeat (first | refine EvC.seq ?_ | refine EvC.region rfl ?_)
    (refine EvO.cons rfl rfl rfl (EvP.callF rfl rfl rfl rfl (EvF.mono (awake_spec (facts gt)) ?_)))
    rintro _ h99 _ ⟨rfl, rfl⟩
    repeat (first | refine EvO.plain rfl rfl rfl rfl rfl rfl ?_ | refine EvO.nil ?_ | refine at_normal ?_ | refine EvC.ret ?_ | refine at_ret ?_)
    (refine ret_is (v := .bool true) rfl rfl ?_)
    rfl
  | true =>
    have ln := RowOf.len_any (T := TT gt) (t := 33) hM rfl h2
    repeat (first | refine EvO.plain rfl rfl rfl rfl rfl rfl ?_ | refine EvO.plainOn rfl rfl rfl rfl rfl rfl ?_ | refine EvO.plainOn rfl rfl rfl rfl rfl (by assumption) ?_)
    clear ln
    by_cases hlen : (M.length : Int) > 200
    · refine EvO.on rfl rfl rfl (EvP.quiet rfl (isB (decide_eq_true hlen)) ?_)
      repeat (first | refine EvO.plain rfl rfl rfl rfl rfl rfl ?_ | refine EvO.nil ?_ | refine at_normal ?_)
      refine EvC.cond (t := true) rfl (fun _ => ?_) (fun e => nomatch e)
      repeat (first | refine EvC.seq ?_ | refine EvC.region rfl ?_)
      (refine EvO.cons rfl rfl rfl (EvP.callF rfl rfl rfl rfl (EvF.mono (awake_spec (facts gt)) ?_)))
      rintro _ h99 _ ⟨rfl, rfl⟩
      repeat (first | refine EvO.plain rfl rfl rfl rfl rfl rfl ?_ | refine EvO.nil ?_ | refine at_normal ?_ | refine EvC.ret ?_ | refine at_ret ?_)
      (refine ret_is (v := .bool true) rfl rfl ?_)
      rfl
    · refine EvO.on rfl rfl rfl (EvP.quiet rfl (isB (decide_eq_false hlen)) ?_)
      repeat (first | refine EvO.plain rfl rfl rfl rfl rfl rfl ?_ | refine EvO.nil ?_ | refine at_normal ?_)
      refine EvC.cond (t := false) rfl (fun e => nomatch e) (fun _ => ?_)
      repeat (first | refine EvO.plain rfl rfl rfl rfl rfl (by assumption) ?_ | refine EvC.seq ?_ | refine EvC.region rfl ?_ | refine at_normal ?_ | refine EvC.skip ?_)
      (refine EvO.cons rfl rfl rfl (EvP.callF rfl rfl rfl rfl (EvF.mono (solve_spec hg2.wf (C.mono hle2)) ?_)))
      rintro _ h3 _ ⟨⟨hle23, hw3⟩, hS⟩
      have hle3 : h.le h3 := fun i o e => hle23 _ _ (hle2 _ _ e)
      have o3 := hle23 _ _ (hg2.le _ _ o1)
      have f3 := loadAgg (T := TT gt) (t := 24) (off := 0) (n := 2) (r := [.int .i64 vars, cl]) o3 rfl rfl
      clear f2
      rcases hS with ⟨hv, rfl⟩ | ⟨hv, hS⟩
      · repeat (first | refine EvO.plain rfl rfl rfl rfl rfl rfl ?_ | refine EvO.plain rfl rfl rfl rfl rfl (by assumption) ?_ | refine EvC.seq ?_ | refine EvC.region rfl ?_ | refine EvO.nil ?_ | refine at_normal ?_)
        (refine EvO.cons rfl rfl rfl (EvP.callF rfl rfl rfl rfl (EvF.mono (refValid_spec (facts gt) hw3 (C.mono hle3)) ?_)))
        rintro _ h4 _ ⟨hg4, rfl⟩
        rw [decide_eq_false hv]
        clear f3
        repeat (first | refine EvO.plain rfl rfl rfl rfl rfl rfl ?_ | refine EvO.nil ?_ | refine at_normal ?_)
        refine EvC.cond (t := true) rfl (fun _ => ?_) (fun e => nomatch e)
        repeat (first | refine EvO.plain rfl rfl rfl rfl rfl rfl ?_ | refine EvC.seq ?_ | refine EvC.region rfl ?_ | refine EvO.plainOn rfl rfl rfl rfl rfl rfl ?_)
        refine EvO.on rfl rfl rfl (EvP.quiet (v := .bool true) rfl rfl ?_)
        repeat (first | refine EvO.plain rfl rfl rfl rfl rfl rfl ?_ | refine EvO.plainOn rfl rfl rfl rfl rfl rfl ?_)
        refine EvO.on rfl rfl rfl (EvP.quiet (v := .bool true) rfl rfl ?_)
        repeat (first | refine EvO.plain rfl rfl rfl rfl rfl rfl ?_ | refine EvO.plainOn rfl rfl rfl rfl rfl rfl ?_)
        refine EvO.on rfl rfl rfl (EvP.quiet (v := .bool true) rfl rfl ?_)
        repeat (refine EvO.plain rfl rfl rfl rfl rfl rfl ?_)
        refine EvO.on rfl rfl rfl (EvP.callF rfl rfl rfl rfl (EvF.mono (awake_spec (facts gt)) ?_))
        rintro _ h99 _ ⟨rfl, rfl⟩
        repeat (first | refine EvO.plain rfl rfl rfl rfl rfl rfl ?_ | refine EvO.nil ?_ | refine at_normal ?_ | refine EvC.ret ?_ | refine at_ret ?_)
        (refine ret_is (v := .bool true) rfl rfl ?_)
        rfl
      · have hOB : ∃ n : Nat, vars = n := ⟨vars.toNat, by have := hv.1; omega⟩
        obtain ⟨n, rfl⟩ := hOB
        rw [Int.toNat_natCast] at hS
        have hN := hv.2.1
        have hLok := valid_oks hv
        rcases hS with ⟨rv, m, rfl, hm, hml, hA⟩ | ⟨rfl, hn, hcl⟩ | ⟨pv, P, rfl, hP, hR⟩
        · repeat (first | refine EvO.plain rfl rfl rfl rfl rfl rfl ?_ | refine EvO.plain rfl rfl rfl rfl rfl (by assumption) ?_ | refine EvC.seq ?_ | refine EvC.region rfl ?_ | refine EvO.nil ?_ | refine at_normal ?_)
          (refine EvO.cons rfl rfl rfl (EvP.callF rfl rfl rfl rfl (EvF.mono (refValid_spec (facts gt) hw3 (C.mono hle3)) ?_)))
          rintro _ h4 _ ⟨hg4, rfl⟩
          rw [decide_eq_true hv]
          have hle4 : h.le h4 := fun i o e => hg4.le _ _ (hle3 _ _ e)
          have f4 := loadAgg (T := TT gt) (t := 24) (off := 0) (n := 2) (r := [.int .i64 n, cl]) (hg4.le _ _ o3) rfl rfl
          clear f3
          repeat (first | refine EvO.plain rfl rfl rfl rfl rfl rfl ?_ | refine EvO.nil ?_ | refine at_normal ?_)
          refine EvC.cond (t := false) rfl (fun e => nomatch e) (fun _ => ?_)
          repeat (first | refine EvO.plain rfl rfl rfl rfl rfl rfl ?_ | refine EvC.seq ?_ | refine EvC.region rfl ?_ | refine EvO.nil ?_ | refine at_normal ?_ | refine EvC.skip ?_)
          refine EvC.cond (t := false) rfl (fun e => nomatch e) (fun _ => ?_)
          repeat (first | refine EvO.plain rfl rfl rfl rfl rfl rfl ?_ | refine EvC.seq ?_ | refine EvC.region rfl ?_ | refine EvO.nil ?_ | refine at_normal ?_ | refine EvC.skip ?_)
          refine EvC.cond (t := true) rfl (fun _ => ?_) (fun e => nomatch e)
          repeat (first | refine EvO.plain rfl rfl rfl rfl rfl rfl ?_ | refine EvO.plain rfl rfl rfl rfl rfl (by assumption) ?_ | refine EvC.seq ?_ | refine EvC.region rfl ?_)
          (refine EvO.cons rfl rfl rfl (EvP.callF rfl rfl rfl rfl (EvF.mono (refModel_spec (facts gt) hg4.wf (C.mono hle4) (RowOf.mono hg4.le hm)) ?_)))
          rintro _ h5 _ ⟨hg5, rfl⟩
          rw [modelV_good ⟨hv, by omega⟩, decide_eq_true hA]
          repeat (first | refine EvO.plain rfl rfl rfl rfl rfl rfl ?_ | refine EvC.seq ?_ | refine EvC.region rfl ?_ | refine EvO.nil ?_ | refine at_normal ?_ | refine EvO.plainOn rfl rfl rfl rfl rfl rfl ?_)
          refine EvO.on rfl rfl rfl (EvP.quiet (v := .bool true) rfl rfl ?_)
          repeat (first | refine EvO.plain rfl rfl rfl rfl rfl rfl ?_ | refine EvO.plainOn rfl rfl rfl rfl rfl rfl ?_)
          refine EvO.on rfl rfl rfl (EvP.quiet (v := .bool true) rfl rfl ?_)
          repeat (refine EvO.plain rfl rfl rfl rfl rfl rfl ?_)
          refine EvO.on rfl rfl rfl (EvP.callF rfl rfl rfl rfl (EvF.mono (awake_spec (facts gt)) ?_))
          rintro _ h99 _ ⟨rfl, rfl⟩
          repeat (first | refine EvO.plain rfl rfl rfl rfl rfl rfl ?_ | refine EvO.nil ?_ | refine at_normal ?_ | refine EvC.ret ?_ | refine at_ret ?_)
          (refine ret_is (v := .bool true) rfl rfl ?_)
          rfl
        · repeat (first | refine EvO.plain rfl rfl rfl rfl rfl rfl ?_ | refine EvO.plain rfl rfl rfl rfl rfl (by assumption) ?_ | refine EvC.seq ?_ | refine EvC.region rfl ?_ | refine EvO.nil ?_ | refine at_normal ?_)
          (refine EvO.cons rfl rfl rfl (EvP.callF rfl rfl rfl rfl (EvF.mono (refValid_spec (facts gt) hw3 (C.mono hle3)) ?_)))
          rintro _ h4 _ ⟨hg4, rfl⟩
          rw [decide_eq_true hv]
          have hle4 : h.le h4 := fun i o e => hg4.le _ _ (hle3 _ _ e)
          have o4 := hg4.le _ _ o3
          have f4 := loadAgg (T := TT gt) (t := 24) (off := 0) (n := 2) (r := [.int .i64 n, cl]) o4 rfl rfl
          have f5 := load1 (T := TT gt) (t := 3) (off := 0) o4 rfl rfl rfl
          clear f3
          repeat (first | refine EvO.plain rfl rfl rfl rfl rfl rfl ?_ | refine EvO.nil ?_ | refine at_normal ?_)
          refine EvC.cond (t := false) rfl (fun e => nomatch e) (fun _ => ?_)
          repeat (first | refine EvO.plain rfl rfl rfl rfl rfl rfl ?_ | refine EvC.seq ?_ | refine EvC.region rfl ?_ | refine EvO.nil ?_ | refine at_normal ?_ | refine EvC.skip ?_)
          refine EvC.cond (t := true) rfl (fun _ => ?_) (fun e => nomatch e)
          repeat (first | refine EvO.plain rfl rfl rfl rfl rfl rfl ?_ | refine EvC.seq ?_ | refine EvC.region rfl ?_)
          refine EvO.on rfl rfl rfl (EvP.quiet (v := .bool true) rfl rfl ?_)
          repeat (first | refine EvO.plain rfl rfl rfl rfl rfl rfl ?_ | refine EvO.plainOn rfl rfl rfl rfl rfl rfl ?_ | refine EvO.plainOn rfl rfl rfl rfl rfl (by assumption) ?_)
          refine EvO.on rfl rfl rfl (EvP.quiet (v := .bool true) rfl (isB (decide_eq_true (by omega))) ?_)
          repeat (first | refine EvO.plain rfl rfl rfl rfl rfl rfl ?_ | refine EvO.plainOn rfl rfl rfl rfl rfl (by assumption) ?_)
          refine EvO.on rfl rfl rfl (EvP.callF rfl rfl rfl rfl (EvF.mono (clashes_spec hg4.wf (C.mono hle4) (ls := []) .nil (by decide) hv (fun x hx => nomatch hx)) ?_))
          rintro _ h5 _ ⟨⟨hle5, hw5⟩, q, rfl, hq⟩
          cases q with
          | true => exact absurd (hq.1 rfl) hcl
          | false =>
            repeat (first | refine EvO.plain rfl rfl rfl rfl rfl rfl ?_ | refine EvO.plainOn rfl rfl rfl rfl rfl rfl ?_)
            refine EvO.on rfl rfl rfl (EvP.quiet (v := .bool true) rfl rfl ?_)
            repeat (first | refine EvO.plain rfl rfl rfl rfl rfl rfl ?_ | refine EvO.plainOn rfl rfl rfl rfl rfl rfl ?_)
            refine EvO.on rfl rfl rfl (EvP.quiet (v := .bool true) rfl rfl ?_)
            repeat (refine EvO.plain rfl rfl rfl rfl rfl rfl ?_)
            refine EvO.on rfl rfl rfl (EvP.callF rfl rfl rfl rfl (EvF.mono (awake_spec (facts gt)) ?_))
            rintro _ h99 _ ⟨rfl, rfl⟩
            repeat (first | refine EvO.plain rfl rfl rfl rfl rfl rfl ?_ | refine EvO.nil ?_ | refine at_normal ?_ | refine EvC.ret ?_ | refine at_ret ?_)
            (refine ret_is (v := .bool true) rfl rfl ?_)
            rfl
        · have hOB := says_rup hLok hR
          obtain ⟨⟨R, hPl⟩, hno⟩ := hOB
          obtain ⟨pc, prow, pints⟩ := hP
          repeat (first | refine EvO.plain rfl rfl rfl rfl rfl rfl ?_ | refine EvO.plain rfl rfl rfl rfl rfl (by assumption) ?_ | refine EvC.seq ?_ | refine EvC.region rfl ?_ | refine EvO.nil ?_ | refine at_normal ?_)
          (refine EvO.cons rfl rfl rfl (EvP.callF rfl rfl rfl rfl (EvF.mono (refValid_spec (facts gt) hw3 (C.mono hle3)) ?_)))
          rintro _ h4 _ ⟨hg4, rfl⟩
          rw [decide_eq_true hv]
          have hle4 : h.le h4 := fun i o e => hg4.le _ _ (hle3 _ _ e)
          have o4 := hg4.le _ _ o3
          have f4 := loadAgg (T := TT gt) (t := 24) (off := 0) (n := 2) (r := [.int .i64 n, cl]) o4 rfl rfl
          clear f3
          repeat (first | refine EvO.plain rfl rfl rfl rfl rfl rfl ?_ | refine EvO.nil ?_ | refine at_normal ?_)
          refine EvC.cond (t := false) rfl (fun e => nomatch e) (fun _ => ?_)
          repeat (first | refine EvO.plain rfl rfl rfl rfl rfl rfl ?_ | refine EvC.seq ?_ | refine EvC.region rfl ?_ | refine EvO.nil ?_ | refine at_normal ?_ | refine EvC.skip ?_)
          refine EvC.cond (t := false) rfl (fun e => nomatch e) (fun _ => ?_)
          repeat (first | refine EvO.plain rfl rfl rfl rfl rfl rfl ?_ | refine EvC.seq ?_ | refine EvC.region rfl ?_ | refine EvO.nil ?_ | refine at_normal ?_ | refine EvC.skip ?_)
          refine EvC.cond (t := false) rfl (fun e => nomatch e) (fun _ => ?_)
          repeat (first | refine EvO.plain rfl rfl rfl rfl rfl rfl ?_ | refine EvC.seq ?_ | refine EvC.region rfl ?_ | refine at_normal ?_ | refine EvC.skip ?_)
          refine EvO.on rfl rfl rfl (EvP.quiet (v := .bool false) rfl rfl ?_)
          repeat (first | refine EvO.plain rfl rfl rfl rfl rfl rfl ?_ | refine EvO.plainOn rfl rfl rfl rfl rfl rfl ?_ | refine EvO.plainOn rfl rfl rfl rfl rfl (by assumption) ?_)
          refine EvO.on rfl rfl rfl (EvP.callF rfl rfl rfl rfl (EvF.mono (lawHolds_spec hg4.wf (C.mono hle4) (ls := []) .nil (RowOf.mono hle4 hM) nm hv (fun x hx => nomatch hx) (by decide)) ?_))
          rintro _ h5 _ ⟨⟨hle45, hw5⟩, q, rfl, hq⟩
          have hqf : q = false := by
            cases q with
            | false => rfl
            | true => obtain ⟨B, hB, hA, _⟩ := hq rfl; exact absurd hA (hno B hB)
          subst hqf
          have hle5 : h.le h5 := fun i o e => hle45 _ _ (hle4 _ _ e)
          have o5 := hle45 _ _ o4
          have f5 := load1 (T := TT gt) (t := 3) (off := 0) o5 rfl rfl rfl
          clear f4
          have f6 := loadAgg (T := TT gt) (t := 24) (off := 0) (n := 2) (r := [.int .i64 n, cl]) o5 rfl rfl
          repeat (first | refine EvO.plain rfl rfl rfl rfl rfl rfl ?_ | refine EvO.plainOn rfl rfl rfl rfl rfl rfl ?_ | refine EvO.plainOn rfl rfl rfl rfl rfl (by assumption) ?_)
          have hPok : ∀ l ∈ P, (∀ x ∈ l, ok n x) ∧ l.length ≤ 2 * n + 1 := fun l hl => by
            have hOB := List.getElem_of_mem hl
            obtain ⟨i, hi, rfl⟩ := hOB
            have h8 := R.2 i hi
            rw [List.getD_eq_getElem?_getD, List.getElem?_eq_getElem hi] at h8
            exact ⟨h8.2.1, oks_len h8.2.2 h8.2.1⟩
          have hRf := rup_refutes R
          have hLl := hv.2.2.1
          by_cases h10 : (n : Int) ≤ 10
          · refine EvO.on rfl rfl rfl (EvP.quiet (v := .bool true) rfl (isB (decide_eq_true h10)) ?_)
            repeat (first | refine EvO.plainOn rfl rfl rfl rfl rfl rfl ?_ | refine EvO.plainOn rfl rfl rfl rfl rfl (by assumption) ?_)
            refine EvO.on rfl rfl rfl (EvP.callF rfl rfl rfl rfl (EvF.mono (models_spec hw5 (n := n) (by omega) (C.mono hle5) hv.2.2.2.2) ?_))
            rintro _ h7 _ ⟨⟨hle57, hw7⟩, rfl⟩
            rw [none_cnt hno]
            have hle7 : h.le h7 := fun i o e => hle57 _ _ (hle5 _ _ e)
            have o7 := hle57 _ _ o5
            clear f5 f6
            skip
            refine EvO.on rfl rfl rfl (EvP.quiet (v := .bool false) rfl rfl ?_)
            repeat (first | refine EvO.plain rfl rfl rfl rfl rfl rfl ?_ | refine EvO.nil ?_ | refine at_normal ?_ | refine EvO.plainOn rfl rfl rfl rfl rfl rfl ?_)
            refine EvC.cond (t := false) rfl (fun e => nomatch e) (fun _ => ?_)
            have ln := RowOf.len_any (T := TT gt) (t := 22) prow rfl h7
            repeat (first | refine EvO.plain rfl rfl rfl rfl rfl rfl ?_ | refine EvO.plain rfl rfl rfl rfl rfl (by assumption) ?_ | refine EvC.seq ?_ | refine EvC.region rfl ?_ | refine EvO.nil ?_ | refine at_normal ?_ | refine EvC.skip ?_)
            clear ln
            by_cases h2k : (P.length : Int) > 2000
            · refine EvC.cond (t := true) (isT (decide_eq_true h2k)) (fun _ => ?_) (fun e => nomatch e)
              repeat (first | refine EvC.seq ?_ | refine EvC.region rfl ?_)
              (refine EvO.cons rfl rfl rfl (EvP.callF rfl rfl rfl rfl (EvF.mono (awake_spec (facts gt)) ?_)))
              rintro _ h99 _ ⟨rfl, rfl⟩
              repeat (first | refine EvO.plain rfl rfl rfl rfl rfl rfl ?_ | refine EvO.nil ?_ | refine at_normal ?_ | refine EvC.ret ?_ | refine at_ret ?_)
              (refine ret_is (v := .bool true) rfl rfl ?_)
              rfl
            · refine EvC.cond (t := false) (isT (decide_eq_false h2k)) (fun e => nomatch e) (fun _ => ?_)
              have f8 := load1 (T := TT gt) (t := 3) (off := 0) o7 rfl rfl rfl
              have f9 := load1 (T := TT gt) (t := 22) (off := 1) o7 rfl rfl rfl
              have D : CnfAt h7 n pv P pc := CnfAt.mono (fun i o e => hle57 _ _ (hle45 _ _ (hg4.le _ _ e))) ⟨prow, pints, fun l hl => by have := (hPok l hl).2; omega, by omega⟩
              repeat (first | refine EvO.plain rfl rfl rfl rfl rfl rfl ?_ | refine EvO.plain rfl rfl rfl rfl rfl (by assumption) ?_ | refine EvC.seq ?_ | refine EvC.region rfl ?_ | refine at_normal ?_ | refine EvC.skip ?_)
              (refine EvO.cons rfl rfl rfl (EvP.callF rfl rfl rfl rfl (EvF.mono (refutes_spec hw7 (n := n) (by omega) (C.mono hle7) D nc hLok (fun l hl => (hPok l hl).1) (fun l hl => by have := (hPok l hl).2; omega) (by omega)) ?_)))
              rintro _ h8 _ ⟨⟨hle78, hw8⟩, q, rfl, hq⟩
              rw [hq.2 hRf]
              repeat (refine EvO.plain rfl rfl rfl rfl rfl rfl ?_)
              refine EvO.on rfl rfl rfl (EvP.callF rfl rfl rfl rfl (EvF.mono (awake_spec (facts gt)) ?_))
              rintro _ h99 _ ⟨rfl, rfl⟩
              repeat (first | refine EvO.plain rfl rfl rfl rfl rfl rfl ?_ | refine EvO.nil ?_ | refine at_normal ?_ | refine EvC.ret ?_)
              (refine ret_is (v := .bool true) rfl rfl ?_)
              rfl
          · refine EvO.on rfl rfl rfl (EvP.quiet (v := .bool false) rfl (isB (decide_eq_false h10)) ?_)
            clear f5 f6
            repeat (first | refine EvO.plain rfl rfl rfl rfl rfl rfl ?_ | refine EvO.nil ?_ | refine at_normal ?_ | refine EvO.off rfl rfl rfl ?_ | refine EvO.plainOn rfl rfl rfl rfl rfl rfl ?_)
            refine EvC.cond (t := false) rfl (fun e => nomatch e) (fun _ => ?_)
            have ln := RowOf.len_any (T := TT gt) (t := 22) prow rfl h5
            repeat (first | refine EvO.plain rfl rfl rfl rfl rfl rfl ?_ | refine EvO.plain rfl rfl rfl rfl rfl (by assumption) ?_ | refine EvC.seq ?_ | refine EvC.region rfl ?_ | refine EvO.nil ?_ | refine at_normal ?_ | refine EvC.skip ?_)
            clear ln
            by_cases h2k : (P.length : Int) > 2000
            · refine EvC.cond (t := true) (isT (decide_eq_true h2k)) (fun _ => ?_) (fun e => nomatch e)
              repeat (first | refine EvC.seq ?_ | refine EvC.region rfl ?_)
              (refine EvO.cons rfl rfl rfl (EvP.callF rfl rfl rfl rfl (EvF.mono (awake_spec (facts gt)) ?_)))
              rintro _ h99 _ ⟨rfl, rfl⟩
              repeat (first | refine EvO.plain rfl rfl rfl rfl rfl rfl ?_ | refine EvO.nil ?_ | refine at_normal ?_ | refine EvC.ret ?_ | refine at_ret ?_)
              (refine ret_is (v := .bool true) rfl rfl ?_)
              rfl
            · refine EvC.cond (t := false) (isT (decide_eq_false h2k)) (fun e => nomatch e) (fun _ => ?_)
              have f8 := load1 (T := TT gt) (t := 3) (off := 0) o5 rfl rfl rfl
              have f9 := load1 (T := TT gt) (t := 22) (off := 1) o5 rfl rfl rfl
              have D : CnfAt h5 n pv P pc := CnfAt.mono (fun i o e => hle45 _ _ (hg4.le _ _ e)) ⟨prow, pints, fun l hl => by have := (hPok l hl).2; omega, by omega⟩
              repeat (first | refine EvO.plain rfl rfl rfl rfl rfl rfl ?_ | refine EvO.plain rfl rfl rfl rfl rfl (by assumption) ?_ | refine EvC.seq ?_ | refine EvC.region rfl ?_ | refine at_normal ?_ | refine EvC.skip ?_)
              (refine EvO.cons rfl rfl rfl (EvP.callF rfl rfl rfl rfl (EvF.mono (refutes_spec hw5 (n := n) (by omega) (C.mono hle5) D nc hLok (fun l hl => (hPok l hl).1) (fun l hl => by have := (hPok l hl).2; omega) (by omega)) ?_)))
              rintro _ h8 _ ⟨⟨hle78, hw8⟩, q, rfl, hq⟩
              rw [hq.2 hRf]
              repeat (refine EvO.plain rfl rfl rfl rfl rfl rfl ?_)
              refine EvO.on rfl rfl rfl (EvP.callF rfl rfl rfl rfl (EvF.mono (awake_spec (facts gt)) ?_))
              rintro _ h99 _ ⟨rfl, rfl⟩
              repeat (first | refine EvO.plain rfl rfl rfl rfl rfl rfl ?_ | refine EvO.nil ?_ | refine at_normal ?_ | refine EvC.ret ?_)
              (refine ret_is (v := .bool true) rfl rfl ?_)
              rfl
end Sa
end Pf
end Go.Proofs.YtheiionmocfleaaDoor
