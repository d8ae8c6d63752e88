/- The reference's refutations and models. -/
import Derived.Test.YtheiionmocfleaaDoorSbY
/- The reference's steps. -/
namespace Go.Proofs.YtheiionmocfleaaDoor
namespace Pf
open Go Go.AI Go.Proofs
variable {gt : Tree (List AV)}
def neg (l : List Int) : List Int := l.map (- ·)
def Refutes (L P : List (List Int)) : Prop := 0 < P.length ∧ P.getD (P.length - 1) [] = [] ∧ ∀ i, i < P.length → Clash (L ++ P.take i) (neg (P.getD i []))
theorem rstep_spec {h : AH} (hw : WF h) {n : Nat} (hn : n ≤ 50000) {cl lv : AV} {L : List (List Int)} {cv : Nat → AV} {l : List Int} (C : CnfAt h n cl L cv) (row : IntRow h lv l) (hL : ∀ l ∈ L, ∀ x ∈ l, ok n x) (hl : ∀ x ∈ l, ok n x) (hll : l.length ≤ 2 ^ 36) :
    EvF (TT gt) X 51 [.int .i64 n, cl, lv] h (fun r h' => (h.le h' ∧ WF h') ∧ ∃ b, r = .bool b ∧ (b = true ↔ Clash L (neg l))) := by
  have S0 := HS.all hw
  have ln := row.len_any (T := TT gt) (t := 25) rfl h
  refine EvF.enter rfl rfl rfl ?_
  repeat (first | refine EvO.plain rfl rfl rfl rfl rfl rfl ?_ | refine EvO.plain rfl rfl rfl rfl rfl (by assumption) ?_ | refine EvC.seq ?_ | refine EvC.region rfl ?_ | refine EvO.nil ?_ | refine at_normal ?_ | refine EvC.block ?_)
  clear ln
  refine EvC.loop (fun m σ h' => ∃ (i : Nat) (w : AV) (col1 : Nat → Nat) (E : Nat → AV), Step (fun x => x = 1) (fun _ => 0) h col1 h' ∧ HS h h' col1 ∧ Vec col1 1 h' 3 1 w i ((neg (l.take i)).map (AV.int .i64)) ∧ i ≤ l.length ∧ m = l.length - i ∧ σ = upds [(0, .int .i64 n), (1, cl), (7, w), (12, lv), (13, .int .i64 l.length), (14, .int .i64 i)] E) (l.length) ?_ ?_
  · exact ⟨0, _, _, _, Step.refl S0, S0, .nil, Nat.zero_le _, rfl, hold ⟨rfl, rfl, rfl, rfl, rfl, rfl, trivial⟩⟩
  · rintro m _ h1 ⟨i, w, col1, E, A, S1, V, hi, rfl, rfl⟩
    repeat (first | refine EvO.plain rfl rfl rfl rfl rfl rfl ?_ | refine EvC.seq ?_ | refine EvC.region rfl ?_ | refine EvO.nil ?_ | refine at_normal ?_)
    refine EvC.decide rfl (fun hc => ?_) (fun hc => ?_)
    · have hlt : i < l.length := by omega
      have hOB := (row.mono S1.le).at1 (T := TT gt) (t := 25) (e := 3) rfl rfl rfl rfl (k := .i64) (i := i) (by omega) (by omega)
      obtain ⟨q, b1, b2⟩ := hOB
      rw [Int.toNat_natCast] at b2
      have hx := hl _ (getD_mem hlt)
      obtain ⟨x0, x1, x2⟩ := hx
      repeat (first | refine EvO.plain rfl rfl rfl rfl rfl rfl ?_ | refine EvO.plain rfl rfl rfl rfl rfl (by assumption) ?_ | refine EvC.seq ?_ | refine EvC.region rfl ?_ | refine EvO.nil ?_ | refine at_normal ?_ | refine EvC.skip ?_ | refine EvC.block ?_ | refine EvO.cons rfl rfl rfl (EvP.neg64 rfl (by omega) ?_))
      (refine EvO.cons rfl rfl rfl (EvP.newR (b := .cells [.int .i64 (-l.getD i 0)] 3 false) (mk := .slice 1 1 true) S1 rfl rfl (fun h2 id A2 S2 hle o2 _ _ => ?_)))
      refine EvO.cons rfl rfl rfl (EvP.appendC S2 (V.step A2 S1.wf (fun e => e)) (by decide) rfl rfl rfl rfl rfl rfl rfl rfl rfl (by decide) rfl rfl (afirst_all o2 rfl) rfl (by decide) rfl (by show (i + 1) * 8 ≤ 70368744177664; omega) (by show i + 1 ≤ 1099511627776; omega) (fun w' h3 col3 A3 S3 V3 => ?_))
      have B := (A.trans (A2.mono (fun _ e => e.elim))).trans A3
      clear b1 b2
      repeat (first | refine EvO.plain rfl rfl rfl rfl rfl rfl ?_ | refine EvC.region rfl ?_ | refine EvO.nil ?_ | refine at_normal ?_ | refine be_normal ?_ | refine ro_normal ?_ | refine EvO.cons rfl rfl rfl (EvP.add64 rfl rfl (by omega) ?_))
      refine ⟨l.length - (i + 1), by omega, i + 1, w', col3, _, B, S3.down hle, ?_, by omega, rfl, hold ⟨rfl, rfl, rfl, rfl, rfl, rfl, trivial⟩⟩
      have ht : l.take (i + 1) = l.take i ++ [l.getD i 0] := by
        rw [List.take_add_one, List.getD_eq_getElem?_getD, List.getElem?_eq_getElem hlt]; rfl
      rw [ht, neg, List.map_append, List.map_append]
      exact V3
    · have hend : i = l.length := by omega
      subst hend
      rw [List.take_length] at V
      repeat (first | refine EvO.plain rfl rfl rfl rfl rfl rfl ?_ | refine EvC.seq ?_ | refine EvC.region rfl ?_ | refine at_normal ?_ | refine EvC.exit ?_ | refine at_exit ?_ | refine be_same rfl ?_ | refine ro_exit ?_)
      (refine EvO.cons rfl rfl rfl (EvP.callF rfl rfl rfl rfl (EvF.mono (follow_spec S1.wf hn (C.mono S1.le) (vec_introw V) hL (fun x hx => by obtain ⟨y, hy, rfl⟩ := List.mem_map.1 hx; exact Sa.ok_neg (hl y hy)) (by rw [neg, List.length_map]; omega)) ?_)))
      rintro _ h2 _ ⟨⟨hl2, hw2⟩, a, b, rfl, hb⟩
      repeat (first | refine EvO.plain rfl rfl rfl rfl rfl rfl ?_ | refine EvC.seq ?_ | refine EvC.region rfl ?_ | refine EvO.nil ?_ | refine at_normal ?_ | refine EvC.ret ?_)
      (refine ret_is (v := .bool b) rfl rfl ?_)
      refine ⟨⟨AH.le.trans' S1.le hl2, hw2⟩, b, rfl, ?_⟩
      rcases hb with ⟨rfl, _, hcl⟩ | ⟨rfl, val, _, V, ht, hs⟩
      · exact ⟨fun _ => hcl, fun _ => rfl⟩
      · exact ⟨fun e => (nomatch e), fun hcl => absurd hcl (no_clash' (tr_cons V) ht hs)⟩
/-- A row of rows, as it is read. -/
theorem cnf_of_vec {h : AH} {col : Nat → Nat} {c : Nat} {n : Int} {v : AV} {LL : List (List Int)} {cells : List AV} (V : Vec col c h 25 1 v LL.length cells) (hel : ∀ i, i < LL.length → ∃ a, cells[i]? = some a ∧ IntRow h a (LL.getD i [])) (hl : ∀ l ∈ LL, l.length ≤ 2 ^ 48) (hm : LL.length ≤ 2 ^ 48) :
    ∃ cv, CnfAt h n v LL cv := by
  refine ⟨fun i => cells.getD i .undef, ⟨V.row.congr fun i hi => ?_, fun i hi => ?_, hl, hm⟩⟩
  · have hOB := hel i hi
    obtain ⟨a, h1, _⟩ := hOB
    rw [Nat.mul_one, List.take_one, List.head?_drop, h1, List.getD_eq_getElem?_getD, h1]; rfl
  · have hOB := hel i hi
    obtain ⟨a, h1, h2⟩ := hOB
    rw [List.getD_eq_getElem?_getD, h1]; exact h2
theorem refutes_spec {h : AH} (hw : WF h) {n : Nat} (hn : n ≤ 50000) {cl pv : AV} {L P : List (List Int)} {cv pc : Nat → AV} (C : CnfAt h n cl L cv) (D : CnfAt h n pv P pc) (nc : NZ cl) (hL : ∀ l ∈ L, ∀ x ∈ l, ok n x) (hP : ∀ l ∈ P, ∀ x ∈ l, ok n x) (hb : ∀ l ∈ P, l.length ≤ 2 ^ 36) (hm : L.length + P.length ≤ 2 ^ 29) :
    EvF (TT gt) X 22 [.int .i64 n, cl, pv] h (fun r h' => (h.le h' ∧ WF h') ∧ ∃ b, r = .bool b ∧ (b = true ↔ Refutes L P)) := by
  have S0 := HS.all hw
  refine EvF.enter rfl rfl rfl ?_
  repeat (first | refine EvO.plain rfl rfl rfl rfl rfl rfl ?_ | refine EvC.seq ?_ | refine EvC.region rfl ?_ | refine EvO.nil ?_ | refine at_normal ?_)
  (refine EvO.cons rfl rfl rfl (EvP.newC (b := .cells [] 25 false) (mk := .slice 0 0 true) S0 1 rfl rfl (by decide) (fun h1 id col1 A1 S1 o1 c1 _ => ?_)))
  repeat (refine EvO.plain rfl rfl rfl rfl rfl rfl ?_)
  have V1 : Vec col1 1 h1 25 1 (.slice id 0 0 0 true) 0 [] := .mk (tail := []) o1 c1 rfl (fun _ => ⟨Nat.le_refl _, rfl⟩)
  (refine EvO.cons rfl rfl rfl (EvP.appendRow S1 V1 (by decide) (C.rows.mono S1.le) nc (fun i hi => (C.ints i hi).sc.2) rfl rfl rfl rfl rfl rfl rfl rfl rfl rfl (by show (0 + L.length) * 24 ≤ 70368744177664; omega) (by omega) (fun v2 h2 col2 A2 S2 V2 => ?_)))
  have lp := fun h' => D.rows.len_any (T := TT gt) (t := 22) rfl h'
  have lp2 := lp h2
  repeat (first | refine EvO.plain rfl rfl rfl rfl rfl rfl ?_ | refine EvO.plain rfl rfl rfl rfl rfl (by assumption) ?_ | refine EvC.seq ?_ | refine EvC.region rfl ?_ | refine EvO.nil ?_ | refine at_normal ?_ | refine EvC.block ?_)
  clear lp2
  have hN : 0 + L.length = (L ++ P.take 0).length := by simp
  rw [hN, List.nil_append] at V2
  have hel : ∀ i, i < (L ++ P.take 0).length → ∃ a, ((List.range L.length).map cv)[i]? = some a ∧ IntRow h a ((L ++ P.take 0).getD i []) := fun i hi => by
    rw [List.take_zero, List.append_nil] at hi ⊢
    exact ⟨cv i, by simp [hi], C.ints i hi⟩
  refine EvC.loop (fun m σ h' => ∃ (i : Nat) (w : AV) (cells : List AV) (col : Nat → Nat) (E : Nat → AV), HS h h' col ∧ Vec col 1 h' 25 1 w (L ++ P.take i).length cells ∧ (∀ j, j < (L ++ P.take i).length → ∃ a, cells[j]? = some a ∧ IntRow h a ((L ++ P.take i).getD j [])) ∧ (∀ j, j < i → Clash (L ++ P.take j) (neg (P.getD j []))) ∧ i ≤ P.length ∧ m = P.length - i ∧ σ = upds [(0, .int .i64 n), (2, pv), (7, w), (13, pv), (14, .int .i64 P.length), (15, .int .i64 i)] E) (P.length) ?_ ?_
  · exact ⟨0, v2, _, col2, _, S2, V2, hel, fun j hj => absurd hj (Nat.not_lt_zero _), Nat.zero_le _, rfl, hold ⟨rfl, rfl, rfl, rfl, rfl, rfl, trivial⟩⟩
  · clear S2 V2 hel S1 V1 A1 A2
    rintro m _ h3 ⟨i, w, cells, col, E, S, V, hel, hj, hi, rfl, rfl⟩
    have lim : (L ++ P.take i).length = L.length + i := by rw [List.length_append, List.length_take]; omega
    repeat (first | refine EvO.plain rfl rfl rfl rfl rfl rfl ?_ | refine EvC.seq ?_ | refine EvC.region rfl ?_ | refine EvO.nil ?_ | refine at_normal ?_)
    refine EvC.decide rfl (fun hc => ?_) (fun hc => ?_)
    · have hlt : i < P.length := by omega
      have hlm := getDL_mem hlt
      have hOB := (D.rows.mono S.le).at1 (T := TT gt) (t := 22) (e := 25) rfl rfl rfl rfl (k := .i64) (i := i) (by omega) (by omega)
      obtain ⟨q, b1, b2⟩ := hOB
      rw [Int.toNat_natCast] at b2
      obtain ⟨cvi, Ci⟩ := cnf_of_vec (n := (n : Int)) V (fun j hj => by
        have hOB := hel j hj
        obtain ⟨a, k1, k2⟩ := hOB
        exact ⟨a, k1, k2.mono S.le⟩) (fun l hl => by
        have hOB := List.mem_append.1 hl
        rcases hOB with h' | h'
        · exact C.lens l h'
        · exact D.lens l (List.mem_of_mem_take h')) (by omega)
      have hLo : ∀ l ∈ L ++ P.take i, ∀ x ∈ l, ok n x := fun l hl => by
        have hOB := List.mem_append.1 hl
        rcases hOB with h' | h'
        · exact hL l h'
        · exact hP l (List.mem_of_mem_take h')
      repeat (first | refine EvO.plain rfl rfl rfl rfl rfl rfl ?_ | refine EvO.plain rfl rfl rfl rfl rfl (by assumption) ?_ | refine EvC.seq ?_ | refine EvC.region rfl ?_ | refine EvO.nil ?_ | refine at_normal ?_ | refine EvC.skip ?_ | refine EvC.block ?_)
      clear b1 b2
      (refine EvO.cons rfl rfl rfl (EvP.callF rfl rfl rfl rfl (EvF.mono (rstep_spec S.wf hn Ci ((D.ints i hlt).mono S.le) hLo (hP _ hlm) (hb _ hlm)) ?_)))
      rintro _ h4 hn4 ⟨⟨hl4, hw4⟩, b, rfl, hbb⟩
      have S4 := S.grow hl4 hw4 hn4
      have V4 := V.le hl4
      repeat (first | refine EvO.plain rfl rfl rfl rfl rfl rfl ?_ | refine EvO.nil ?_ | refine at_normal ?_)
      cases b with
      | false =>
        refine EvC.cond (t := true) rfl (fun _ => ?_) (fun e => nomatch e)
        repeat (first | refine EvO.plain rfl rfl rfl rfl rfl rfl ?_ | refine EvC.seq ?_ | refine EvC.region rfl ?_ | refine EvO.nil ?_ | refine at_normal ?_ | refine EvC.ret ?_ | refine at_ret ?_ | refine be_ret ?_ | refine ro_ret ?_)
        (refine ret_is (v := .bool false) rfl rfl ?_)
        exact ⟨⟨S4.le, hw4⟩, false, rfl, fun e => (nomatch e), fun e => nomatch hbb.2 (e.2.2 i hlt)⟩
      | true =>
        refine EvC.cond (t := false) rfl (fun e => nomatch e) (fun _ => ?_)
        repeat (first | refine EvO.plain rfl rfl rfl rfl rfl rfl ?_ | refine EvC.region rfl ?_ | refine at_normal ?_ | refine EvC.skip ?_)
        (refine EvO.cons rfl rfl rfl (EvP.newR (b := .cells [pc i] 25 false) (mk := .slice 1 1 true) S4 rfl (show abuildSlice (TT gt) 22 1 [(0, pc i)] = _ from build1 rfl rfl rfl rfl (D.ints i hlt).sc) (fun h5 id5 A5 S5 hle5 o5 _ _ => ?_)))
        refine EvO.cons rfl rfl rfl (EvP.appendC S5 (V4.step A5 S4.wf (fun e => e)) (by decide) rfl rfl rfl rfl rfl rfl rfl rfl rfl (by decide) rfl rfl (afirst_all o5 rfl) rfl (by decide) (by simp [(D.ints i hlt).sc.2]) (by show ((L ++ P.take i).length + 1) * 24 ≤ 70368744177664; omega) (by show (L ++ P.take i).length + 1 ≤ 1099511627776; omega) (fun w' h6 col6 A6 S6 V6 => ?_))
        repeat (first | refine EvO.plain rfl rfl rfl rfl rfl rfl ?_ | refine EvC.region rfl ?_ | refine EvO.nil ?_ | refine at_normal ?_ | refine be_normal ?_ | refine ro_normal ?_ | refine EvO.cons rfl rfl rfl (EvP.add64 rfl rfl (by omega) ?_))
        have hs : P.take (i + 1) = P.take i ++ [P.getD i []] := by
          rw [List.take_add_one, List.getD_eq_getElem?_getD, List.getElem?_eq_getElem hlt]; rfl
        have hcl : cells.length = (L ++ P.take i).length := by have := V.count; omega
        refine ⟨P.length - (i + 1), by omega, i + 1, w', cells ++ [pc i], col6, _, S6.down hle5, ?_, fun j hj' => ?_, fun j hj' => ?_, by omega, rfl, hold ⟨rfl, rfl, rfl, rfl, rfl, rfl, trivial⟩⟩
        · have : (L ++ P.take (i + 1)).length = (L ++ P.take i).length + 1 := by rw [hs]; simp; omega
          rw [this]; exact V6
        · rw [hs, ← List.append_assoc] at hj' ⊢
          rw [List.length_append] at hj'
          rw [List.getD_eq_getElem?_getD]
          have hOB := Nat.lt_or_ge j (L ++ P.take i).length
          rcases hOB with h' | h'
          · rw [List.getElem?_append_left (by omega), List.getElem?_append_left h', ← List.getD_eq_getElem?_getD]
            exact hel j h'
          · have : j = (L ++ P.take i).length := by simp at hj' h' ⊢; omega
            subst this
            rw [List.getElem?_append_right (by omega), List.getElem?_append_right (Nat.le_refl _), hcl]
            exact ⟨pc i, by simp, by simpa using D.ints i hlt⟩
        · have hOB := Nat.lt_or_ge j i
          rcases hOB with h' | h'
          · exact hj j h'
          · have hOB : j = i := by omega
            obtain rfl := hOB
            exact hbb.1 rfl
    · have hend : i = P.length := by omega
      subst hend
      have lp3 := lp h3
      have fin : h.le h3 ∧ WF h3 := ⟨S.le, S.wf⟩
      repeat (first | refine EvO.plain rfl rfl rfl rfl rfl rfl ?_ | refine EvO.plain rfl rfl rfl rfl rfl (by assumption) ?_ | refine EvC.seq ?_ | refine EvC.region rfl ?_ | refine at_normal ?_ | refine EvC.exit ?_ | refine at_exit ?_ | refine be_same rfl ?_ | refine ro_exit ?_)
      by_cases h0 : 0 < P.length
      · refine EvO.cons rfl rfl rfl (EvP.quiet rfl (isB (decide_eq_true (by omega))) ?_)
        have hOB := (D.rows.mono S.le).at1 (T := TT gt) (t := 22) (e := 25) rfl rfl rfl rfl (k := .i64) (i := (P.length : Int) - 1) (by omega) (by omega)
        obtain ⟨q, b1, b2⟩ := hOB
        have hto : ((P.length : Int) - 1).toNat = P.length - 1 := by omega
        rw [hto] at b2
        have lq := (D.ints (P.length - 1) (by omega)).len_any (T := TT gt) (t := 25) rfl h3
        repeat (first | refine EvO.plain rfl rfl rfl rfl rfl rfl ?_ | refine EvO.plainOn rfl rfl rfl rfl rfl rfl ?_ | refine EvO.plainOn rfl rfl rfl rfl rfl (by assumption) ?_ | refine EvO.on rfl rfl rfl (EvP.sub64 rfl rfl (by omega) ?_))
        refine EvO.on rfl rfl rfl (EvP.quiet rfl rfl ?_)
        repeat (first | refine EvO.plain rfl rfl rfl rfl rfl rfl ?_ | refine EvO.nil ?_ | refine at_normal ?_ | refine EvC.ret ?_)
        (refine ret_is (v := .bool (((P.getD (P.length - 1) []).length : Int) == 0)) rfl rfl ?_)
        refine ⟨fin, _, rfl, ?_⟩
        rw [beq_iff_eq]
        have : ((P.getD (P.length - 1) []).length : Int) = 0 ↔ P.getD (P.length - 1) [] = [] := by
          rw [← List.length_eq_zero_iff]; omega
        rw [this]
        exact ⟨fun e => ⟨h0, e, hj⟩, fun e => e.2.1⟩
      · refine EvO.cons rfl rfl rfl (EvP.quiet rfl (isB (decide_eq_false (by omega))) ?_)
        repeat (first | refine EvO.plain rfl rfl rfl rfl rfl rfl ?_ | refine EvO.nil ?_ | refine at_normal ?_ | refine EvC.ret ?_ | refine EvO.off rfl rfl rfl ?_)
        (refine ret_is (v := .bool false) rfl rfl ?_)
        exact ⟨fin, false, rfl, fun e => (nomatch e), fun e => absurd e.1 h0⟩
end Pf
end Go.Proofs.YtheiionmocfleaaDoor
/- How many models the reference counts. -/
namespace Go.Proofs.YtheiionmocfleaaDoor
namespace Pf
namespace Sa
open Go Go.AI Go.Proofs
variable {gt : Tree (List AV)}
theorem bitsB_succ (s n : Nat) : bitsB s (n + 1) = bitsB s n ++ [s / 2 ^ n % 2 == 1] := by
  unfold bitsB; rw [List.range_succ, List.map_append]; rfl
theorem bools_spec {h : AH} (hw : WF h) {n s : Nat} (hn : n ≤ 30) (hs : s < 2 ^ 40) :
    EvF (TT gt) X 49 [.int .i64 s, .int .i64 n] h (fun r h' => (h.le h' ∧ WF h' ∧ h.next ≤ h'.next) ∧ BoolRow h' r (bitsB s n)) := by
  have S0 := HS.all hw
  refine EvF.enter rfl rfl rfl ?_
  repeat (first | refine EvO.plain rfl rfl rfl rfl rfl rfl ?_ | refine EvC.seq ?_ | refine EvC.region rfl ?_ | refine EvO.nil ?_ | refine at_normal ?_ | refine EvC.block ?_)
  refine EvC.loop (fun m σ h' => ∃ (i : Nat) (lv : AV) (cx : Nat → Nat) (E : Nat → AV), HS h h' cx ∧ h.next ≤ h'.next ∧ Vec cx 1 h' 4 1 lv (bitsB s i).length ((bitsB s i).map AV.bool) ∧ i ≤ n ∧ m = n - i ∧ σ = upds [(0, .int .i64 s), (1, .int .i64 n), (5, lv), (6, .int .i64 i)] E) (n) ?_ ?_
  · exact ⟨0, .nilSlice, _, _, S0, Nat.le_refl _, .nil, Nat.zero_le _, rfl, hold ⟨rfl, rfl, rfl, rfl, trivial⟩⟩
  · rintro m _ h3 ⟨i, lv, c3, E, S3, hnx, V3, hi, rfl, rfl⟩
    repeat (first | refine EvO.plain rfl rfl rfl rfl rfl rfl ?_ | refine EvC.seq ?_ | refine EvC.region rfl ?_ | refine EvO.nil ?_ | refine at_normal ?_)
    refine EvC.decide rfl (fun hil => ?_) (fun hil => ?_)
    · have hil : i < n := by omega
      have hbit := bit_val s i hs (by omega)
      have hsn1 := bitsB_succ s i
      have hsl := bitsB_len s i
      generalize hz : s / 2 ^ i % 2 = z at *
      repeat (first | refine EvO.plain rfl rfl rfl rfl rfl rfl ?_ | refine EvC.seq ?_ | refine EvC.region rfl ?_ | refine at_normal ?_ | refine EvC.skip ?_ | refine EvC.block ?_)
      (refine EvO.cons rfl rfl rfl (EvP.quiet rfl (shr_at s i) ?_))
      skip
      (refine EvO.cons rfl rfl rfl (EvP.quiet rfl (show some (AV.int .i64 (IntKind.i64.wrap ((BitVec.ofInt IntKind.i64.bits ((s : Int).fdiv (2 ^ min ((i : Nat) : Int).toNat IntKind.i64.bits)) &&& BitVec.ofInt IntKind.i64.bits 1).toNat : Nat))) = some (.int .i64 ((z : Nat) : Int)) by rw [hbit]) ?_))
      repeat (refine EvO.plain rfl rfl rfl rfl rfl rfl ?_)
      (refine EvO.cons rfl rfl rfl (EvP.newR (b := .cells [.bool (((z : Nat) : Int) == 1)] 4 false) (mk := .slice 1 1 true) S3 rfl rfl (fun h4 id4 A4 N4 hle4 o4 _ _ => ?_)))
      have V4 := V3.step A4 S3.wf (fun e => e)
      skip
      refine EvO.cons rfl rfl rfl (EvP.appendC N4 V4 (by decide) rfl rfl rfl rfl rfl rfl rfl rfl rfl (by decide) rfl rfl (afirst_all o4 rfl) rfl (by decide) rfl (by show ((bitsB s i).length + 1) * 1 ≤ 70368744177664; omega) (by omega) (fun lv5 h5 c5 A5 N5 X5 => ?_))
      repeat (first | refine EvO.plain rfl rfl rfl rfl rfl rfl ?_ | refine EvC.region rfl ?_ | refine EvO.nil ?_ | refine at_normal ?_ | refine be_normal ?_ | refine ro_normal ?_ | refine EvO.cons rfl rfl rfl (EvP.add64 rfl rfl (by omega) ?_))
      have ez : (((z : Nat) : Int) == 1) = (z == 1) := by rw [Bool.eq_iff_iff, beq_iff_eq, beq_iff_eq]; omega
      rw [ez] at X5
      exact ⟨n - (i + 1), by omega, i + 1, lv5, c5, _, N5.down hle4, Nat.le_trans hnx (Nat.le_trans A4.nx A5.nx), by rw [hsn1, List.length_append, List.map_append]; exact X5, by omega, rfl, hold ⟨rfl, rfl, rfl, rfl, trivial⟩⟩
    · have hend : i = n := by omega
      subst hend
      repeat (first | refine EvO.plain rfl rfl rfl rfl rfl rfl ?_ | refine EvC.seq ?_ | refine EvC.region rfl ?_ | refine EvO.nil ?_ | refine at_normal ?_ | refine EvC.ret ?_ | refine EvC.exit ?_ | refine at_exit ?_ | refine be_same rfl ?_ | refine ro_exit ?_)
      (refine ret_is (v := lv) rfl rfl ?_)
      exact ⟨⟨S3.le, S3.wf, hnx⟩, bool_row V3⟩
/-- How many of the first bools are a model. -/
def cntB (L : List (List Int)) (n m : Nat) : Nat := (List.range m).countP fun s => decide (allB L (bitsB s n))
theorem cntB_succ (L : List (List Int)) (n m : Nat) : cntB L n (m + 1) = cntB L n m + if allB L (bitsB m n) then 1 else 0 := by
  unfold cntB
  rw [List.range_succ, List.countP_append, List.countP_singleton]
  by_cases h : allB L (bitsB m n) <;> simp [h]
theorem cntB_le (L : List (List Int)) (n m : Nat) : cntB L n m ≤ m := by
  have := List.countP_le_length (p := fun s => decide (allB L (bitsB s n))) (l := List.range m)
  rwa [List.length_range] at this
set_option maxHeartbeats 4000000 in
theorem models_spec {h : AH} (hw : WF h) {n : Nat} (hn : n ≤ 30) {cl : AV} {L : List (List Int)} {cv : Nat → AV} (C : CnfAt h n cl L cv) (hall : ∀ i, i < L.length → ∀ x ∈ L.getD i [], ok n x) :
    EvF (TT gt) X 21 [.agg [.int .i64 n, cl], .nilSlice] h (fun r h' => (h.le h' ∧ WF h') ∧ r = .int .i64 (cntB L n (2 ^ n) : Nat)) := by
  have S0 := HS.all hw
  have hpw : 2 ^ n ≤ 2 ^ 30 := Nat.pow_le_pow_right (by decide) hn
  refine EvF.enter rfl rfl rfl ?_
  repeat (first | refine EvC.seq ?_ | refine EvC.region rfl ?_)
  (refine EvO.cons rfl rfl rfl (EvP.newR (b := .cells [.int .i64 n, cl] 24 false) (mk := .ptr) S0 rfl rfl (fun h1 b A1 S1 hle1 o1 _ _ => ?_)))
  repeat (first | refine EvO.plain rfl rfl rfl rfl rfl rfl ?_ | refine EvC.seq ?_ | refine EvC.region rfl ?_ | refine EvO.nil ?_ | refine at_normal ?_ | refine EvC.block ?_)
  generalize hN : 2 ^ n = N at *
  refine EvC.loop (fun m σ h' => ∃ (s : Nat) (E : Nat → AV), HS (h.add b (.cells [.int .i64 n, cl] 24 false)) h' (fun _ => 0) ∧ s ≤ N ∧ m = N - s ∧ σ = upds [(1, .nilSlice), (2, .ptr b 0), (5, .int .i64 (cntB L n s : Nat)), (6, .int .i64 s)] E) (N) ?_ ?_
  · exact ⟨0, _, S1, Nat.zero_le _, rfl, hold ⟨rfl, rfl, rfl, rfl, trivial⟩⟩
  · clear S1 A1 o1
    rintro m _ h2 ⟨s, E, S2, hs, rfl, rfl⟩
    have o2 := S2.le _ _ (AH.get_add h b (.cells [.int .i64 n, cl] 24 false))
    have f1 := load1 (T := TT gt) (t := 3) (off := 0) o2 rfl rfl rfl
    have hle2 : h.le h2 := fun i o e => S2.le _ _ (hle1 _ _ e)
    repeat (first | refine EvO.plain rfl rfl rfl rfl rfl rfl ?_ | refine EvO.plain rfl rfl rfl rfl rfl (by assumption) ?_ | refine EvC.seq ?_ | refine EvC.region rfl ?_)
    (refine EvO.cons rfl rfl rfl (EvP.quiet rfl (show some (AV.int .i64 (IntKind.i64.wrap (1 * 2 ^ min ((n : Nat) : Int).toNat IntKind.i64.bits))) = some (.int .i64 ((N : Nat) : Int)) by rw [shl1 n (by omega), hN]) ?_))
    repeat (first | refine EvO.plain rfl rfl rfl rfl rfl rfl ?_ | refine EvO.nil ?_ | refine at_normal ?_)
    refine EvC.decide rfl (fun hlt => ?_) (fun hlt => ?_)
    · have hlt : s < N := by omega
      repeat (first | refine EvO.plain rfl rfl rfl rfl rfl rfl ?_ | refine EvO.plain rfl rfl rfl rfl rfl (by assumption) ?_ | refine EvC.seq ?_ | refine EvC.region rfl ?_ | refine at_normal ?_ | refine EvC.skip ?_ | refine EvC.block ?_)
      (refine EvO.cons rfl rfl rfl (EvP.callF rfl rfl rfl rfl (EvF.mono (bools_spec S2.wf (n := n) (s := s) (by omega) (by omega)) ?_)))
      rintro bv h3 _ ⟨⟨hle3, hw3, hnx3⟩, row⟩
      clear f1
      have S3 := S2.grow hle3 hw3 hnx3
      have o3 := hle3 _ _ o2
      have f2 := load1 (T := TT gt) (t := 22) (off := 1) o3 rfl rfl rfl
      have hle03 : h.le h3 := fun i o e => hle3 _ _ (hle2 _ _ e)
      repeat (first | refine EvO.plain rfl rfl rfl rfl rfl rfl ?_ | refine EvO.plain rfl rfl rfl rfl rfl (by assumption) ?_ | refine EvC.seq ?_ | refine EvC.region rfl ?_ | refine EvO.nil ?_ | refine at_normal ?_)
      (refine EvO.cons rfl rfl rfl (EvP.callF rfl rfl rfl rfl (EvF.mono (refAll_spec (facts gt) (C.mono hle03) row (by rw [bitsB_len]; omega) (fun i hi x hx => by rw [bitsB_len]; exact hall i hi x hx)) ?_)))
      rintro _ h3 _ ⟨rfl, rfl⟩
      clear f2
      have hcs := cntB_succ L n s
      have hcl := cntB_le L n s
      repeat (first | refine EvO.plain rfl rfl rfl rfl rfl rfl ?_ | refine EvC.seq ?_ | refine EvC.region rfl ?_ | refine EvO.nil ?_ | refine at_normal ?_ | refine EvC.block ?_)
      refine EvC.loop (fun m σ h' => h' = h3 ∧ ∃ E : Nat → AV, m = 0 ∧ σ = upds [(1, .nilSlice), (2, .ptr b 0), (5, .int .i64 (cntB L n s : Nat)), (6, .int .i64 s), (8, .bool (decide (allB L (bitsB s n)))), (27, .int .i64 0), (28, .int .i64 0)] E) (0) ?_ ?_
      · exact ⟨rfl, _, rfl, hold ⟨rfl, rfl, rfl, rfl, rfl, rfl, rfl, trivial⟩⟩
      · rintro m _ h3 ⟨rfl, E, rfl, rfl⟩
        repeat (first | refine EvO.plain rfl rfl rfl rfl rfl rfl ?_ | refine EvC.seq ?_ | refine EvC.region rfl ?_ | refine EvO.nil ?_ | refine at_normal ?_)
        refine EvC.cond (t := false) rfl (fun e => nomatch e) (fun _ => ?_)
        repeat (first | refine EvO.plain rfl rfl rfl rfl rfl rfl ?_ | refine EvC.seq ?_ | refine EvC.region rfl ?_ | refine EvO.nil ?_ | refine at_normal ?_ | refine EvC.exit ?_ | refine at_exit ?_ | refine be_same rfl ?_ | refine ro_exit ?_)
        by_cases hA : allB L (bitsB s n)
        · refine EvC.cond (t := true) (isT (decide_eq_true hA)) (fun _ => ?_) (fun e => nomatch e)
          rw [if_pos hA] at hcs
          repeat (first | refine EvO.plain rfl rfl rfl rfl rfl rfl ?_ | refine EvC.region rfl ?_ | refine EvO.nil ?_ | refine at_normal ?_ | refine be_normal ?_ | refine ro_normal ?_ | refine EvO.cons rfl rfl rfl (EvP.add64 rfl rfl (by omega) ?_))
          exact ⟨N - (s + 1), by omega, s + 1, _, S3, by omega, rfl, hold ⟨rfl, rfl, congrArg (AV.int .i64) (by omega), rfl, trivial⟩⟩
        · refine EvC.cond (t := false) (isT (decide_eq_false hA)) (fun e => nomatch e) (fun _ => ?_)
          rw [if_neg hA, Nat.add_zero] at hcs
          repeat (first | refine EvO.plain rfl rfl rfl rfl rfl rfl ?_ | refine EvC.region rfl ?_ | refine EvO.nil ?_ | refine at_normal ?_ | refine EvC.skip ?_ | refine be_normal ?_ | refine ro_normal ?_ | refine EvO.cons rfl rfl rfl (EvP.add64 rfl rfl (by omega) ?_))
          exact ⟨N - (s + 1), by omega, s + 1, _, S3, by omega, rfl, hold ⟨rfl, rfl, congrArg (AV.int .i64) (by omega), rfl, trivial⟩⟩
    · have hend : s = N := by omega
      subst hend
      repeat (first | refine EvO.plain rfl rfl rfl rfl rfl rfl ?_ | refine EvC.seq ?_ | refine EvC.region rfl ?_ | refine EvO.nil ?_ | refine at_normal ?_ | refine EvC.ret ?_ | refine EvC.exit ?_ | refine at_exit ?_ | refine be_same rfl ?_ | refine ro_exit ?_)
      (refine ret_is (v := .int .i64 (cntB L n s : Nat)) rfl rfl ?_)
      exact ⟨⟨hle2, S2.wf⟩, rfl⟩
end Sa
end Pf
end Go.Proofs.YtheiionmocfleaaDoor
