/- The law's run. -/
import Derived.Test.YtfjloafebkjadaaGreatDoorPiD
import Derived.Test.YtfjloafebkjadaaGreatDoorPfH
import Derived.Test.YtfjloafebkjadaaGreatDoorPfL
namespace Go.Proofs.YtfjloafebkjadaaGreatDoor
namespace Pf
open Go Go.AI Go.Proofs
variable {gt : Tree (List AV)}
theorem pair_getD {A : List Int} (h : A.Pairwise (· < ·)) {i : Nat} (hi : i + 1 < A.length) : A.getD i 0 < A.getD (i + 1) 0 := by
  rw [List.pairwise_iff_getElem] at h
  rw [List.getD_eq_getElem?_getD, List.getD_eq_getElem?_getD, List.getElem?_eq_getElem (by omega), List.getElem?_eq_getElem hi]
  exact h i (i + 1) (by omega) hi (by omega)
theorem rising_spec {h : AH} {v : AV} {A : List Int} {m : Nat} (row : IntRow h v A) (R : RisesTo A m) (hA : A.length ≤ 2 ^ 40) (hm : m ≤ 2 ^ 40) :
    EvF (TT gt) X 22 [v, .int .i64 m] h (fun r h' => h' = h ∧ r = .bool true) := by
  have ln := RowOf.len_any (T := TT gt) (t := 35) row rfl h
  refine EvF.enter rfl rfl rfl ?_
  repeat (first | refine EvO.plain rfl rfl rfl rfl rfl rfl ?_ | refine EvO.plain rfl rfl rfl rfl rfl (by assumption) ?_ | refine EvC.seq ?_ | refine EvC.region rfl ?_ | refine EvO.nil ?_ | refine at_normal ?_ | refine EvC.block ?_)
  refine EvC.loop (fun q σ h' => ∃ (i : Nat) (b : Int) (E : Nat → AV), h' = h ∧ i ≤ A.length ∧ -1 ≤ b ∧ b ≤ m ∧ (i < A.length → b < A.getD i 0) ∧ q = A.length - i ∧ σ = upds [(1, .int .i64 m), (5, .int .i64 b), (8, v), (9, .int .i64 A.length), (10, .int .i64 i)] E) (A.length) ?_ ?_
  · exact ⟨0, -1, _, rfl, Nat.zero_le _, by omega, by omega, fun hi => by have := (R.2 _ (getD_mem hi)).1; omega, rfl, hold ⟨rfl, rfl, rfl, rfl, rfl, trivial⟩⟩
  · rintro q _ h1 ⟨i, b, E, rfl, hi, hb1, hb2, hb, rfl, rfl⟩
    repeat (first | refine EvO.plain rfl rfl rfl rfl rfl rfl ?_ | refine EvC.seq ?_ | refine EvC.region rfl ?_ | refine EvO.nil ?_ | refine at_normal ?_)
    refine EvC.decide rfl (fun hc => ?_) (fun hc => ?_)
    · have hlt : i < A.length := by omega
      obtain ⟨q, b1, b2⟩ := row.at1 (T := TT gt) (t := 35) (e := 3) rfl rfl rfl rfl (k := .i64) (i := i) (by omega) (by omega)
      rw [Int.toNat_natCast] at b2
      have hx := R.2 _ (getD_mem hlt)
      have hbb := hb hlt
      repeat (first | refine EvO.plain rfl rfl rfl rfl rfl rfl ?_ | refine EvO.plain rfl rfl rfl rfl rfl (by assumption) ?_ | refine EvC.seq ?_ | refine EvC.region rfl ?_ | refine EvO.nil ?_ | refine at_normal ?_ | refine EvC.skip ?_ | refine EvC.block ?_)
      refine EvO.cons rfl rfl rfl (EvP.quiet rfl (isB (q := false) (decide_eq_false (by omega))) ?_)
      repeat (first | refine EvO.plain rfl rfl rfl rfl rfl rfl ?_ | refine EvO.plainOn rfl rfl rfl rfl rfl rfl ?_)
      refine EvO.on rfl rfl rfl (EvP.quiet rfl (isB (q := false) (decide_eq_false (by omega))) ?_)
      repeat (first | refine EvO.plain rfl rfl rfl rfl rfl rfl ?_ | refine EvO.nil ?_ | refine at_normal ?_)
      refine EvC.cond (t := false) rfl (fun e => nomatch e) (fun _ => ?_)
      clear b1 b2
      repeat (first | refine EvO.plain rfl rfl rfl rfl rfl rfl ?_ | refine EvC.region rfl ?_ | refine EvO.nil ?_ | refine at_normal ?_ | refine EvC.skip ?_ | refine be_normal ?_ | refine ro_normal ?_ | refine EvO.cons rfl rfl rfl (EvP.add64 rfl rfl (by omega) ?_))
      exact ⟨A.length - (i + 1), by omega, i + 1, _, _, rfl, by omega, by omega, by omega, fun hi' => pair_getD R.1 hi', rfl, hold ⟨rfl, rfl, rfl, rfl, rfl, trivial⟩⟩
    · repeat (first | refine EvO.plain rfl rfl rfl rfl rfl rfl ?_ | refine EvC.seq ?_ | refine EvC.region rfl ?_ | refine EvO.nil ?_ | refine at_normal ?_ | refine EvC.ret ?_ | refine EvC.exit ?_ | refine at_exit ?_ | refine be_same rfl ?_ | refine ro_exit ?_)
      (refine ret_is (v := .bool true) rfl rfl ?_)
      exact ⟨rfl, rfl⟩
theorem nth_take {L : List (List Int)} {A : List Int} : (nth L A).length = A.length := by unfold nth; rw [List.length_map]
theorem nth_getD {L : List (List Int)} {A : List Int} {i : Nat} (h : i < A.length) : (nth L A).getD i [] = L.getD (A.getD i 0).toNat [] := by
  unfold nth
  have e : A.getD i 0 = A[i] := by rw [List.getD_eq_getElem?_getD, List.getElem?_eq_getElem h]; rfl
  rw [e, List.getD_eq_getElem?_getD, List.getElem?_map, List.getElem?_eq_getElem h]
  rfl
theorem nth_mem {L : List (List Int)} {A : List Int} {m : Nat} (R : RisesTo A m) (hm : m = L.length) {c : List Int} (hc : c ∈ nth L A) : c ∈ L := by
  unfold nth at hc
  obtain ⟨x, hx, rfl⟩ := List.mem_map.1 hc
  have := R.2 x hx
  exact getDL_mem (by omega)
theorem rises_len {A : List Int} {m : Nat} (R : RisesTo A m) : A.length ≤ m := by
  have h1 : A.length ≤ ((List.range m).map (fun j : Nat => (j : Int))).length := nodup_len (R.1.imp (fun h => by omega)) (fun x hx => by
    obtain ⟨h1, h2⟩ := R.2 x hx
    rw [List.mem_map]
    exact ⟨x.toNat, by rw [List.mem_range]; omega, by omega⟩)
  rwa [List.length_map, List.length_range] at h1
theorem map_take_next {A : List Int} {f : Int → AV} {i : Nat} (h : i < A.length) : (A.take (i + 1)).map f = (A.take i).map f ++ [f (A.getD i 0)] := by
  rw [List.take_add_one, List.getD_eq_getElem?_getD, List.getElem?_eq_getElem h, List.map_append]; rfl
theorem cnf_nth {h : AH} {col : Nat → Nat} {c : Nat} {n : Int} {v cl : AV} {L : List (List Int)} {cv : Nat → AV} {A : List Int} (C : CnfAt h n cl L cv) (R : RisesTo A L.length) (V : Vec col c h 35 1 v A.length (A.map (fun x => cv x.toNat))) : ∃ cv', CnfAt h n v (nth L A) cv' := by
  rw [← nth_take (L := L)] at V
  refine cnf_of_vec V (fun i hi => ?_) (fun l hl => C.lens l (nth_mem R rfl hl)) (by have := rises_len R; have := C.many; rw [nth_take]; omega)
  rw [nth_take] at hi
  have := R.2 _ (getD_mem hi)
  refine ⟨cv (A.getD i 0).toNat, ?_, by rw [nth_getD hi]; exact C.ints _ (by omega)⟩
  rw [List.getElem?_map, List.getElem?_eq_getElem hi, List.getD_eq_getElem?_getD, List.getElem?_eq_getElem hi]; rfl
set_option maxHeartbeats 4000000 in
theorem cores_law {h : AH} (hw : WF h) {n : Int} {cl pv : AV} {L P : List (List Int)} {cv pc : Nat → AV} (C : CnfAt h n cl L cv) (D : CnfAt h n pv P pc) (nc : NZ cl) (np : NZ pv) (hb : total L + total P ≤ 2 ^ 60) (hm : L.length + P.length ≤ 2 ^ 29) :
    EvF (TT gt) X 4 [.agg [.int .i64 n, cl], pv] h (fun r _ => r = .bool true) := by
  have wake : ∀ {h' : AH}, EvF (TT gt) X 16 [] h' (fun r h'' => h'' = h' ∧ r = .bool true) := awake_spec
  refine EvF.enter rfl rfl rfl ?_
  repeat (first | refine EvC.seq ?_ | refine EvC.region rfl ?_)
  (refine EvO.cons rfl rfl rfl (EvP.new (b := .cells [.int .i64 n, cl] 24 false) (mk := .ptr) rfl rfl hw (fun h1 b hg1 hb1 hfr => ?_)))
  have f1 := loadAgg (T := TT gt) (t := 24) (off := 0) (n := 2) (r := [.int .i64 n, cl]) hb1 rfl rfl
  repeat (first | refine EvO.plain rfl rfl rfl rfl rfl rfl ?_ | refine EvO.plain rfl rfl rfl rfl rfl (by assumption) ?_ | refine EvC.seq ?_ | refine EvC.region rfl ?_ | refine EvO.nil ?_ | refine at_normal ?_)
  (refine EvO.cons rfl rfl rfl (EvP.callF rfl rfl rfl rfl (EvF.mono (few27_spec hg1.wf (C.mono hg1.le) (D.mono hg1.le) nc np hb hm) ?_)))
  rintro _ h2 hn2 ⟨⟨hl2, hw2⟩, few, rfl, hfew⟩
  have hg2 : Grew h1 h2 := ⟨hl2, hw2, hn2⟩
  have hg := hg1.trans hg2
  clear f1
  have b2 := hg2.le _ _ hb1
  cases few with
  | false =>
    repeat (first | refine EvO.plain rfl rfl rfl rfl rfl rfl ?_ | refine EvO.nil ?_ | refine at_normal ?_)
    refine EvC.cond (t := true) rfl (fun _ => ?_) (fun e => nomatch e)
    repeat (first | refine EvC.seq ?_ | refine EvC.region rfl ?_)
    (refine EvO.cons rfl rfl rfl (EvP.callF rfl rfl rfl rfl (EvF.mono (wake) ?_)))
    rintro _ h3 _ ⟨rfl, rfl⟩
    repeat (first | refine EvO.plain rfl rfl rfl rfl rfl rfl ?_ | refine EvO.nil ?_ | refine at_normal ?_ | refine EvC.ret ?_ | refine at_ret ?_)
    (refine ret_is (v := .bool true) rfl rfl ?_)
    rfl
  | true =>
    obtain ⟨s1, s2, s3, s4⟩ := hfew rfl
    have f2 := loadAgg (T := TT gt) (t := 24) (off := 0) (n := 2) (r := [.int .i64 n, cl]) b2 rfl rfl
    repeat (first | refine EvO.plain rfl rfl rfl rfl rfl rfl ?_ | refine EvO.nil ?_ | refine at_normal ?_)
    refine EvC.cond (t := false) rfl (fun e => nomatch e) (fun _ => ?_)
    repeat (first | refine EvO.plain rfl rfl rfl rfl rfl rfl ?_ | refine EvO.plain rfl rfl rfl rfl rfl (by assumption) ?_ | refine EvC.seq ?_ | refine EvC.region rfl ?_ | refine at_normal ?_ | refine EvC.skip ?_)
    (refine EvO.cons rfl rfl rfl (EvP.callF rfl rfl rfl rfl (EvF.mono (Core_spec hg.wf (C.mono hg.le) (D.mono hg.le) nc np s4 s1 s2 s3) ?_)))
    rintro r h3 hn3 ⟨⟨hl3, hw3⟩, hx⟩
    clear f2
    have b3 := hl3 _ _ b2
    have hle3 : h.le h3 := AH.le.trans' hg.le hl3
    have f3 := loadAgg (T := TT gt) (t := 24) (off := 0) (n := 2) (r := [.int .i64 n, cl]) b3 rfl rfl
    have hPl : ∀ l ∈ P, l.length ≤ 2 ^ 36 := fun l hl => by have := len_total hl; omega
    rcases hx with ⟨hv, rfl⟩ | ⟨hv, hnr, rfl⟩ | ⟨hv, href, av, bv, A, B, rfl, rowA, rowB, RA, RB, hres⟩
    · repeat (first | refine EvO.plain rfl rfl rfl rfl rfl rfl ?_ | refine EvO.plain rfl rfl rfl rfl rfl (by assumption) ?_ | refine EvC.seq ?_ | refine EvC.region rfl ?_ | refine EvO.nil ?_ | refine at_normal ?_)
      (refine EvO.cons rfl rfl rfl (EvP.callF rfl rfl rfl rfl (EvF.mono (rcheck_spec hw3 (C.mono hle3) (D.mono hle3) nc (by omega) hPl) ?_)))
      rintro _ h4 _ ⟨⟨hl4, hw4⟩, is, e, rfl, x1, x2⟩
      obtain ⟨rfl, rfl⟩ := x1 hv
      clear f3
      repeat (first | refine EvO.plain rfl rfl rfl rfl rfl rfl ?_ | refine EvC.seq ?_ | refine EvC.region rfl ?_ | refine EvO.nil ?_ | refine at_normal ?_)
      refine EvO.cons rfl rfl rfl (EvP.quiet rfl (isB (q := true) rfl) ?_)
      repeat (first | refine EvO.plain rfl rfl rfl rfl rfl rfl ?_ | refine EvO.nil ?_ | refine at_normal ?_ | refine EvO.off rfl rfl rfl ?_)
      refine EvC.cond (t := true) rfl (fun _ => ?_) (fun e => nomatch e)
      repeat (first | refine EvO.plain rfl rfl rfl rfl rfl rfl ?_ | refine EvC.seq ?_ | refine EvC.region rfl ?_ | refine EvO.nil ?_ | refine at_normal ?_)
      refine EvC.cond (t := false) rfl (fun e => nomatch e) (fun _ => ?_)
      repeat (first | refine EvO.plain rfl rfl rfl rfl rfl rfl ?_ | refine EvC.seq ?_ | refine EvC.region rfl ?_ | refine at_normal ?_ | refine EvC.skip ?_)
      refine EvO.cons rfl rfl rfl (EvP.quiet rfl (isB (q := true) rfl) ?_)
      repeat (first | refine EvO.plain rfl rfl rfl rfl rfl rfl ?_ | refine EvO.plainOn rfl rfl rfl rfl rfl rfl ?_)
      refine EvO.on rfl rfl rfl (EvP.quiet rfl (isB (q := true) rfl) ?_)
      repeat (first | refine EvO.plain rfl rfl rfl rfl rfl rfl ?_ | refine EvO.plainOn rfl rfl rfl rfl rfl rfl ?_)
      refine EvO.on rfl rfl rfl (EvP.quiet rfl (isB (q := true) rfl) ?_)
      repeat (refine EvO.plain rfl rfl rfl rfl rfl rfl ?_)
      refine EvO.on rfl rfl rfl (EvP.callF rfl rfl rfl rfl (EvF.mono (wake) ?_))
      rintro _ h5 _ ⟨rfl, rfl⟩
      repeat (first | refine EvO.plain rfl rfl rfl rfl rfl rfl ?_ | refine EvO.nil ?_ | refine at_normal ?_ | refine EvC.ret ?_ | refine at_ret ?_)
      (refine ret_is (v := .bool true) rfl rfl ?_)
      rfl
    · repeat (first | refine EvO.plain rfl rfl rfl rfl rfl rfl ?_ | refine EvO.plain rfl rfl rfl rfl rfl (by assumption) ?_ | refine EvC.seq ?_ | refine EvC.region rfl ?_ | refine EvO.nil ?_ | refine at_normal ?_)
      (refine EvO.cons rfl rfl rfl (EvP.callF rfl rfl rfl rfl (EvF.mono (rcheck_spec hw3 (C.mono hle3) (D.mono hle3) nc (by omega) hPl) ?_)))
      rintro _ h4 _ ⟨⟨hl4, hw4⟩, is, e, rfl, x1, x2⟩
      obtain ⟨rfl, x3⟩ := x2 hv
      obtain rfl : is = false := by cases is with
        | false => rfl
        | true => exact absurd (x3.1 rfl) hnr
      clear f3
      repeat (first | refine EvO.plain rfl rfl rfl rfl rfl rfl ?_ | refine EvC.seq ?_ | refine EvC.region rfl ?_ | refine EvO.nil ?_ | refine at_normal ?_)
      refine EvO.cons rfl rfl rfl (EvP.quiet rfl (isB (q := false) rfl) ?_)
      repeat (first | refine EvO.plain rfl rfl rfl rfl rfl rfl ?_ | refine EvO.nil ?_ | refine at_normal ?_ | refine EvO.plainOn rfl rfl rfl rfl rfl rfl ?_)
      refine EvC.cond (t := true) rfl (fun _ => ?_) (fun e => nomatch e)
      repeat (first | refine EvO.plain rfl rfl rfl rfl rfl rfl ?_ | refine EvC.seq ?_ | refine EvC.region rfl ?_ | refine EvO.nil ?_ | refine at_normal ?_)
      refine EvC.cond (t := true) rfl (fun _ => ?_) (fun e => nomatch e)
      repeat (first | refine EvO.plain rfl rfl rfl rfl rfl rfl ?_ | refine EvC.seq ?_ | refine EvC.region rfl ?_ | refine EvO.nil ?_ | refine at_normal ?_)
      refine EvO.cons rfl rfl rfl (EvP.quiet rfl (isB (q := true) rfl) ?_)
      repeat (first | refine EvO.plain rfl rfl rfl rfl rfl rfl ?_ | refine EvO.plainOn rfl rfl rfl rfl rfl rfl ?_)
      refine EvO.on rfl rfl rfl (EvP.quiet rfl (isB (q := true) rfl) ?_)
      repeat (first | refine EvO.plain rfl rfl rfl rfl rfl rfl ?_ | refine EvO.plainOn rfl rfl rfl rfl rfl rfl ?_)
      refine EvO.on rfl rfl rfl (EvP.quiet rfl (isB (q := true) rfl) ?_)
      repeat (refine EvO.plain rfl rfl rfl rfl rfl rfl ?_)
      refine EvO.on rfl rfl rfl (EvP.callF rfl rfl rfl rfl (EvF.mono (wake) ?_))
      rintro _ h5 _ ⟨rfl, rfl⟩
      repeat (first | refine EvO.plain rfl rfl rfl rfl rfl rfl ?_ | refine EvO.nil ?_ | refine at_normal ?_ | refine EvC.ret ?_ | refine at_ret ?_)
      (refine ret_is (v := .bool true) rfl rfl ?_)
      rfl
    · have lA := rises_len RA
      have lB := rises_len RB
      repeat (first | refine EvO.plain rfl rfl rfl rfl rfl rfl ?_ | refine EvO.plain rfl rfl rfl rfl rfl (by assumption) ?_ | refine EvC.seq ?_ | refine EvC.region rfl ?_ | refine EvO.nil ?_ | refine at_normal ?_)
      (refine EvO.cons rfl rfl rfl (EvP.callF rfl rfl rfl rfl (EvF.mono (rcheck_spec hw3 (C.mono hle3) (D.mono hle3) nc (by omega) hPl) ?_)))
      rintro _ h4 hn4 ⟨⟨hl4, hw4⟩, is, e, rfl, x1, x2⟩
      obtain ⟨rfl, x3⟩ := x2 hv
      obtain rfl : is = true := x3.2 href
      clear f3
      have b4 := hl4 _ _ b3
      have hle4 : h.le h4 := AH.le.trans' hle3 hl4
      have f4 := load1 (T := TT gt) (t := 22) (off := 1) b4 rfl rfl rfl
      have lc := C.rows.len_any (T := TT gt) (t := 22) rfl h4
      have lp := D.rows.len_any (T := TT gt) (t := 22) rfl h4
      have rowA := rowA.mono hl4
      have rowB := rowB.mono hl4
      repeat (first | refine EvO.plain rfl rfl rfl rfl rfl rfl ?_ | refine EvC.seq ?_ | refine EvC.region rfl ?_ | refine EvO.nil ?_ | refine at_normal ?_)
      refine EvO.cons rfl rfl rfl (EvP.quiet rfl (isB (q := false) rfl) ?_)
      repeat (first | refine EvO.plain rfl rfl rfl rfl rfl rfl ?_ | refine EvO.nil ?_ | refine at_normal ?_ | refine EvO.plainOn rfl rfl rfl rfl rfl rfl ?_)
      refine EvC.cond (t := false) rfl (fun e => nomatch e) (fun _ => ?_)
      repeat (first | refine EvO.plain rfl rfl rfl rfl rfl rfl ?_ | refine EvC.seq ?_ | refine EvC.region rfl ?_ | refine at_normal ?_ | refine EvC.skip ?_)
      refine EvO.cons rfl rfl rfl (EvP.quiet rfl (isB (q := false) rfl) ?_)
      repeat (first | refine EvO.plain rfl rfl rfl rfl rfl rfl ?_ | refine EvO.plainOn rfl rfl rfl rfl rfl rfl ?_ | refine EvO.plainOn rfl rfl rfl rfl rfl (by assumption) ?_)
      refine EvO.on rfl rfl rfl (EvP.callF rfl rfl rfl rfl (EvF.mono (rising_spec rowA RA (by omega) (by omega)) ?_))
      rintro _ h4 _ ⟨rfl, rfl⟩
      repeat (first | refine EvO.plain rfl rfl rfl rfl rfl rfl ?_ | refine EvO.plainOn rfl rfl rfl rfl rfl rfl ?_ | refine EvO.plainOn rfl rfl rfl rfl rfl (by assumption) ?_)
      refine EvO.on rfl rfl rfl (EvP.callF rfl rfl rfl rfl (EvF.mono (rising_spec rowB RB (by omega) (by omega)) ?_))
      rintro _ h4 _ ⟨rfl, rfl⟩
      repeat (first | refine EvO.plain rfl rfl rfl rfl rfl rfl ?_ | refine EvO.nil ?_ | refine at_normal ?_ | refine EvO.plainOn rfl rfl rfl rfl rfl rfl ?_)
      refine EvC.cond (t := false) rfl (fun e => nomatch e) (fun _ => ?_)
      clear f4 lc lp
      have la := RowOf.len_any (T := TT gt) (t := 35) rowA rfl h4
      repeat (first | refine EvO.plain rfl rfl rfl rfl rfl rfl ?_ | refine EvO.plain rfl rfl rfl rfl rfl (by assumption) ?_ | refine EvC.seq ?_ | refine EvC.region rfl ?_ | refine EvO.nil ?_ | refine at_normal ?_ | refine EvC.skip ?_ | refine EvC.block ?_)
      clear la
      have S4 := HS.all hw4
      have C4 := C.mono hle4
      have D4 := D.mono hle4
      refine EvC.loop (fun q σ h' => ∃ (i : Nat) (G : AH) (col : Nat → Nat) (lv : AV) (E : Nat → AV), HS G h' col ∧ h4.le G ∧ Vec col 1 h' 35 1 lv i ((A.take i).map (fun x => cv x.toNat)) ∧ i ≤ A.length ∧ q = A.length - i ∧ σ = upds [(1, pv), (2, .ptr b 0), (6, bv), (11, lv), (12, .nilSlice), (77, av), (78, .int .i64 A.length), (79, .int .i64 i)] E) (A.length) ?_ ?_
      · exact ⟨0, h4, _, .nilSlice, _, S4, fun _ _ e => e, .nil, Nat.zero_le _, rfl, hold ⟨rfl, rfl, rfl, rfl, rfl, rfl, rfl, rfl, trivial⟩⟩
      · clear S4
        rintro q _ h5 ⟨i, G, col, lv, E, S5, hG5, V5, hi, rfl, rfl⟩
        have hle5 := AH.le.trans' hG5 S5.le
        repeat (first | refine EvO.plain rfl rfl rfl rfl rfl rfl ?_ | refine EvC.seq ?_ | refine EvC.region rfl ?_ | refine EvO.nil ?_ | refine at_normal ?_)
        refine EvC.decide rfl (fun hc => ?_) (fun hc => ?_)
        · have hlt : i < A.length := by omega
          obtain ⟨q, i1, i2⟩ := (RowOf.mono hle5 rowA).at1 (T := TT gt) (t := 35) (e := 3) rfl rfl rfl rfl (k := .i64) (i := i) (by omega) (by omega)
          rw [Int.toNat_natCast] at i2
          have hx := RA.2 _ (getD_mem hlt)
          have f5 := load1 (T := TT gt) (t := 22) (off := 1) (hle5 _ _ b4) rfl rfl rfl
          obtain ⟨q2, j1, j2⟩ := (C4.mono hle5).rows.at1 (T := TT gt) (t := 22) (e := 35) rfl rfl rfl rfl (k := .i64) (i := A.getD i 0) (by omega) (by omega)
          have sc := (C4.ints (A.getD i 0).toNat (by omega)).sc
          repeat (first | refine EvO.plain rfl rfl rfl rfl rfl rfl ?_ | refine EvO.plain rfl rfl rfl rfl rfl (by assumption) ?_ | refine EvC.seq ?_ | refine EvC.region rfl ?_ | refine EvO.nil ?_ | refine at_normal ?_ | refine EvC.skip ?_ | refine EvC.block ?_)
          (refine EvO.cons rfl rfl rfl (EvP.newR (b := .cells [cv (A.getD i 0).toNat] 35 false) (mk := .slice 1 1 true) S5 rfl (show abuildSlice (TT gt) 22 1 [(0, cv (A.getD i 0).toNat)] = _ from build1 rfl rfl rfl rfl sc) (fun h6 id6 A6 S6 hle6 o6 _ _ => ?_)))
          (refine EvO.cons rfl rfl rfl (EvP.appendC S6 (V5.step A6 S5.wf (fun e => e)) (by decide) rfl rfl rfl rfl rfl rfl rfl rfl rfl (by decide) rfl rfl (afirst_all o6 rfl) rfl (by decide) (by rw [List.all_cons, sc.2]; rfl) (by show (i + 1) * 24 ≤ 70368744177664; omega) (by show i + 1 ≤ 1099511627776; omega) (fun w' h7 col7 A7 S7 V7 => ?_)))
          clear i1 i2 f5 j1 j2
          repeat (first | refine EvO.plain rfl rfl rfl rfl rfl rfl ?_ | refine EvC.region rfl ?_ | refine EvO.nil ?_ | refine at_normal ?_ | refine be_normal ?_ | refine ro_normal ?_ | refine EvO.cons rfl rfl rfl (EvP.add64 rfl rfl (by omega) ?_))
          exact ⟨A.length - (i + 1), by omega, i + 1, _, col7, w', _, S7, AH.le.trans' hG5 hle6, by rw [map_take_next hlt]; exact V7, by omega, by omega, hold ⟨rfl, rfl, rfl, rfl, rfl, rfl, rfl, rfl, trivial⟩⟩
        · obtain rfl : i = A.length := by omega
          rw [List.take_length] at V5
          have nzl := V5.nz
          obtain ⟨cv', C5⟩ := cnf_nth (C4.mono hle5) RA V5
          have lb := RowOf.len_any (T := TT gt) (t := 35) rowB rfl h5
          have T5 := HS.all S5.wf
          have b5 := hle5 _ _ b4
          have D5 := D4.mono hle5
          have rowB := RowOf.mono hle5 rowB
          repeat (first | refine EvO.plain rfl rfl rfl rfl rfl rfl ?_ | refine EvO.plain rfl rfl rfl rfl rfl (by assumption) ?_ | refine EvC.seq ?_ | refine EvC.region rfl ?_ | refine EvO.nil ?_ | refine at_normal ?_ | refine EvC.block ?_ | refine EvC.exit ?_ | refine at_exit ?_ | refine be_same rfl ?_ | refine ro_exit ?_)
          clear lb
          refine EvC.loop (fun q σ h' => ∃ (i : Nat) (G : AH) (col : Nat → Nat) (mv : AV) (E : Nat → AV), HS G h' col ∧ h5.le G ∧ Vec col 1 h' 35 1 mv i ((B.take i).map (fun x => pc x.toNat)) ∧ i ≤ B.length ∧ q = B.length - i ∧ σ = upds [(1, pv), (2, .ptr b 0), (11, lv), (12, mv), (92, bv), (93, .int .i64 B.length), (94, .int .i64 i)] E) (B.length) ?_ ?_
          · exact ⟨0, h5, _, .nilSlice, _, T5, fun _ _ e => e, .nil, Nat.zero_le _, rfl, hold ⟨rfl, rfl, rfl, rfl, rfl, rfl, rfl, trivial⟩⟩
          · clear T5 S5
            rintro q _ h6 ⟨i, G6, col6, mv, E, S6, hG6, V6, hi, rfl, rfl⟩
            have hle6 := AH.le.trans' hG6 S6.le
            repeat (first | refine EvO.plain rfl rfl rfl rfl rfl rfl ?_ | refine EvC.seq ?_ | refine EvC.region rfl ?_ | refine EvO.nil ?_ | refine at_normal ?_)
            refine EvC.decide rfl (fun hc => ?_) (fun hc => ?_)
            · have hlt : i < B.length := by omega
              obtain ⟨q, i1, i2⟩ := (RowOf.mono hle6 rowB).at1 (T := TT gt) (t := 35) (e := 3) rfl rfl rfl rfl (k := .i64) (i := i) (by omega) (by omega)
              rw [Int.toNat_natCast] at i2
              have hx := RB.2 _ (getD_mem hlt)
              obtain ⟨q2, j1, j2⟩ := (D5.mono hle6).rows.at1 (T := TT gt) (t := 22) (e := 35) rfl rfl rfl rfl (k := .i64) (i := B.getD i 0) (by omega) (by omega)
              have sc := (D5.ints (B.getD i 0).toNat (by omega)).sc
              repeat (first | refine EvO.plain rfl rfl rfl rfl rfl rfl ?_ | refine EvO.plain rfl rfl rfl rfl rfl (by assumption) ?_ | refine EvC.seq ?_ | refine EvC.region rfl ?_ | refine EvO.nil ?_ | refine at_normal ?_ | refine EvC.skip ?_ | refine EvC.block ?_)
              (refine EvO.cons rfl rfl rfl (EvP.newR (b := .cells [pc (B.getD i 0).toNat] 35 false) (mk := .slice 1 1 true) S6 rfl (show abuildSlice (TT gt) 22 1 [(0, pc (B.getD i 0).toNat)] = _ from build1 rfl rfl rfl rfl sc) (fun h7 id7 A7 S7 hle7 o7 _ _ => ?_)))
              (refine EvO.cons rfl rfl rfl (EvP.appendC S7 (V6.step A7 S6.wf (fun e => e)) (by decide) rfl rfl rfl rfl rfl rfl rfl rfl rfl (by decide) rfl rfl (afirst_all o7 rfl) rfl (by decide) (by rw [List.all_cons, sc.2]; rfl) (by show (i + 1) * 24 ≤ 70368744177664; omega) (by show i + 1 ≤ 1099511627776; omega) (fun w' h8 col8 A8 S8 V8 => ?_)))
              clear i1 i2 j1 j2
              repeat (first | refine EvO.plain rfl rfl rfl rfl rfl rfl ?_ | refine EvC.region rfl ?_ | refine EvO.nil ?_ | refine at_normal ?_ | refine be_normal ?_ | refine ro_normal ?_ | refine EvO.cons rfl rfl rfl (EvP.add64 rfl rfl (by omega) ?_))
              exact ⟨B.length - (i + 1), by omega, i + 1, _, col8, w', _, S8, AH.le.trans' hG6 hle7, by rw [map_take_next hlt]; exact V8, by omega, by omega, hold ⟨rfl, rfl, rfl, rfl, rfl, rfl, rfl, trivial⟩⟩
            · obtain rfl : i = B.length := by omega
              rw [List.take_length] at V6
              obtain ⟨pc', D6⟩ := cnf_nth (D5.mono hle6) RB V6
              have f6 := load1 (T := TT gt) (t := 3) (off := 0) (hle6 _ _ b5) rfl rfl rfl
              obtain ⟨⟨v0, v1, v2, v3, v4⟩, hp⟩ := hv
              obtain ⟨N, rfl⟩ : ∃ N : Nat, n = N := ⟨n.toNat, by omega⟩
              repeat (first | refine EvO.plain rfl rfl rfl rfl rfl rfl ?_ | refine EvO.plain rfl rfl rfl rfl rfl (by assumption) ?_ | refine EvC.seq ?_ | refine EvC.region rfl ?_ | refine at_normal ?_ | refine EvC.exit ?_ | refine at_exit ?_ | refine be_same rfl ?_ | refine ro_exit ?_)
              (refine EvO.cons rfl rfl rfl (EvP.callF rfl rfl rfl rfl (EvF.mono (refutes_spec S6.wf (by omega) (C5.mono hle6) D6 nzl (fun l hl => lits_ok v4 l (nth_mem RA rfl hl)) (fun l hl => lits_ok hp l (nth_mem RB rfl hl)) (fun l hl => hPl l (nth_mem RB rfl hl)) (by rw [nth_take, nth_take]; omega)) ?_)))
              rintro _ h7 _ ⟨⟨hl7, hw7⟩, bb, rfl, hbb⟩
              obtain rfl : bb = true := hbb.2 hres
              repeat (refine EvO.plain rfl rfl rfl rfl rfl rfl ?_)
              refine EvO.on rfl rfl rfl (EvP.callF rfl rfl rfl rfl (EvF.mono (wake) ?_))
              rintro _ h8 _ ⟨rfl, rfl⟩
              repeat (first | refine EvO.plain rfl rfl rfl rfl rfl rfl ?_ | refine EvO.nil ?_ | refine at_normal ?_ | refine EvC.ret ?_)
              (refine ret_is (v := .bool true) rfl rfl ?_)
              rfl
end Pf
end Go.Proofs.YtfjloafebkjadaaGreatDoor
