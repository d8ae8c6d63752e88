/- The law's run. -/
import Derived.Test.YtfjloafebkjadaaGreatDoorPhD
import Derived.Test.YtfjloafebkjadaaGreatDoorPgO
import Derived.Test.YtfjloafebkjadaaGreatDoorPfL
namespace Go.Proofs.YtfjloafebkjadaaGreatDoor
namespace Pf
open Go Go.AI Go.Proofs
variable {gt : Tree (List AV)}
theorem run_bound {B : Int} : ∀ {ls : List (Int × Int × Int)} {all s : List (List Int)}, run all ls = some s → (∀ c ∈ all, ∀ y ∈ c, y ≤ B) → ∀ x ∈ ls, x.2.2 ≤ B
  | [], _, _, _, _, _, hx => nomatch hx
  | x :: ls, all, s, h, hb, y, hy => by
    unfold run at h
    split at h
    · rename_i hok
      obtain ⟨⟨a1, a2⟩, ⟨b1, b2⟩, c1, c2, c3⟩ := hok
      have ha := hb _ (getDL_mem (L := all) (j := x.1.toNat) (by omega))
      have hb' := hb _ (getDL_mem (L := all) (j := x.2.1.toNat) (by omega))
      have hOB := List.mem_cons.1 hy
      rcases hOB with rfl | hy
      · exact ha _ c2
      · refine run_bound h (fun c hc z hz => ?_) y hy
        have hOB := List.mem_append.1 hc
        rcases hOB with h' | h'
        · exact hb c h' z hz
        · rw [List.mem_singleton.1 h'] at hz
          have hOB := mem_res.1 hz
          rcases hOB with h'' | h''
          · exact ha z h''.1
          · exact hb' z h''.1
    · cases h
theorem empty_spec {h : AH} {n : Int} {v : AV} {L : List (List Int)} {cv : Nat → AV} (C : CnfAt h n v L cv) :
    EvF (TT gt) X 32 [v] h (fun r h' => h' = h ∧ ∃ b, r = .bool b ∧ (b = true ↔ ∃ i, i < L.length ∧ L.getD i [] = [])) := by
  have ln := C.rows.len_any (T := TT gt) (t := 22) rfl h
  have hm := C.many
  refine EvF.enter rfl rfl rfl ?_
  repeat (first | refine EvO.plain rfl rfl rfl rfl rfl rfl ?_ | refine EvO.plain rfl rfl rfl rfl rfl (by assumption) ?_ | refine EvC.seq ?_ | refine EvC.region rfl ?_ | refine EvO.nil ?_ | refine at_normal ?_ | refine EvC.block ?_)
  clear ln
  refine EvC.loop (fun m σ h' => h' = h ∧ ∃ (i : Nat) (E : Nat → AV), (∀ j, j < i → L.getD j [] ≠ []) ∧ i ≤ L.length ∧ m = L.length - i ∧ σ = upds [(5, v), (6, .int .i64 L.length), (7, .int .i64 i)] E) (L.length) ?_ ?_
  · exact ⟨rfl, 0, _, fun j hj => absurd hj (Nat.not_lt_zero _), Nat.zero_le _, rfl, hold ⟨rfl, rfl, rfl, trivial⟩⟩
  · rintro m _ h ⟨rfl, i, E, hne, hi, rfl, rfl⟩
    repeat (first | refine EvO.plain rfl rfl rfl rfl rfl rfl ?_ | refine EvC.seq ?_ | refine EvC.region rfl ?_ | refine EvO.nil ?_ | refine at_normal ?_)
    refine EvC.decide rfl (fun hc => ?_) (fun hc => ?_)
    · have hlt : i < L.length := by omega
      have hOB := C.rows.at1 (T := TT gt) (t := 22) (e := 35) rfl rfl rfl rfl (k := .i64) (i := i) (by omega) (by omega)
      obtain ⟨q, b1, b2⟩ := hOB
      rw [Int.toNat_natCast] at b2
      have lr := RowOf.len_any (T := TT gt) (t := 35) (C.ints i hlt) rfl h
      repeat (first | refine EvO.plain rfl rfl rfl rfl rfl rfl ?_ | refine EvO.plain rfl rfl rfl rfl rfl (by assumption) ?_ | refine EvC.seq ?_ | refine EvC.region rfl ?_ | refine EvO.nil ?_ | refine at_normal ?_ | refine EvC.skip ?_ | refine EvC.block ?_)
      by_cases h0 : L.getD i [] = []
      · refine EvC.cond (t := true) (isT (beq_true (by rw [h0]; rfl))) (fun _ => ?_) (fun e => nomatch e)
        repeat (first | refine EvO.plain rfl rfl rfl rfl rfl rfl ?_ | refine EvC.seq ?_ | refine EvC.region rfl ?_ | refine EvO.nil ?_ | refine at_normal ?_ | refine EvC.ret ?_ | refine at_ret ?_ | refine be_ret ?_ | refine ro_ret ?_)
        (refine ret_is (v := .bool true) rfl rfl ?_)
        exact ⟨rfl, true, rfl, fun _ => ⟨i, hlt, h0⟩, fun _ => rfl⟩
      · refine EvC.cond (t := false) (isT (beq_false (by have : (L.getD i []).length ≠ 0 := fun e => h0 (List.eq_nil_of_length_eq_zero e); omega))) (fun e => nomatch e) (fun _ => ?_)
        repeat (first | refine EvO.plain rfl rfl rfl rfl rfl rfl ?_ | refine EvC.region rfl ?_ | refine EvO.nil ?_ | refine at_normal ?_ | refine EvC.skip ?_ | refine be_normal ?_ | refine ro_normal ?_ | refine EvO.cons rfl rfl rfl (EvP.add64 rfl rfl (by omega) ?_))
        refine ⟨L.length - (i + 1), by omega, rfl, i + 1, _, fun j hj => ?_, by omega, rfl, hold ⟨rfl, rfl, rfl, trivial⟩⟩
        have hOB := Nat.lt_or_ge j i
        rcases hOB with h' | h'
        · exact hne j h'
        · have hOB : j = i := by omega
          obtain rfl := hOB
          exact h0
    · have hOB : i = L.length := by omega
      obtain rfl := hOB
      repeat (first | refine EvO.plain rfl rfl rfl rfl rfl rfl ?_ | refine EvC.seq ?_ | refine EvC.region rfl ?_ | refine EvO.nil ?_ | refine at_normal ?_ | refine EvC.ret ?_ | refine EvC.exit ?_ | refine at_exit ?_ | refine be_same rfl ?_ | refine ro_exit ?_)
      (refine ret_is (v := .bool false) rfl rfl ?_)
      exact ⟨rfl, false, rfl, (fun e => nomatch e), fun ⟨i, hi, e⟩ => absurd e (hne i hi)⟩
set_option maxHeartbeats 40000000 in
theorem expands_law {h : AH} (hw : WF h) {n : Int} {cl pv : AV} {L P : List (List Int)} {cv pc : Nat → AV} (C : CnfAt h n cl L cv) (D : CnfAt h n pv P pc) (nc : NZ cl) (np : NZ pv) (hb : total L + total P ≤ 2 ^ 60) (hm : L.length + P.length ≤ 2 ^ 29) :
    EvF (TT gt) X 7 [.agg [.int .i64 n, cl], pv] h (fun r _ => r = .bool true) := by
  have wake : ∀ {h' : AH}, EvF (TT gt) X 16 [] h' (fun r h'' => h'' = h' ∧ r = .bool true) := awake_spec
  refine EvF.enter rfl rfl rfl ?_
  repeat (first | refine EvC.seq ?_ | refine EvC.region rfl ?_)
  (refine EvO.cons rfl rfl rfl (EvP.new (b := .cells [.int .i64 n, cl] 24 false) (mk := .ptr) rfl rfl hw (fun h1 b hg1 hb1 hfr => ?_)))
  have f1 := loadAgg (T := TT gt) (t := 24) (off := 0) (n := 2) (r := [.int .i64 n, cl]) hb1 rfl rfl
  repeat (first | refine EvO.plain rfl rfl rfl rfl rfl rfl ?_ | refine EvO.plain rfl rfl rfl rfl rfl (by assumption) ?_ | refine EvC.seq ?_ | refine EvC.region rfl ?_ | refine EvO.nil ?_ | refine at_normal ?_)
  (refine EvO.cons rfl rfl rfl (EvP.callF rfl rfl rfl rfl (EvF.mono (few27_spec hg1.wf (C.mono hg1.le) (D.mono hg1.le) nc np hb hm) ?_)))
  rintro _ h2 hn2 ⟨⟨hl2, hw2⟩, few, rfl, hfew⟩
  have hg2 : Grew h1 h2 := ⟨hl2, hw2, hn2⟩
  have hg := hg1.trans hg2
  clear f1
  have b2 := hg2.le _ _ hb1
  cases few with
  | false =>
    repeat (first | refine EvO.plain rfl rfl rfl rfl rfl rfl ?_ | refine EvO.nil ?_ | refine at_normal ?_)
    refine EvC.cond (t := true) rfl (fun _ => ?_) (fun e => nomatch e)
    repeat (first | refine EvC.seq ?_ | refine EvC.region rfl ?_)
    (refine EvO.cons rfl rfl rfl (EvP.callF rfl rfl rfl rfl (EvF.mono (wake) ?_)))
    rintro _ h3 _ ⟨rfl, rfl⟩
    repeat (first | refine EvO.plain rfl rfl rfl rfl rfl rfl ?_ | refine EvO.nil ?_ | refine at_normal ?_ | refine EvC.ret ?_ | refine at_ret ?_)
    (refine ret_is (v := .bool true) rfl rfl ?_)
    rfl
  | true =>
    have hOB := hfew rfl
    obtain ⟨s1, s2, s3, s4⟩ := hOB
    have f2 := loadAgg (T := TT gt) (t := 24) (off := 0) (n := 2) (r := [.int .i64 n, cl]) b2 rfl rfl
    repeat (first | refine EvO.plain rfl rfl rfl rfl rfl rfl ?_ | refine EvO.nil ?_ | refine at_normal ?_)
    refine EvC.cond (t := false) rfl (fun e => nomatch e) (fun _ => ?_)
    repeat (first | refine EvO.plain rfl rfl rfl rfl rfl rfl ?_ | refine EvO.plain rfl rfl rfl rfl rfl (by assumption) ?_ | refine EvC.seq ?_ | refine EvC.region rfl ?_ | refine at_normal ?_ | refine EvC.skip ?_)
    (refine EvO.cons rfl rfl rfl (EvP.callF rfl rfl rfl rfl (EvF.mono (Expand_spec hg.wf (C.mono hg.le) (D.mono hg.le) s4 s1 s2 s3) ?_)))
    rintro r h3 hn3 ⟨⟨hl3, hw3⟩, hx⟩
    clear f2
    have b3 := hl3 _ _ b2
    have hle3 : h.le h3 := AH.le.trans' hg.le hl3
    have f3 := loadAgg (T := TT gt) (t := 24) (off := 0) (n := 2) (r := [.int .i64 n, cl]) b3 rfl rfl
    have hPl : ∀ l ∈ P, l.length ≤ 2 ^ 36 := fun l hl => by have := len_total hl; omega
    rcases hx with ⟨hv, rfl⟩ | ⟨hv, hnr, rfl⟩ | ⟨hv, href, hemp, rfl⟩ | ⟨hv, href, hne, lv, ls, made, rfl, row, hmk, hpos, hlen, hlast⟩
    · repeat (first | refine EvO.plain rfl rfl rfl rfl rfl rfl ?_ | refine EvO.plain rfl rfl rfl rfl rfl (by assumption) ?_ | refine EvC.seq ?_ | refine EvC.region rfl ?_ | refine EvO.nil ?_ | refine at_normal ?_)
      (refine EvO.cons rfl rfl rfl (EvP.callF rfl rfl rfl rfl (EvF.mono (rcheck_spec hw3 (C.mono hle3) (D.mono hle3) nc (by omega) hPl) ?_)))
      rintro _ h4 _ ⟨⟨hl4, hw4⟩, is, e, rfl, x1, x2⟩
      have hOB := x1 hv
      obtain ⟨rfl, rfl⟩ := hOB
      clear f3
      repeat (first | refine EvO.plain rfl rfl rfl rfl rfl rfl ?_ | refine EvC.seq ?_ | refine EvC.region rfl ?_ | refine EvO.nil ?_ | refine at_normal ?_)
      refine EvO.cons rfl rfl rfl (EvP.quiet rfl (isB (q := true) rfl) ?_)
      repeat (first | refine EvO.plain rfl rfl rfl rfl rfl rfl ?_ | refine EvO.nil ?_ | refine at_normal ?_ | refine EvO.off rfl rfl rfl ?_)
      refine EvC.cond (t := true) rfl (fun _ => ?_) (fun e => nomatch e)
      repeat (first | refine EvO.plain rfl rfl rfl rfl rfl rfl ?_ | refine EvC.seq ?_ | refine EvC.region rfl ?_ | refine EvO.nil ?_ | refine at_normal ?_)
      refine EvC.cond (t := false) rfl (fun e => nomatch e) (fun _ => ?_)
      repeat (first | refine EvO.plain rfl rfl rfl rfl rfl rfl ?_ | refine EvC.seq ?_ | refine EvC.region rfl ?_ | refine at_normal ?_ | refine EvC.skip ?_)
      refine EvO.cons rfl rfl rfl (EvP.quiet rfl (isB (q := true) rfl) ?_)
      repeat (first | refine EvO.plain rfl rfl rfl rfl rfl rfl ?_ | refine EvO.plainOn rfl rfl rfl rfl rfl rfl ?_)
      refine EvO.on rfl rfl rfl (EvP.quiet rfl (isB (q := true) rfl) ?_)
      repeat (refine EvO.plain rfl rfl rfl rfl rfl rfl ?_)
      refine EvO.on rfl rfl rfl (EvP.callF rfl rfl rfl rfl (EvF.mono (wake) ?_))
      rintro _ h5 _ ⟨rfl, rfl⟩
      repeat (first | refine EvO.plain rfl rfl rfl rfl rfl rfl ?_ | refine EvO.nil ?_ | refine at_normal ?_ | refine EvC.ret ?_ | refine at_ret ?_)
      (refine ret_is (v := .bool true) rfl rfl ?_)
      rfl
    · repeat (first | refine EvO.plain rfl rfl rfl rfl rfl rfl ?_ | refine EvO.plain rfl rfl rfl rfl rfl (by assumption) ?_ | refine EvC.seq ?_ | refine EvC.region rfl ?_ | refine EvO.nil ?_ | refine at_normal ?_)
      (refine EvO.cons rfl rfl rfl (EvP.callF rfl rfl rfl rfl (EvF.mono (rcheck_spec hw3 (C.mono hle3) (D.mono hle3) nc (by omega) hPl) ?_)))
      rintro _ h4 _ ⟨⟨hl4, hw4⟩, is, e, rfl, x1, x2⟩
      have hOB := x2 hv
      obtain ⟨rfl, x3⟩ := hOB
      obtain rfl : is = false := by cases is with
        | false => rfl
        | true => exact absurd (x3.1 rfl) hnr
      clear f3
      repeat (first | refine EvO.plain rfl rfl rfl rfl rfl rfl ?_ | refine EvC.seq ?_ | refine EvC.region rfl ?_ | refine EvO.nil ?_ | refine at_normal ?_)
      refine EvO.cons rfl rfl rfl (EvP.quiet rfl (isB (q := false) rfl) ?_)
      repeat (first | refine EvO.plain rfl rfl rfl rfl rfl rfl ?_ | refine EvO.nil ?_ | refine at_normal ?_ | refine EvO.plainOn rfl rfl rfl rfl rfl rfl ?_)
      refine EvC.cond (t := true) rfl (fun _ => ?_) (fun e => nomatch e)
      repeat (first | refine EvO.plain rfl rfl rfl rfl rfl rfl ?_ | refine EvC.seq ?_ | refine EvC.region rfl ?_ | refine EvO.nil ?_ | refine at_normal ?_)
      refine EvC.cond (t := true) rfl (fun _ => ?_) (fun e => nomatch e)
      repeat (first | refine EvO.plain rfl rfl rfl rfl rfl rfl ?_ | refine EvC.seq ?_ | refine EvC.region rfl ?_ | refine EvO.nil ?_ | refine at_normal ?_)
      refine EvO.cons rfl rfl rfl (EvP.quiet rfl (isB (q := true) rfl) ?_)
      repeat (first | refine EvO.plain rfl rfl rfl rfl rfl rfl ?_ | refine EvO.plainOn rfl rfl rfl rfl rfl rfl ?_)
      refine EvO.on rfl rfl rfl (EvP.quiet rfl (isB (q := true) rfl) ?_)
      repeat (refine EvO.plain rfl rfl rfl rfl rfl rfl ?_)
      refine EvO.on rfl rfl rfl (EvP.callF rfl rfl rfl rfl (EvF.mono (wake) ?_))
      rintro _ h5 _ ⟨rfl, rfl⟩
      repeat (first | refine EvO.plain rfl rfl rfl rfl rfl rfl ?_ | refine EvO.nil ?_ | refine at_normal ?_ | refine EvC.ret ?_ | refine at_ret ?_)
      (refine ret_is (v := .bool true) rfl rfl ?_)
      rfl
    · repeat (first | refine EvO.plain rfl rfl rfl rfl rfl rfl ?_ | refine EvO.plain rfl rfl rfl rfl rfl (by assumption) ?_ | refine EvC.seq ?_ | refine EvC.region rfl ?_ | refine EvO.nil ?_ | refine at_normal ?_)
      (refine EvO.cons rfl rfl rfl (EvP.callF rfl rfl rfl rfl (EvF.mono (rcheck_spec hw3 (C.mono hle3) (D.mono hle3) nc (by omega) hPl) ?_)))
      rintro _ h4 _ ⟨⟨hl4, hw4⟩, is, e, rfl, x1, x2⟩
      have hOB := x2 hv
      obtain ⟨rfl, x3⟩ := hOB
      have hOB : is = true := x3.2 href
      obtain rfl := hOB
      clear f3
      have hle4 : h.le h4 := AH.le.trans' hle3 hl4
      have f4 := load1 (T := TT gt) (t := 22) (off := 1) (hl4 _ _ b3) rfl rfl rfl
      repeat (first | refine EvO.plain rfl rfl rfl rfl rfl rfl ?_ | refine EvC.seq ?_ | refine EvC.region rfl ?_ | refine EvO.nil ?_ | refine at_normal ?_)
      refine EvO.cons rfl rfl rfl (EvP.quiet rfl (isB (q := false) rfl) ?_)
      repeat (first | refine EvO.plain rfl rfl rfl rfl rfl rfl ?_ | refine EvO.nil ?_ | refine at_normal ?_ | refine EvO.plainOn rfl rfl rfl rfl rfl rfl ?_)
      refine EvC.cond (t := false) rfl (fun e => nomatch e) (fun _ => ?_)
      repeat (first | refine EvO.plain rfl rfl rfl rfl rfl rfl ?_ | refine EvC.seq ?_ | refine EvC.region rfl ?_ | refine EvO.nil ?_ | refine at_normal ?_ | refine EvC.skip ?_)
      refine EvC.cond (t := false) rfl (fun e => nomatch e) (fun _ => ?_)
      repeat (first | refine EvO.plain rfl rfl rfl rfl rfl rfl ?_ | refine EvO.plain rfl rfl rfl rfl rfl (by assumption) ?_ | refine EvC.seq ?_ | refine EvC.region rfl ?_ | refine at_normal ?_ | refine EvC.skip ?_)
      (refine EvO.cons rfl rfl rfl (EvP.callF rfl rfl rfl rfl (EvF.mono (empty_spec (C.mono hle4)) ?_)))
      rintro _ h4 _ ⟨rfl, b0, rfl, hb0⟩
      have hOB : b0 = true := hb0.2 hemp
      obtain rfl := hOB
      repeat (first | refine EvO.plain rfl rfl rfl rfl rfl rfl ?_ | refine EvO.nil ?_ | refine at_normal ?_ | refine EvO.off rfl rfl rfl ?_)
      refine EvC.cond (t := true) rfl (fun _ => ?_) (fun e => nomatch e)
      repeat (first | refine EvO.plain rfl rfl rfl rfl rfl rfl ?_ | refine EvC.seq ?_ | refine EvC.region rfl ?_)
      refine EvO.cons rfl rfl rfl (EvP.quiet rfl (isB (q := true) rfl) ?_)
      repeat (first | refine EvO.plain rfl rfl rfl rfl rfl rfl ?_ | refine EvO.plainOn rfl rfl rfl rfl rfl rfl ?_ | refine EvO.plainOn rfl rfl rfl rfl rfl (by assumption) ?_)
      refine EvO.on rfl rfl rfl (EvP.callF rfl rfl rfl rfl (EvF.mono (empty_spec (C.mono hle4)) ?_))
      rintro _ h4 _ ⟨rfl, b0, rfl, hb0⟩
      have hOB : b0 = true := hb0.2 hemp
      obtain rfl := hOB
      repeat (refine EvO.plain rfl rfl rfl rfl rfl rfl ?_)
      refine EvO.on rfl rfl rfl (EvP.callF rfl rfl rfl rfl (EvF.mono (wake) ?_))
      rintro _ h5 _ ⟨rfl, rfl⟩
      repeat (first | refine EvO.plain rfl rfl rfl rfl rfl rfl ?_ | refine EvO.nil ?_ | refine at_normal ?_ | refine EvC.ret ?_ | refine at_ret ?_)
      (refine ret_is (v := .bool true) rfl rfl ?_)
      rfl
    · repeat (first | refine EvO.plain rfl rfl rfl rfl rfl rfl ?_ | refine EvO.plain rfl rfl rfl rfl rfl (by assumption) ?_ | refine EvC.seq ?_ | refine EvC.region rfl ?_ | refine EvO.nil ?_ | refine at_normal ?_)
      (refine EvO.cons rfl rfl rfl (EvP.callF rfl rfl rfl rfl (EvF.mono (rcheck_spec hw3 (C.mono hle3) (D.mono hle3) nc (by omega) hPl) ?_)))
      rintro _ h4 _ ⟨⟨hl4, hw4⟩, is, e, rfl, x1, x2⟩
      have hOB := x2 hv
      obtain ⟨rfl, x3⟩ := hOB
      have hOB : is = true := x3.2 href
      obtain rfl := hOB
      clear f3
      have hle4 : h.le h4 := AH.le.trans' hle3 hl4
      have b4 := hl4 _ _ b3
      have f4 := load1 (T := TT gt) (t := 22) (off := 1) b4 rfl rfl rfl
      have ll := RowOf.len_any (T := TT gt) (t := 40) row rfl h4
      repeat (first | refine EvO.plain rfl rfl rfl rfl rfl rfl ?_ | refine EvC.seq ?_ | refine EvC.region rfl ?_ | refine EvO.nil ?_ | refine at_normal ?_)
      refine EvO.cons rfl rfl rfl (EvP.quiet rfl (isB (q := false) rfl) ?_)
      repeat (first | refine EvO.plain rfl rfl rfl rfl rfl rfl ?_ | refine EvO.nil ?_ | refine at_normal ?_ | refine EvO.plainOn rfl rfl rfl rfl rfl rfl ?_)
      refine EvC.cond (t := false) rfl (fun e => nomatch e) (fun _ => ?_)
      repeat (first | refine EvO.plain rfl rfl rfl rfl rfl rfl ?_ | refine EvC.seq ?_ | refine EvC.region rfl ?_ | refine EvO.nil ?_ | refine at_normal ?_ | refine EvC.skip ?_)
      refine EvC.cond (t := false) rfl (fun e => nomatch e) (fun _ => ?_)
      repeat (first | refine EvO.plain rfl rfl rfl rfl rfl rfl ?_ | refine EvO.plain rfl rfl rfl rfl rfl (by assumption) ?_ | refine EvC.seq ?_ | refine EvC.region rfl ?_ | refine at_normal ?_ | refine EvC.skip ?_)
      (refine EvO.cons rfl rfl rfl (EvP.callF rfl rfl rfl rfl (EvF.mono (empty_spec (C.mono hle4)) ?_)))
      rintro _ h4 _ ⟨rfl, b0, rfl, hb0⟩
      obtain rfl : b0 = false := by cases b0 with
        | false => rfl
        | true => obtain ⟨i, hi, e⟩ := hb0.1 rfl; exact absurd e (hne i hi)
      repeat (first | refine EvO.plain rfl rfl rfl rfl rfl rfl ?_ | refine EvO.plainOn rfl rfl rfl rfl rfl rfl ?_ | refine EvO.plainOn rfl rfl rfl rfl rfl (by assumption) ?_)
      refine EvO.on rfl rfl rfl (EvP.quiet rfl (isB (q := false) (beq_false (by omega))) ?_)
      repeat (first | refine EvO.plain rfl rfl rfl rfl rfl rfl ?_ | refine EvO.nil ?_ | refine at_normal ?_)
      refine EvC.cond (t := false) rfl (fun e => nomatch e) (fun _ => ?_)
      repeat (first | refine EvO.plain rfl rfl rfl rfl rfl rfl ?_ | refine EvO.plain rfl rfl rfl rfl rfl (by assumption) ?_ | refine EvC.seq ?_ | refine EvC.region rfl ?_ | refine EvO.nil ?_ | refine at_normal ?_ | refine EvC.skip ?_)
      refine EvC.cond (t := false) (isT (decide_eq_false (by omega))) (fun e => nomatch e) (fun _ => ?_)
      have f5 := loadAgg (T := TT gt) (t := 24) (off := 0) (n := 2) (r := [.int .i64 n, cl]) b4 rfl rfl
      clear f4 ll
      have hbd : ∀ x ∈ ls, x.2.2 ≤ 9223372036854775807 := run_bound hmk.1 (fun c hc y hy => by
        have := lits_ok hv.1.2.2.2.2 c hc y hy
        have := hv.1.2.1
        unfold ok at *
        omega)
      repeat (first | refine EvO.plain rfl rfl rfl rfl rfl rfl ?_ | refine EvO.plain rfl rfl rfl rfl rfl (by assumption) ?_ | refine EvC.seq ?_ | refine EvC.region rfl ?_ | refine at_normal ?_ | refine EvC.skip ?_)
      (refine EvO.cons rfl rfl rfl (EvP.callF rfl rfl rfl rfl (EvF.mono (rFollow_spec hw4 (C.mono hle4) nc (RowOf.mono hl4 row) hbd) ?_)))
      rintro r h5 _ ⟨⟨hl5, hw5⟩, hf⟩
      rcases hf with ⟨hno, _⟩ | ⟨_, _, hno, _⟩ | ⟨_, _, t, v, cv', hrun, htl, _, rfl, D5⟩
      · exact absurd ⟨hv.1, by omega⟩ hno
      · rw [hmk.1] at hno; cases hno
      · rw [hmk.1] at hrun
        have hOB : t = made := (List.append_cancel_left (Option.some.inj hrun)).symm
        obtain rfl := hOB
        have lm := D5.rows.len_any (T := TT gt) (t := 22) rfl h5
        have hOB := D5.rows.at1 (T := TT gt) (t := 22) (e := 35) rfl rfl rfl rfl (k := .i64) (i := (t.length : Int) - 1) (by omega) (by omega)
        obtain ⟨q, c1, c2⟩ := hOB
        rw [show ((t.length : Int) - 1).toNat = t.length - 1 by omega] at c2
        have lr := RowOf.len_any (T := TT gt) (t := 35) (D5.ints (t.length - 1) (by omega)) rfl h5
        have hl2 : t.getD (t.length - 1) [] = [] := by rw [htl]; exact hlast
        rw [hl2] at lr
        clear f5
        repeat (first | refine EvO.plain rfl rfl rfl rfl rfl rfl ?_ | refine EvC.seq ?_ | refine EvC.region rfl ?_ | refine EvO.nil ?_ | refine at_normal ?_)
        refine EvO.cons rfl rfl rfl (EvP.quiet rfl (isB (q := true) rfl) ?_)
        repeat (first | refine EvO.plain rfl rfl rfl rfl rfl rfl ?_ | refine EvO.plainOn rfl rfl rfl rfl rfl rfl ?_ | refine EvO.plainOn rfl rfl rfl rfl rfl (by assumption) ?_)
        refine EvO.on rfl rfl rfl (EvP.quiet rfl (isB (q := true) (decide_eq_true (by omega))) ?_)
        repeat (first | refine EvO.plain rfl rfl rfl rfl rfl rfl ?_ | refine EvO.plainOn rfl rfl rfl rfl rfl rfl ?_ | refine EvO.plainOn rfl rfl rfl rfl rfl (by assumption) ?_ | refine EvO.on rfl rfl rfl (EvP.sub64 rfl rfl (by omega) ?_))
        refine EvO.on rfl rfl rfl (EvP.quiet rfl (isB (q := true) rfl) ?_)
        repeat (refine EvO.plain rfl rfl rfl rfl rfl rfl ?_)
        refine EvO.on rfl rfl rfl (EvP.callF rfl rfl rfl rfl (EvF.mono (wake) ?_))
        rintro _ h6 _ ⟨rfl, rfl⟩
        repeat (first | refine EvO.plain rfl rfl rfl rfl rfl rfl ?_ | refine EvO.nil ?_ | refine at_normal ?_ | refine EvC.ret ?_)
        (refine ret_is (v := .bool true) rfl rfl ?_)
        rfl
end Pf
end Go.Proofs.YtfjloafebkjadaaGreatDoor
