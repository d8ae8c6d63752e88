/- Resolve and Follow answer as the reference does: the law's run. -/
import Derived.Test.YtfjloafebkjadaaGreatDoorPgO
import Derived.Test.YtfjloafebkjadaaGreatDoorPgD
import Derived.Test.YtfjloafebkjadaaGreatDoorPfL
namespace Go.Proofs.YtfjloafebkjadaaGreatDoor
namespace Pf
open Go Go.AI Go.Proofs
variable {gt : Tree (List AV)}
open Classical in
/-- What Resolve answers. -/
noncomputable def resO (A B : List Int) (v : Int) : List Int × Int := if fineR A B v then (if v ∈ A ∧ -v ∈ B then (resL A B v, 0) else ([], 4)) else ([], 2)
theorem resO_of {A B : List Int} {v : Int} {r : AV} {h : AH} (hr : ResSays A B v r h) : ∃ w, r = .tuple [w, .int .i64 (resO A B v).2] ∧ IntRow h w (resO A B v).1 := by
  rcases hr with ⟨h1, rfl⟩ | ⟨h1, h2, w, rfl, h3, _⟩ | ⟨h1, h2, rfl⟩
  · refine ⟨.nilSlice, ?_, ?_⟩ <;> rw [resO, if_neg h1]
    exact .nil
  · refine ⟨w, ?_, ?_⟩ <;> rw [resO, if_pos h1, if_pos h2]
    exact h3
  · refine ⟨.nilSlice, ?_, ?_⟩ <;> rw [resO, if_pos h1, if_neg h2]
    exact .nil
theorem resO_len (A B : List Int) (v : Int) : (resO A B v).1.length ≤ A.length + B.length := by
  unfold resO
  split
  · split
    · have h1 := ordL_length (but A v ++ but B (-v))
      have h2 := but_len A v
      have h3 := but_len B (-v)
      rw [List.length_append] at h1
      show (ordL _).length ≤ _
      omega
    · simp
  · simp
open Classical in
/-- What Follow answers. -/
noncomputable def folO (n : Int) (L : List (List Int)) (ls : List (Int × Int × Int)) : List (List Int) × Int := if valid n L ∧ ls.length ≤ 200000 then (match run L ls with | none => ([], 43) | some s => (s.drop L.length, 0)) else ([], 2)
theorem folO_of {n : Int} {L : List (List Int)} {ls : List (Int × Int × Int)} {r : AV} {h : AH} (hr : FollowSays n L ls r h) : ∃ w cv, r = .tuple [w, .int .i64 (folO n L ls).2] ∧ CnfAt h n w (folO n L ls).1 cv := by
  have N0 : ∀ h', CnfAt h' n .nilSlice [] (fun _ => .nilSlice) := fun h' => ⟨.nil, fun i hi => absurd hi (Nat.not_lt_zero _), fun l hl => (nomatch hl), Nat.zero_le _⟩
  rcases hr with ⟨h1, rfl⟩ | ⟨h1, h2, h3, rfl⟩ | ⟨h1, h2, t, v, cv, h3, h4, h5, rfl, h6⟩
  · refine ⟨.nilSlice, fun _ => .nilSlice, ?_, ?_⟩ <;> rw [folO, if_neg h1]
    exact N0 h
  · refine ⟨.nilSlice, fun _ => .nilSlice, ?_, ?_⟩ <;> rw [folO, if_pos ⟨h1, h2⟩, h3]
    exact N0 h
  · refine ⟨v, cv, ?_, ?_⟩ <;> rw [folO, if_pos ⟨h1, h2⟩, h3]
    simp only [List.drop_left]
    exact h6
theorem build2c {a b : AV} (ha : a.cells = [a] ∧ scalar a = true) (hb : b.cells = [b] ∧ scalar b = true) : abuildSlice (TT gt) 22 2 [(0, a), (1, b)] = some (.cells [a, b] 35 false, .slice 2 2 true) := by
  show (if 2 * ti35.size ≤ 2 ^ 24 ∧ ti35.zero.length = ti35.size then (match afill (fun i => some (i * ti35.size, ti35.size)) (rep 2 ti35.zero) [(0, a), (1, b)] with
    | some cs => some (AObj.cells cs 35 false, Mk.slice 2 2 true)
    | none => none) else none) = _
  have h1 : ti35.size = 1 := rfl
  have h2 : ti35.zero = [.nilSlice] := rfl
  simp [h1, h2, rep, afill, ha.1, hb.1, scalar_known ha.2, scalar_known hb.2, lsetMany, lset]
/-- The variable that is resolved on: the first line's. -/
def firstV (ls : List (Int × Int × Int)) : Int := if 0 < ls.length then (ls.getD 0 ln0).2.2 else 1
set_option maxHeartbeats 40000000 in
theorem resolves_law {h : AH} (hw : WF h) {n : Int} {cl lv a c : AV} {L : List (List Int)} {ls : List (Int × Int × Int)} {A B : List Int} {cv : Nat → AV} (C : CnfAt h n cl L cv) (nc : NZ cl) (row : LinesAt h lv ls) (hv : ∀ x ∈ ls, -9223372036854775808 ≤ x.2.2 ∧ x.2.2 ≤ 9223372036854775807) (ra : IntRow h a A) (rb : IntRow h c B) (ha : A.length ≤ 2 ^ 40) (hb' : B.length ≤ 2 ^ 40) (hb : total L ≤ 2 ^ 50) (hm : L.length ≤ 2 ^ 28) :
    EvF (TT gt) X 5 [.agg [.int .i64 n, cl], lv, .agg [a, c]] h (fun r _ => r = .bool true) := by
  have wake : ∀ {h' : AH}, EvF (TT gt) X 16 [] h' (fun r h'' => h'' = h' ∧ r = .bool true) := awake_spec
  have hfv : -9223372036854775808 ≤ firstV ls ∧ firstV ls ≤ 9223372036854775807 := by
    unfold firstV
    split
    · rename_i h0
      exact hv _ (by rw [List.getD_eq_getElem?_getD, List.getElem?_eq_getElem h0]; exact List.getElem_mem h0)
    · omega
  refine EvF.enter rfl rfl rfl ?_
  repeat (first | refine EvC.seq ?_ | refine EvC.region rfl ?_)
  (refine EvO.cons rfl rfl rfl (EvP.new (b := .cells [.int .i64 n, cl] 24 false) (mk := .ptr) rfl rfl hw (fun h1 b hg1 hb1 hfr => ?_)))
  skip
  (refine EvO.cons rfl rfl rfl (EvP.new (b := .cells [a, c] 41 false) (mk := .ptr) rfl rfl hg1.wf (fun h2 id hg2 o2 hfr2 => ?_)))
  have hgg := hg1.trans hg2
  have f1 := loadAgg (T := TT gt) (t := 24) (off := 0) (n := 2) (r := [.int .i64 n, cl]) (hg2.le _ _ hb1) rfl rfl
  have fa := load1 (T := TT gt) (t := 35) (off := 0) o2 rfl rfl rfl
  have fb := load1 (T := TT gt) (t := 35) (off := 1) o2 rfl rfl rfl
  repeat (first | refine EvO.plain rfl rfl rfl rfl rfl rfl ?_ | refine EvO.plain rfl rfl rfl rfl rfl (by assumption) ?_ | refine EvC.seq ?_ | refine EvC.region rfl ?_ | refine EvO.nil ?_ | refine at_normal ?_)
  (refine EvO.cons rfl rfl rfl (EvP.new (b := .cells [a, c] 35 false) (mk := .slice 2 2 true) rfl (show abuildSlice (TT gt) 22 2 [(0, a), (1, c)] = _ from build2c (RowOf.sc ra) (RowOf.sc rb)) hgg.wf (fun h3 id3 hg3 o3 _ => ?_)))
  have hg' := hgg.trans hg3
  have D3 := two_cnf o3 (RowOf.mono hg'.le ra) (RowOf.mono hg'.le rb) (by omega) (by omega) n
  clear f1 fa fb
  skip
  (refine EvO.cons rfl rfl rfl (EvP.callF rfl rfl rfl rfl (EvF.mono (few27_spec hg'.wf (C.mono hg'.le) D3 nc trivial (by show total L + (A.length + (B.length + 0)) ≤ 2 ^ 60; omega) (by show L.length + 2 ≤ 2 ^ 29; omega)) ?_)))
  rintro _ h4 hn4 ⟨⟨hl4, hw4⟩, few, rfl, hfew⟩
  have hg : Grew h h4 := hg'.trans ⟨hl4, hw4, hn4⟩
  have ll := RowOf.len_any (T := TT gt) (t := 40) row rfl h4
  cases few with
  | false =>
    repeat (first | refine EvO.plain rfl rfl rfl rfl rfl rfl ?_ | refine EvO.nil ?_ | refine at_normal ?_ | refine EvO.off rfl rfl rfl ?_)
    refine EvC.cond (t := true) rfl (fun _ => ?_) (fun e => nomatch e)
    repeat (first | refine EvC.seq ?_ | refine EvC.region rfl ?_)
    (refine EvO.cons rfl rfl rfl (EvP.callF rfl rfl rfl rfl (EvF.mono (wake) ?_)))
    rintro _ h5 _ ⟨rfl, rfl⟩
    repeat (first | refine EvO.plain rfl rfl rfl rfl rfl rfl ?_ | refine EvO.nil ?_ | refine at_normal ?_ | refine EvC.ret ?_ | refine at_ret ?_)
    (refine ret_is (v := .bool true) rfl rfl ?_)
    rfl
  | true =>
    repeat (first | refine EvO.plain rfl rfl rfl rfl rfl rfl ?_ | refine EvO.plainOn rfl rfl rfl rfl rfl rfl ?_ | refine EvO.plainOn rfl rfl rfl rfl rfl (by assumption) ?_)
    (refine EvO.on rfl rfl rfl (EvP.bool rfl rfl (fun q1 => ?_) (fun q1 => ?_)))
    · repeat (first | refine EvO.plain rfl rfl rfl rfl rfl rfl ?_ | refine EvO.nil ?_ | refine at_normal ?_)
      refine EvC.cond (t := true) rfl (fun _ => ?_) (fun e => nomatch e)
      repeat (first | refine EvC.seq ?_ | refine EvC.region rfl ?_)
      (refine EvO.cons rfl rfl rfl (EvP.callF rfl rfl rfl rfl (EvF.mono (wake) ?_)))
      rintro _ h5 _ ⟨rfl, rfl⟩
      repeat (first | refine EvO.plain rfl rfl rfl rfl rfl rfl ?_ | refine EvO.nil ?_ | refine at_normal ?_ | refine EvC.ret ?_ | refine at_ret ?_)
      (refine ret_is (v := .bool true) rfl rfl ?_)
      rfl
    · have q1 := of_decide_eq_false q1
      repeat (first | refine EvO.plain rfl rfl rfl rfl rfl rfl ?_ | refine EvO.nil ?_ | refine at_normal ?_)
      refine EvC.cond (t := false) rfl (fun e => nomatch e) (fun _ => ?_)
      repeat (first | refine EvO.plain rfl rfl rfl rfl rfl rfl ?_ | refine EvO.plain rfl rfl rfl rfl rfl (by assumption) ?_ | refine EvC.seq ?_ | refine EvC.region rfl ?_ | refine EvO.nil ?_ | refine at_normal ?_ | refine EvC.skip ?_)
      refine EvC.join (fun σ h' => h' = h4 ∧ ∃ E, σ = upds [(1, lv), (3, .ptr b 0), (5, .ptr id 0), (7, .int .i64 (firstV ls))] E) ?_ ?_
      · refine EvC.decide rfl (fun hc => ?_) (fun hc => ?_)
        · have h0 : 0 < ls.length := by omega
          obtain ⟨id', off', cs, g1, g2, g3⟩ := RowOf.addr (RowOf.mono hg.le row) (T := TT gt) (t := 40) (e := 43) rfl rfl rfl (k := .i64) (i := 0) (by omega) (by omega)
          have g4 : aload (TT gt) h4 3 (.ptr id' (off' + 2)) = some (.int .i64 (firstV ls)) := by
            obtain ⟨s1, s2, s3⟩ := sub_some g3
            have e1 : cs[off' + 2]? = some (.int .i64 (ls.getD 0 ln0).2.2) := by
              have : ((cs.drop off').take 3)[2]? = some (.int .i64 (ls.getD 0 ln0).2.2) := by rw [← s2]; rfl
              rw [List.getElem?_take_of_lt (by omega), List.getElem?_drop] at this
              exact this
            have e2 : firstV ls = (ls.getD 0 ln0).2.2 := if_pos h0
            show (match cellsOf h4 id' with | some cs => apart (TT gt) 3 cs (off' + 2) | none => none) = _
            rw [g2, e2]
            show lget cs (off' + 2) = _
            rw [lget_eq, e1]
          repeat (first | refine EvO.plain rfl rfl rfl rfl rfl rfl ?_ | refine EvO.plain rfl rfl rfl rfl rfl (by assumption) ?_ | refine EvC.region rfl ?_ | refine EvO.nil ?_ | refine jo_normal ?_)
          exact ⟨rfl, _, hold ⟨rfl, rfl, rfl, rfl, trivial⟩⟩
        · have e2 : firstV ls = 1 := if_neg (by omega)
          repeat (first | refine EvC.skip ?_ | refine jo_normal ?_)
          exact ⟨rfl, _, hold ⟨rfl, rfl, rfl, congrArg (AV.int .i64) e2.symm, trivial⟩⟩
      · rintro σ h4 ⟨rfl, E, rfl⟩
        have o4 := hl4 _ _ (hg3.le _ _ o2)
        have b4 := hl4 _ _ (hg3.le _ _ (hg2.le _ _ hb1))
        have fa := load1 (T := TT gt) (t := 35) (off := 0) o4 rfl rfl rfl
        have fb := load1 (T := TT gt) (t := 35) (off := 1) o4 rfl rfl rfl
        clear ll
        repeat (first | refine EvO.plain rfl rfl rfl rfl rfl rfl ?_ | refine EvO.plain rfl rfl rfl rfl rfl (by assumption) ?_ | refine EvC.seq ?_ | refine EvC.region rfl ?_ | refine at_normal ?_)
        (refine EvO.cons rfl rfl rfl (EvP.callF rfl rfl rfl rfl (EvF.mono (Resolve_spec hw4 (RowOf.mono hg.le ra) (RowOf.mono hg.le rb) (by omega) (by omega) (firstV ls) hfv) ?_)))
        rintro r h5 hn5 ⟨⟨hl5, hw5⟩, hr⟩
        obtain ⟨w1, rfl, i1⟩ := resO_of hr
        clear fa fb
        have o5 := hl5 _ _ o4
        have b5 := hl5 _ _ b4
        have fa := load1 (T := TT gt) (t := 35) (off := 0) o5 rfl rfl rfl
        have fb := load1 (T := TT gt) (t := 35) (off := 1) o5 rfl rfl rfl
        have hle5 : h.le h5 := AH.le.trans' hg.le hl5
        have hlen := resO_len A B (firstV ls)
        repeat (first | refine EvO.plain rfl rfl rfl rfl rfl rfl ?_ | refine EvO.plain rfl rfl rfl rfl rfl (by assumption) ?_ | refine EvC.seq ?_ | refine EvC.region rfl ?_ | refine EvO.nil ?_ | refine at_normal ?_)
        (refine EvO.cons rfl rfl rfl (EvP.callF rfl rfl rfl rfl (EvF.mono (rResolve_spec hw5 (RowOf.mono hle5 ra) (RowOf.mono hle5 rb) (by omega) (by omega) (firstV ls) hfv) ?_)))
        rintro r h6 hn6 ⟨⟨hl6, hw6⟩, hr2⟩
        obtain ⟨w2, rfl, i2⟩ := resO_of hr2
        clear fa fb
        have b6 := hl6 _ _ b5
        have hle6 : h.le h6 := AH.le.trans' hle5 hl6
        have f6 := loadAgg (T := TT gt) (t := 24) (off := 0) (n := 2) (r := [.int .i64 n, cl]) b6 rfl rfl
        generalize resO A B (firstV ls) = R at *
        obtain ⟨R1, R2⟩ := R
        simp only at *
        repeat (first | refine EvO.plain rfl rfl rfl rfl rfl rfl ?_ | refine EvO.plain rfl rfl rfl rfl rfl (by assumption) ?_ | refine EvC.seq ?_ | refine EvC.region rfl ?_ | refine EvO.nil ?_ | refine at_normal ?_)
        (refine EvO.cons rfl rfl rfl (EvP.callF rfl rfl rfl rfl (EvF.mono (Follow_spec hw6 (C.mono hle6) nc (RowOf.mono hle6 row) (fun x hx => (hv x hx).2)) ?_)))
        rintro r h7 hn7 ⟨⟨hl7, hw7⟩, hr3, _⟩
        obtain ⟨w3, cv3, rfl, D3⟩ := folO_of hr3
        clear f6
        have b7 := hl7 _ _ b6
        have hle7 : h.le h7 := AH.le.trans' hle6 hl7
        have f7 := loadAgg (T := TT gt) (t := 24) (off := 0) (n := 2) (r := [.int .i64 n, cl]) b7 rfl rfl
        repeat (first | refine EvO.plain rfl rfl rfl rfl rfl rfl ?_ | refine EvO.plain rfl rfl rfl rfl rfl (by assumption) ?_ | refine EvC.seq ?_ | refine EvC.region rfl ?_ | refine EvO.nil ?_ | refine at_normal ?_)
        (refine EvO.cons rfl rfl rfl (EvP.callF rfl rfl rfl rfl (EvF.mono (rFollow_spec hw7 (C.mono hle7) nc (RowOf.mono hle7 row) (fun x hx => (hv x hx).2)) ?_)))
        rintro r h8 hn8 ⟨⟨hl8, hw8⟩, hr4⟩
        obtain ⟨w4, cv4, rfl, D4⟩ := folO_of hr4
        clear f7
        generalize folO n L ls = F at *
        obtain ⟨F1, F2⟩ := F
        simp only at *
        repeat (first | refine EvO.plain rfl rfl rfl rfl rfl rfl ?_ | refine EvC.seq ?_ | refine EvC.region rfl ?_ | refine EvO.nil ?_ | refine at_normal ?_)
        (refine EvO.cons rfl rfl rfl (EvP.callF rfl rfl rfl rfl (EvF.mono (sameInts_spec (RowOf.mono (AH.le.trans' hl6 (AH.le.trans' hl7 hl8)) i1) (RowOf.mono (AH.le.trans' hl7 hl8) i2) (by omega)) ?_)))
        rintro _ h8 _ ⟨rfl, rfl⟩
        repeat (first | refine EvO.plain rfl rfl rfl rfl rfl rfl ?_ | refine EvO.plainOn rfl rfl rfl rfl rfl rfl ?_)
        refine EvO.on rfl rfl rfl (EvP.quiet rfl (isB (q := true) (beq_self_eq_true _)) ?_)
        repeat (first | refine EvO.plain rfl rfl rfl rfl rfl rfl ?_ | refine EvO.plainOn rfl rfl rfl rfl rfl rfl ?_)
        refine EvO.on rfl rfl rfl (EvP.callF rfl rfl rfl rfl (EvF.mono (sameClauses_spec (D3.mono hl8) D4) ?_))
        rintro _ h8 _ ⟨rfl, rfl⟩
        repeat (first | refine EvO.plain rfl rfl rfl rfl rfl rfl ?_ | refine EvO.plainOn rfl rfl rfl rfl rfl rfl ?_)
        refine EvO.on rfl rfl rfl (EvP.quiet rfl (isB (q := true) (beq_self_eq_true _)) ?_)
        repeat (refine EvO.plain rfl rfl rfl rfl rfl rfl ?_)
        refine EvO.on rfl rfl rfl (EvP.callF rfl rfl rfl rfl (EvF.mono (wake) ?_))
        rintro _ h9 _ ⟨rfl, rfl⟩
        repeat (first | refine EvO.plain rfl rfl rfl rfl rfl rfl ?_ | refine EvO.nil ?_ | refine at_normal ?_ | refine EvC.ret ?_)
        (refine ret_is (v := .bool true) rfl rfl ?_)
        rfl
end Pf
end Go.Proofs.YtfjloafebkjadaaGreatDoor
