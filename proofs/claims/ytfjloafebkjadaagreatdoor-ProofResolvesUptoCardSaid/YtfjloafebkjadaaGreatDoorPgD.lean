/- A model of two clauses is one of their resolvent. -/
import Derived.Test.YtfjloafebkjadaaGreatDoorPgC
namespace Go.Proofs.YtfjloafebkjadaaGreatDoor
namespace Pf
open Go Go.AI Go.Proofs
variable {gt : Tree (List AV)}
theorem mem_but {l : List Int} {v x : Int} : x ∈ but l v ↔ x ∈ l ∧ x ≠ v := by
  unfold but
  rw [List.mem_filter, bne_iff_ne]
theorem mem_resL {A B : List Int} {v x : Int} : x ∈ resL A B v ↔ (x ∈ A ∧ x ≠ v) ∨ (x ∈ B ∧ x ≠ -v) := by
  unfold resL
  rw [mem_ordL, List.mem_append, mem_but, mem_but]
/-- A model of two clauses is one of their resolvent. -/
theorem res_sound {m : List Bool} {A B : List Int} {v : Int} (hv : ok m.length v) (hA : A.any (holdsB m) = true) (hB : B.any (holdsB m) = true) : (resL A B v).any (holdsB m) = true := by
  obtain ⟨y, hy, h1⟩ := List.any_eq_true.1 hA
  obtain ⟨z, hz, h2⟩ := List.any_eq_true.1 hB
  refine List.any_eq_true.2 ?_
  by_cases e1 : y = v
  · by_cases e2 : z = -v
    · rw [e1] at h1
      rw [e2, holdsB_neg hv, h1] at h2
      cases h2
    · exact ⟨z, mem_resL.2 (.inr ⟨hz, e2⟩), h2⟩
  · exact ⟨y, mem_resL.2 (.inl ⟨hy, e1⟩), h1⟩
theorem pad_cells (M : List Bool) (N : Nat) : (List.range (Nat.min M.length N)).map (fun i => AV.bool (M.getD i false)) ++ (List.replicate N (AV.bool false)).drop (Nat.min M.length N) = (M.take N ++ List.replicate (N - M.length) false).map AV.bool := by
  apply List.ext_getElem?
  intro i
  have hmin : Nat.min M.length N = min M.length N := rfl
  rw [hmin]
  rcases Nat.lt_or_ge i (min M.length N) with h1 | h1
  · rw [List.getElem?_append_left (by simpa using h1), List.getElem?_map, List.getElem?_range h1, List.getElem?_map, List.getElem?_append_left (by simp; omega), List.getElem?_take, if_pos (by omega)]
    show some (AV.bool (M.getD i false)) = Option.map AV.bool M[i]?
    rw [List.getD_eq_getElem?_getD, List.getElem?_eq_getElem (by omega)]
    rfl
  · rw [List.getElem?_append_right (by simpa using h1), List.getElem?_drop, List.getElem?_map, List.getElem?_append_right (by simp; omega)]
    simp only [List.length_map, List.length_range, List.length_take, List.getElem?_replicate]
    by_cases h2 : i < N
    · rw [if_pos (by omega), if_pos (by omega)]; rfl
    · rw [if_neg (by omega), if_neg (by omega)]; rfl
theorem row_bools {col : Nat → Nat} {c : Nat} {h : AH} {v : AV} {m : List Bool} (V : Vec col c h 4 1 v m.length (m.map AV.bool)) : BoolRow h v m := by
  refine V.row.congr fun i hi => ?_
  rw [Nat.mul_one, List.take_one, List.head?_drop, List.getElem?_map, List.getElem?_eq_getElem hi, List.getD_eq_getElem?_getD, List.getElem?_eq_getElem hi]
  rfl
theorem two_cnf {h : AH} {id : Nat} {a b : AV} {e : TypeId} {ro : Bool} {A B : List Int} (o : h.t.get id = some (.cells [a, b] e ro)) (ra : IntRow h a A) (rb : IntRow h b B) (ha : A.length ≤ 2 ^ 48) (hb : B.length ≤ 2 ^ 48) (n : Int) : CnfAt h n (.slice id 0 2 2 true) [A, B] (fun i => if i = 0 then a else b) where
  rows := .mk (cs := [a, b]) (by unfold cellsOf; rw [o]) fun i hi => by
    match i, hi with
    | 0, _ => rfl
    | 1, _ => rfl
  ints := fun i hi => by
    match i, hi with
    | 0, _ => exact ra
    | 1, _ => exact rb
  lens := fun l hl => by
    rcases List.mem_cons.1 hl with rfl | hl
    · exact ha
    · rw [List.mem_singleton.1 hl]; exact hb
  many := by show 2 ≤ 2 ^ 48; decide
theorem one_cnf {h : AH} {id : Nat} {a : AV} {e : TypeId} {ro : Bool} {A : List Int} (o : h.t.get id = some (.cells [a] e ro)) (ra : IntRow h a A) (ha : A.length ≤ 2 ^ 48) (n : Int) : CnfAt h n (.slice id 0 1 1 true) [A] (fun _ => a) where
  rows := .mk (cs := [a]) (by unfold cellsOf; rw [o]) fun i hi => by
    match i, hi with
    | 0, _ => rfl
  ints := fun i hi => by
    match i, hi with
    | 0, _ => exact ra
  lens := fun l hl => by rw [List.mem_singleton.1 hl]; exact ha
  many := by show 1 ≤ 2 ^ 48; decide
set_option maxHeartbeats 40000000 in
theorem models_law {h : AH} (hw : WF h) {a b mv : AV} {A B : List Int} {M : List Bool} (ra : IntRow h a A) (rb : IntRow h b B) (hM : BoolRow h mv M) (nm : NZ mv) (ha : A.length ≤ 2 ^ 50) (hb : B.length ≤ 2 ^ 50) (v : Int) (hv : -9223372036854775808 ≤ v ∧ v ≤ 9223372036854775807) :
    EvF (TT gt) X 6 [.agg [a, b], .int .i64 v, mv] h (fun r _ => r = .bool true) := by
  have wake : ∀ {h' : AH}, EvF (TT gt) X 16 [] h' (fun r h'' => h'' = h' ∧ r = .bool true) := awake_spec
  refine EvF.enter rfl rfl rfl ?_
  repeat (first | refine EvC.seq ?_ | refine EvC.region rfl ?_)
  (refine EvO.cons rfl rfl rfl (EvP.new (b := .cells [a, b] 41 false) (mk := .ptr) rfl rfl hw (fun h1 id hg1 o1 hfr => ?_)))
  have f1 := load1 (T := TT gt) (t := 35) (off := 0) o1 rfl rfl rfl
  have f2 := load1 (T := TT gt) (t := 35) (off := 1) o1 rfl rfl rfl
  have la := (ra.mono hg1.le).len_any (T := TT gt) (t := 35) rfl h1
  have lb := (rb.mono hg1.le).len_any (T := TT gt) (t := 35) rfl h1
  repeat (first | refine EvO.plain rfl rfl rfl rfl rfl rfl ?_ | refine EvO.plain rfl rfl rfl rfl rfl (by assumption) ?_ | refine EvC.seq ?_ | refine EvC.region rfl ?_ | refine EvO.nil ?_ | refine at_normal ?_)
  (refine EvO.cons rfl rfl rfl (EvP.bool rfl rfl (fun q1 => ?_) (fun q1 => ?_)))
  · repeat (first | refine EvO.plain rfl rfl rfl rfl rfl rfl ?_ | refine EvO.nil ?_ | refine at_normal ?_ | refine EvO.off rfl rfl rfl ?_)
    refine EvC.cond (t := true) rfl (fun _ => ?_) (fun e => nomatch e)
    repeat (first | refine EvC.seq ?_ | refine EvC.region rfl ?_)
    (refine EvO.cons rfl rfl rfl (EvP.callF rfl rfl rfl rfl (EvF.mono (wake) ?_)))
    rintro _ h3 _ ⟨rfl, rfl⟩
    repeat (first | refine EvO.plain rfl rfl rfl rfl rfl rfl ?_ | refine EvO.nil ?_ | refine at_normal ?_ | refine EvC.ret ?_ | refine at_ret ?_)
    (refine ret_is (v := .bool true) rfl rfl ?_)
    rfl
  · have q1 := of_decide_eq_false q1
    repeat (first | refine EvO.plain rfl rfl rfl rfl rfl rfl ?_ | refine EvO.plainOn rfl rfl rfl rfl rfl rfl ?_ | refine EvO.plainOn rfl rfl rfl rfl rfl (by assumption) ?_)
    (refine EvO.on rfl rfl rfl (EvP.bool rfl rfl (fun q2 => ?_) (fun q2 => ?_)))
    · repeat (first | refine EvO.plain rfl rfl rfl rfl rfl rfl ?_ | refine EvO.nil ?_ | refine at_normal ?_ | refine EvO.off rfl rfl rfl ?_)
      refine EvC.cond (t := true) rfl (fun _ => ?_) (fun e => nomatch e)
      repeat (first | refine EvC.seq ?_ | refine EvC.region rfl ?_)
      (refine EvO.cons rfl rfl rfl (EvP.callF rfl rfl rfl rfl (EvF.mono (wake) ?_)))
      rintro _ h3 _ ⟨rfl, rfl⟩
      repeat (first | refine EvO.plain rfl rfl rfl rfl rfl rfl ?_ | refine EvO.nil ?_ | refine at_normal ?_ | refine EvC.ret ?_ | refine at_ret ?_)
      (refine ret_is (v := .bool true) rfl rfl ?_)
      rfl
    · have q2 := of_decide_eq_false q2
      clear la lb
      repeat (first | refine EvO.plain rfl rfl rfl rfl rfl rfl ?_ | refine EvO.plainOn rfl rfl rfl rfl rfl rfl ?_ | refine EvO.plainOn rfl rfl rfl rfl rfl (by assumption) ?_)
      refine EvO.on rfl rfl rfl (EvP.callF rfl rfl rfl rfl (EvF.mono (clause_spec (facts gt) (RowOf.mono hg1.le ra) ha 60 (by decide)) ?_))
      rintro _ h1 _ ⟨rfl, rfl⟩
      by_cases c1 : ∀ x ∈ A, ok 60 x
      · rw [decide_eq_true c1]
        repeat (first | refine EvO.plain rfl rfl rfl rfl rfl rfl ?_ | refine EvO.plainOn rfl rfl rfl rfl rfl rfl ?_ | refine EvO.plainOn rfl rfl rfl rfl rfl (by assumption) ?_)
        refine EvO.on rfl rfl rfl (EvP.callF rfl rfl rfl rfl (EvF.mono (clause_spec (facts gt) (RowOf.mono hg1.le rb) hb 60 (by decide)) ?_))
        rintro _ h1 _ ⟨rfl, rfl⟩
        by_cases c2 : ∀ x ∈ B, ok 60 x
        · rw [decide_eq_true c2]
          repeat (first | refine EvO.plain rfl rfl rfl rfl rfl rfl ?_ | refine EvO.nil ?_ | refine at_normal ?_ | refine EvO.plainOn rfl rfl rfl rfl rfl rfl ?_)
          refine EvC.cond (t := false) rfl (fun e => nomatch e) (fun _ => ?_)
          repeat (first | refine EvO.plain rfl rfl rfl rfl rfl rfl ?_ | refine EvO.plain rfl rfl rfl rfl rfl (by assumption) ?_ | refine EvC.seq ?_ | refine EvC.region rfl ?_ | refine at_normal ?_ | refine EvC.skip ?_)
          (refine EvO.cons rfl rfl rfl (EvP.callF rfl rfl rfl rfl (EvF.mono (Resolve_spec hg1.wf (RowOf.mono hg1.le ra) (RowOf.mono hg1.le rb) ha hb v hv) ?_)))
          rintro r h2 hn2 ⟨⟨hl2, hw2⟩, hr⟩
          have o2 := hl2 _ _ o1
          have hle2 : h.le h2 := AH.le.trans' hg1.le hl2
          clear f1 f2
          rcases hr with ⟨hf, rfl⟩ | ⟨hf, hin, w, rfl, rw2, nz⟩ | ⟨hf, hin, rfl⟩
          · repeat (first | refine EvO.plain rfl rfl rfl rfl rfl rfl ?_ | refine EvC.seq ?_ | refine EvC.region rfl ?_ | refine EvO.nil ?_ | refine at_normal ?_)
            refine EvC.cond (t := true) rfl (fun _ => ?_) (fun e => nomatch e)
            repeat (first | refine EvO.plain rfl rfl rfl rfl rfl rfl ?_ | refine EvC.seq ?_ | refine EvC.region rfl ?_)
            refine EvO.cons rfl rfl rfl (EvP.quiet rfl (isB (q := true) rfl) ?_)
            repeat (refine EvO.plain rfl rfl rfl rfl rfl rfl ?_)
            refine EvO.on rfl rfl rfl (EvP.callF rfl rfl rfl rfl (EvF.mono (wake) ?_))
            rintro _ h3 _ ⟨rfl, rfl⟩
            repeat (first | refine EvO.plain rfl rfl rfl rfl rfl rfl ?_ | refine EvO.nil ?_ | refine at_normal ?_ | refine EvC.ret ?_ | refine at_ret ?_)
            (refine ret_is (v := .bool true) rfl rfl ?_)
            rfl
          · repeat (first | refine EvO.plain rfl rfl rfl rfl rfl rfl ?_ | refine EvC.seq ?_ | refine EvC.region rfl ?_ | refine EvO.nil ?_ | refine at_normal ?_)
            refine EvC.cond (t := false) rfl (fun e => nomatch e) (fun _ => ?_)
            repeat (first | refine EvC.seq ?_ | refine EvC.region rfl ?_ | refine at_normal ?_ | refine EvC.skip ?_)
            have S2 := HS.all hw2
            (refine EvO.cons rfl rfl rfl (EvP.newC S2 1 rfl (make_vec (T := TT gt) (n := 60) (t := 25) rfl rfl rfl (by omega) (by show ((60 : Nat) : Int) * (1 : Nat) ≤ ((70368744177664 : Nat) : Int); omega)) (by decide) (fun h5 id5 col5 A5 S5 g5 c5 _ => ?_)))
            have V5 : Vec col5 1 h5 4 1 (.slice id5 0 60 60 true) 60 (List.replicate 60 (.bool false)) := .mk (tail := []) (by rw [List.append_nil, ← rep_one]; exact g5) c5 (by simp) (fun _ => ⟨Nat.le_refl _, by simp⟩)
            repeat (first | refine EvO.plain rfl rfl rfl rfl rfl rfl ?_ | refine EvC.seq ?_ | refine EvC.region rfl ?_ | refine EvO.nil ?_ | refine at_normal ?_)
            (refine EvO.cons rfl rfl rfl (EvP.copyC S5 V5 (by decide) (hM.mono (AH.le.trans' hle2 S5.le)) nm (fun _ _ => rfl) rfl rfl rfl rfl rfl rfl rfl rfl (fun h6 A6 S6 V6 => ?_)))
            rw [pad_cells] at V6
            have hBl : (M.take 60 ++ List.replicate (60 - M.length) false).length = 60 := by simp; omega
            generalize M.take 60 ++ List.replicate (60 - M.length) false = B' at *
            have V6 : Vec col5 1 h6 4 1 (.slice id5 0 60 60 true) B'.length (B'.map AV.bool) := by rw [hBl]; exact V6
            have hBrow := row_bools V6
            have hle6 : h.le h6 := AH.le.trans' hle2 S6.le
            have o6 := S6.le _ _ o2
            have okv : ok 60 v := c1 v hin.1
            have C6 := two_cnf o6 (RowOf.mono hle6 ra) (RowOf.mono hle6 rb) (by omega) (by omega) 0
            repeat (first | refine EvO.plain rfl rfl rfl rfl rfl rfl ?_ | refine EvC.seq ?_ | refine EvC.region rfl ?_ | refine EvO.nil ?_ | refine at_normal ?_)
            have hok2 : ∀ i, i < [A, B].length → ∀ x ∈ [A, B].getD i [], ok B'.length x := fun i hi x hx => by
              rw [hBl]
              match i, hi with
              | 0, _ => exact c1 x hx
              | 1, _ => exact c2 x hx
            (refine EvO.cons rfl rfl rfl (EvP.callF rfl rfl rfl rfl (EvF.mono (refAll_spec (facts gt) C6 hBrow (by omega) hok2) ?_)))
            rintro _ h6 _ ⟨rfl, rfl⟩
            by_cases hall : allB [A, B] B'
            · rw [decide_eq_true hall]
              repeat (first | refine EvO.plain rfl rfl rfl rfl rfl rfl ?_ | refine EvO.nil ?_ | refine at_normal ?_)
              refine EvC.cond (t := false) rfl (fun e => nomatch e) (fun _ => ?_)
              have hres : ∀ x ∈ resL A B v, ok 60 x := fun x hx => by
                rcases mem_resL.1 hx with h' | h'
                · exact c1 x h'.1
                · exact c2 x h'.1
              have hlen : (resL A B v).length ≤ 120 := by
                have h1 := ordL_length (but A v ++ but B (-v))
                have h2 := but_len A v
                have h3 := but_len B (-v)
                rw [List.length_append] at h1
                unfold resL; omega
              repeat (first | refine EvO.plain rfl rfl rfl rfl rfl rfl ?_ | refine EvC.seq ?_ | refine EvC.region rfl ?_ | refine at_normal ?_ | refine EvC.skip ?_)
              (refine EvO.cons rfl rfl rfl (EvP.callF rfl rfl rfl rfl (EvF.mono (clause_spec (facts gt) (RowOf.mono S6.le rw2) (by omega) 60 (by decide)) ?_)))
              rintro _ h6 _ ⟨rfl, rfl⟩
              rw [decide_eq_true hres]
              have sc := RowOf.sc rw2
              repeat (first | refine EvO.plain rfl rfl rfl rfl rfl rfl ?_ | refine EvO.plainOn rfl rfl rfl rfl rfl rfl ?_)
              (refine EvO.on rfl rfl rfl (EvP.newR (b := .cells [w] 35 false) (mk := .slice 1 1 true) S6 rfl (show abuildSlice (TT gt) 22 1 [(0, w)] = _ from build1 rfl rfl rfl rfl sc) (fun h7 id7 A7 S7 hle7 o7 _ _ => ?_)))
              have hle7' : h2.le h7 := fun i o e => S7.le i o (hle7 i o e)
              have C7 := one_cnf o7 (RowOf.mono hle7' rw2) (by omega) 0
              have V7 := V6.step A7 S6.wf (fun e => e)
              repeat (refine EvO.plainOn rfl rfl rfl rfl rfl rfl ?_)
              have hok1 : ∀ i, i < [resL A B v].length → ∀ x ∈ [resL A B v].getD i [], ok B'.length x := fun i hi x hx => by
                rw [hBl]
                match i, hi with
                | 0, _ => exact hres x hx
              refine EvO.on rfl rfl rfl (EvP.callF rfl rfl rfl rfl (EvF.mono (refAll_spec (facts gt) C7 (row_bools V7) (by omega) hok1) ?_))
              rintro _ h7 _ ⟨rfl, rfl⟩
              have hone : allB [resL A B v] B' := fun i hi => by
                match i, hi with
                | 0, _ => exact res_sound (by rw [hBl]; exact okv) (hall 0 (by show 0 < 2; decide)) (hall 1 (by show 1 < 2; decide))
              rw [decide_eq_true hone]
              repeat (refine EvO.plain rfl rfl rfl rfl rfl rfl ?_)
              refine EvO.on rfl rfl rfl (EvP.callF rfl rfl rfl rfl (EvF.mono (wake) ?_))
              rintro _ h8 _ ⟨rfl, rfl⟩
              repeat (first | refine EvO.plain rfl rfl rfl rfl rfl rfl ?_ | refine EvO.nil ?_ | refine at_normal ?_ | refine EvC.ret ?_)
              (refine ret_is (v := .bool true) rfl rfl ?_)
              rfl
            · rw [decide_eq_false hall]
              repeat (first | refine EvO.plain rfl rfl rfl rfl rfl rfl ?_ | refine EvO.nil ?_ | refine at_normal ?_)
              refine EvC.cond (t := true) rfl (fun _ => ?_) (fun e => nomatch e)
              repeat (first | refine EvC.seq ?_ | refine EvC.region rfl ?_)
              (refine EvO.cons rfl rfl rfl (EvP.callF rfl rfl rfl rfl (EvF.mono (wake) ?_)))
              rintro _ h8 _ ⟨rfl, rfl⟩
              repeat (first | refine EvO.plain rfl rfl rfl rfl rfl rfl ?_ | refine EvO.nil ?_ | refine at_normal ?_ | refine EvC.ret ?_ | refine at_ret ?_)
              (refine ret_is (v := .bool true) rfl rfl ?_)
              rfl
          · repeat (first | refine EvO.plain rfl rfl rfl rfl rfl rfl ?_ | refine EvC.seq ?_ | refine EvC.region rfl ?_ | refine EvO.nil ?_ | refine at_normal ?_)
            refine EvC.cond (t := true) rfl (fun _ => ?_) (fun e => nomatch e)
            repeat (first | refine EvO.plain rfl rfl rfl rfl rfl rfl ?_ | refine EvC.seq ?_ | refine EvC.region rfl ?_)
            refine EvO.cons rfl rfl rfl (EvP.quiet rfl (isB (q := true) rfl) ?_)
            repeat (refine EvO.plain rfl rfl rfl rfl rfl rfl ?_)
            refine EvO.on rfl rfl rfl (EvP.callF rfl rfl rfl rfl (EvF.mono (wake) ?_))
            rintro _ h3 _ ⟨rfl, rfl⟩
            repeat (first | refine EvO.plain rfl rfl rfl rfl rfl rfl ?_ | refine EvO.nil ?_ | refine at_normal ?_ | refine EvC.ret ?_ | refine at_ret ?_)
            (refine ret_is (v := .bool true) rfl rfl ?_)
            rfl
        · rw [decide_eq_false c2]
          repeat (first | refine EvO.plain rfl rfl rfl rfl rfl rfl ?_ | refine EvO.nil ?_ | refine at_normal ?_ | refine EvO.plainOn rfl rfl rfl rfl rfl rfl ?_)
          refine EvC.cond (t := true) rfl (fun _ => ?_) (fun e => nomatch e)
          repeat (first | refine EvC.seq ?_ | refine EvC.region rfl ?_)
          (refine EvO.cons rfl rfl rfl (EvP.callF rfl rfl rfl rfl (EvF.mono (wake) ?_)))
          rintro _ h3 _ ⟨rfl, rfl⟩
          repeat (first | refine EvO.plain rfl rfl rfl rfl rfl rfl ?_ | refine EvO.nil ?_ | refine at_normal ?_ | refine EvC.ret ?_ | refine at_ret ?_)
          (refine ret_is (v := .bool true) rfl rfl ?_)
          rfl
      · rw [decide_eq_false c1]
        repeat (first | refine EvO.plain rfl rfl rfl rfl rfl rfl ?_ | refine EvO.nil ?_ | refine at_normal ?_ | refine EvO.off rfl rfl rfl ?_ | refine EvO.plainOn rfl rfl rfl rfl rfl rfl ?_)
        refine EvC.cond (t := true) rfl (fun _ => ?_) (fun e => nomatch e)
        repeat (first | refine EvC.seq ?_ | refine EvC.region rfl ?_)
        (refine EvO.cons rfl rfl rfl (EvP.callF rfl rfl rfl rfl (EvF.mono (wake) ?_)))
        rintro _ h3 _ ⟨rfl, rfl⟩
        repeat (first | refine EvO.plain rfl rfl rfl rfl rfl rfl ?_ | refine EvO.nil ?_ | refine at_normal ?_ | refine EvC.ret ?_ | refine at_ret ?_)
        (refine ret_is (v := .bool true) rfl rfl ?_)
        rfl
end Pf
end Go.Proofs.YtfjloafebkjadaaGreatDoor
