/- The reference's resolvent and what its Resolve answers. -/
import Derived.Test.YtfjloafebkjadaaGreatDoorPgK
namespace Go.Proofs.YtfjloafebkjadaaGreatDoor
namespace Pf
open Go Go.AI Go.Proofs
variable {gt : Tree (List AV)}
theorem mem_but_next {l : List Int} {v y : Int} {i : Nat} (h : i < l.length) : y ∈ but (l.take (i + 1)) v ↔ y ∈ but (l.take i) v ∨ (l.getD i 0 ≠ v ∧ y = l.getD i 0) := by
  rw [but_next h, List.mem_append]
  generalize l.getD i 0 = z
  by_cases e : z = v
  · rw [if_neg (by rw [bne_eq_false_iff_eq.2 e]; decide)]
    simp [e]
  · rw [if_pos (bne_iff_ne.2 e)]
    simp [e]
set_option maxHeartbeats 4000000 in
theorem resolvent_spec {G h : AH} {col : Nat → Nat} (S : HS G h col) {a b : AV} {A B : List Int} (ra : IntRow G a A) (rb : IntRow G b B) (ha : A.length ≤ 2 ^ 36) (hb : B.length ≤ 2 ^ 36) (oa : ∀ x ∈ A, -1000000 ≤ x ∧ x ≤ 1000000) (ob : ∀ x ∈ B, -1000000 ≤ x ∧ x ≤ 1000000) (v : Int) (hv : v ≤ 9223372036854775807) :
    EvF (TT gt) X 65 [a, b, .int .i64 v] h (fun r h' => Step (fun _ => False) col h col h' ∧ ∃ G', HS G' h' col ∧ G.le G' ∧ (((1 ≤ v ∧ v ∈ A ∧ -v ∈ B) ∧ ∃ w, r = .tuple [w, .int .i64 0] ∧ IntRow G' w (resL A B v) ∧ NZ w) ∨ (¬ (1 ≤ v ∧ v ∈ A ∧ -v ∈ B) ∧ r = .tuple [.nilSlice, .int .i64 4]))) := by
  have la := fun h' => RowOf.len_any (T := TT gt) (t := 35) ra rfl h'
  have lb := fun h' => RowOf.len_any (T := TT gt) (t := 35) rb rfl h'
  have bad : ¬ (1 ≤ v ∧ v ∈ A ∧ -v ∈ B) → Step (fun _ => False) col h col h ∧ ∃ G', HS G' h col ∧ G.le G' ∧ (((1 ≤ v ∧ v ∈ A ∧ -v ∈ B) ∧ ∃ w, AV.tuple [.nilSlice, .int .i64 4] = .tuple [w, .int .i64 0] ∧ IntRow G' w (resL A B v) ∧ NZ w) ∨ (¬ (1 ≤ v ∧ v ∈ A ∧ -v ∈ B) ∧ AV.tuple [.nilSlice, .int .i64 4] = .tuple [.nilSlice, .int .i64 4])) := fun hn => ⟨Step.refl S, G, S, fun _ _ e => e, .inr ⟨hn, rfl⟩⟩
  refine EvF.enter rfl rfl rfl ?_
  repeat (first | refine EvO.plain rfl rfl rfl rfl rfl rfl ?_ | refine EvC.seq ?_ | refine EvC.region rfl ?_ | refine EvO.nil ?_ | refine at_normal ?_)
  (refine EvO.cons rfl rfl rfl (EvP.bool rfl rfl (fun q1 => ?_) (fun q1 => ?_)))
  · have q1 := of_decide_eq_true q1
    repeat (first | refine EvO.plain rfl rfl rfl rfl rfl rfl ?_ | refine EvO.nil ?_ | refine at_normal ?_ | refine EvO.off rfl rfl rfl ?_)
    refine EvC.cond (t := true) rfl (fun _ => ?_) (fun e => nomatch e)
    repeat (first | refine EvO.plain rfl rfl rfl rfl rfl rfl ?_ | refine EvC.seq ?_ | refine EvC.region rfl ?_ | refine EvO.nil ?_ | refine at_normal ?_ | refine EvC.ret ?_ | refine at_ret ?_)
    (refine ret_are (vs := [.nilSlice, .int .i64 4]) rfl rfl ?_)
    exact bad (fun e => by omega)
  · have q1 := of_decide_eq_false q1
    repeat (first | refine EvO.plain rfl rfl rfl rfl rfl rfl ?_ | refine EvO.plainOn rfl rfl rfl rfl rfl rfl ?_)
    refine EvO.on rfl rfl rfl (EvP.callF rfl rfl rfl rfl (EvF.mono (has_spec (RowOf.mono S.le ra) v (by omega)) ?_))
    rintro _ h _ ⟨rfl, rfl⟩
    by_cases h1 : v ∈ A
    · rw [decide_eq_true h1]
      repeat (first | refine EvO.plain rfl rfl rfl rfl rfl rfl ?_ | refine EvO.plainOn rfl rfl rfl rfl rfl rfl ?_ | refine EvO.on rfl rfl rfl (EvP.neg64 rfl (by omega) ?_))
      refine EvO.on rfl rfl rfl (EvP.callF rfl rfl rfl rfl (EvF.mono (has_spec (RowOf.mono S.le rb) (-v) (by omega)) ?_))
      rintro _ h _ ⟨rfl, rfl⟩
      by_cases h2 : -v ∈ B
      · rw [decide_eq_true h2]
        have lh := la h
        repeat (first | refine EvO.plain rfl rfl rfl rfl rfl rfl ?_ | refine EvO.nil ?_ | refine at_normal ?_ | refine EvO.plainOn rfl rfl rfl rfl rfl rfl ?_)
        refine EvC.cond (t := false) rfl (fun e => nomatch e) (fun _ => ?_)
        repeat (first | refine EvO.plain rfl rfl rfl rfl rfl rfl ?_ | refine EvO.plain rfl rfl rfl rfl rfl (by assumption) ?_ | refine EvC.seq ?_ | refine EvC.region rfl ?_ | refine EvO.nil ?_ | refine at_normal ?_ | refine EvC.skip ?_ | refine EvC.block ?_)
        clear lh
        refine EvC.loop (fun m σ h' => ∃ (i : Nat) (w : AV) (l : List Int) (Gk : AH) (E : Nat → AV), Step (fun _ => False) col h col h' ∧ HS Gk h' col ∧ G.le Gk ∧ Vec (fun _ => 0) 0 Gk 3 1 w l.length (l.map (AV.int .i64)) ∧ SortK l ∧ (∀ y, y ∈ l ↔ y ∈ but (A.take i) v) ∧ l.length ≤ i ∧ i ≤ A.length ∧ m = A.length - i ∧ σ = upds [(1, b), (2, .int .i64 v), (8, w), (28, a), (29, .int .i64 A.length), (30, .int .i64 i)] E) (A.length) ?_ ?_
        · exact ⟨0, _, [], G, _, Step.refl S, S, fun _ _ e => e, .nil, .nil, fun y => by simp [but], Nat.le_refl _, Nat.zero_le _, rfl, hold ⟨rfl, rfl, rfl, rfl, rfl, rfl, trivial⟩⟩
        · rintro m _ h3 ⟨i, w, l, Gk, E, A1, S1, hG1, V1, hs, hm, hll, hi, rfl, rfl⟩
          repeat (first | refine EvO.plain rfl rfl rfl rfl rfl rfl ?_ | refine EvC.seq ?_ | refine EvC.region rfl ?_ | refine EvO.nil ?_ | refine at_normal ?_)
          refine EvC.decide rfl (fun hc => ?_) (fun hc => ?_)
          · have hlt : i < A.length := by omega
            obtain ⟨q, b1, b2⟩ := (RowOf.mono (AH.le.trans' hG1 S1.le) ra).at1 (T := TT gt) (t := 35) (e := 3) rfl rfl rfl rfl (k := .i64) (i := i) (by omega) (by omega)
            rw [Int.toNat_natCast] at b2
            have hnx := fun y => mem_but_next (v := v) (y := y) hlt
            have hox := oa _ (getD_mem hlt)
            repeat (first | refine EvO.plain rfl rfl rfl rfl rfl rfl ?_ | refine EvO.plain rfl rfl rfl rfl rfl (by assumption) ?_ | refine EvC.seq ?_ | refine EvC.region rfl ?_ | refine EvO.nil ?_ | refine at_normal ?_ | refine EvC.skip ?_ | refine EvC.block ?_)
            by_cases e : A.getD i 0 = v
            · refine EvC.cond (t := false) (isT (bne_eq_false_iff_eq.2 e)) (fun e => nomatch e) (fun _ => ?_)
              clear b1 b2
              repeat (first | refine EvO.plain rfl rfl rfl rfl rfl rfl ?_ | refine EvC.region rfl ?_ | refine EvO.nil ?_ | refine at_normal ?_ | refine EvC.skip ?_ | refine be_normal ?_ | refine ro_normal ?_ | refine EvO.cons rfl rfl rfl (EvP.add64 rfl rfl (by omega) ?_))
              exact ⟨A.length - (i + 1), by omega, i + 1, w, l, Gk, _, A1, S1, hG1, V1, hs, fun y => by rw [hnx, hm]; exact ⟨.inl, fun h => h.elim id (fun h => absurd e h.1)⟩, by omega, by omega, rfl, hold ⟨rfl, rfl, rfl, rfl, rfl, rfl, trivial⟩⟩
            · refine EvC.cond (t := true) (isT (bne_iff_ne.2 e)) (fun _ => ?_) (fun e => nomatch e)
              clear b1 b2
              repeat (first | refine EvO.plain rfl rfl rfl rfl rfl rfl ?_ | refine EvC.region rfl ?_)
              (refine EvO.cons rfl rfl rfl (EvP.callF rfl rfl rfl rfl (EvF.mono (put_spec S1 V1 hs (A.getD i 0) hox (fun y hy => oa y (List.mem_of_mem_take (List.mem_filter.1 ((hm y).1 hy)).1)) (by omega)) ?_)))
              rintro w' h4 _ ⟨A2, G2, l2, S2, hG2, V2, hs2, hm2, hl2⟩
              repeat (first | refine EvO.plain rfl rfl rfl rfl rfl rfl ?_ | refine EvC.region rfl ?_ | refine EvO.nil ?_ | refine at_normal ?_ | refine be_normal ?_ | refine ro_normal ?_ | refine EvO.cons rfl rfl rfl (EvP.add64 rfl rfl (by omega) ?_))
              exact ⟨A.length - (i + 1), by omega, i + 1, w', l2, G2, _, A1.trans A2, S2, AH.le.trans' hG1 hG2, V2, hs2, fun y => by
                rw [hnx, hm2, hm]
                exact ⟨fun h => h.elim (fun h => .inr ⟨e, h⟩) .inl, fun h => h.elim .inr (fun h => .inl h.2)⟩, by omega, by omega, rfl, hold ⟨rfl, rfl, rfl, rfl, rfl, rfl, trivial⟩⟩
          · obtain rfl : i = A.length := by omega
            rw [List.take_length] at hm
            have lh := lb h3
            repeat (first | refine EvO.plain rfl rfl rfl rfl rfl rfl ?_ | refine EvO.plain rfl rfl rfl rfl rfl (by assumption) ?_ | refine EvC.seq ?_ | refine EvC.region rfl ?_ | refine EvO.nil ?_ | refine at_normal ?_ | refine EvC.block ?_ | refine EvC.exit ?_ | refine at_exit ?_ | refine be_same rfl ?_ | refine ro_exit ?_)
            clear lh
            refine EvC.loop (fun m σ h' => ∃ (i : Nat) (w : AV) (l : List Int) (Gk : AH) (E : Nat → AV), Step (fun _ => False) col h col h' ∧ HS Gk h' col ∧ G.le Gk ∧ Vec (fun _ => 0) 0 Gk 3 1 w l.length (l.map (AV.int .i64)) ∧ SortK l ∧ (∀ y, y ∈ l ↔ y ∈ but A v ∨ y ∈ but (B.take i) (-v)) ∧ l.length ≤ A.length + i ∧ i ≤ B.length ∧ m = B.length - i ∧ σ = upds [(2, .int .i64 v), (8, w), (41, b), (42, .int .i64 B.length), (43, .int .i64 i)] E) (B.length) ?_ ?_
            · exact ⟨0, w, l, Gk, _, A1, S1, hG1, V1, hs, fun y => by rw [hm]; simp [but], by omega, Nat.zero_le _, rfl, hold ⟨rfl, rfl, rfl, rfl, rfl, trivial⟩⟩
            · rintro m _ h4 ⟨i, w, l, Gk, E, A1, S1, hG1, V1, hs, hm, hll, hi, rfl, rfl⟩
              repeat (first | refine EvO.plain rfl rfl rfl rfl rfl rfl ?_ | refine EvC.seq ?_ | refine EvC.region rfl ?_ | refine EvO.nil ?_ | refine at_normal ?_)
              refine EvC.decide rfl (fun hc => ?_) (fun hc => ?_)
              · have hlt : i < B.length := by omega
                obtain ⟨q, b1, b2⟩ := (RowOf.mono (AH.le.trans' hG1 S1.le) rb).at1 (T := TT gt) (t := 35) (e := 3) rfl rfl rfl rfl (k := .i64) (i := i) (by omega) (by omega)
                rw [Int.toNat_natCast] at b2
                have hnx := fun y => mem_but_next (v := -v) (y := y) hlt
                have hox := ob _ (getD_mem hlt)
                repeat (first | refine EvO.plain rfl rfl rfl rfl rfl rfl ?_ | refine EvO.plain rfl rfl rfl rfl rfl (by assumption) ?_ | refine EvC.seq ?_ | refine EvC.region rfl ?_ | refine EvO.nil ?_ | refine at_normal ?_ | refine EvC.skip ?_ | refine EvC.block ?_ | refine EvO.cons rfl rfl rfl (EvP.neg64 rfl (by omega) ?_))
                by_cases e : B.getD i 0 = -v
                · refine EvC.cond (t := false) (isT (bne_eq_false_iff_eq.2 e)) (fun e => nomatch e) (fun _ => ?_)
                  clear b1 b2
                  repeat (first | refine EvO.plain rfl rfl rfl rfl rfl rfl ?_ | refine EvC.region rfl ?_ | refine EvO.nil ?_ | refine at_normal ?_ | refine EvC.skip ?_ | refine be_normal ?_ | refine ro_normal ?_ | refine EvO.cons rfl rfl rfl (EvP.add64 rfl rfl (by omega) ?_))
                  exact ⟨B.length - (i + 1), by omega, i + 1, w, l, Gk, _, A1, S1, hG1, V1, hs, fun y => by rw [hnx, hm]; exact ⟨fun h => h.elim .inl (fun h => .inr (.inl h)), fun h => h.elim .inl (fun h => h.elim .inr (fun h => absurd e h.1))⟩, by omega, by omega, rfl, hold ⟨rfl, rfl, rfl, rfl, rfl, trivial⟩⟩
                · refine EvC.cond (t := true) (isT (bne_iff_ne.2 e)) (fun _ => ?_) (fun e => nomatch e)
                  clear b1 b2
                  repeat (first | refine EvO.plain rfl rfl rfl rfl rfl rfl ?_ | refine EvC.region rfl ?_)
                  (refine EvO.cons rfl rfl rfl (EvP.callF rfl rfl rfl rfl (EvF.mono (put_spec S1 V1 hs (B.getD i 0) hox (fun y hy => ((hm y).1 hy).elim (fun h => oa y (List.mem_filter.1 h).1) (fun h => ob y (List.mem_of_mem_take (List.mem_filter.1 h).1))) (by omega)) ?_)))
                  rintro w' h5 _ ⟨A2, G2, l2, S2, hG2, V2, hs2, hm2, hl2⟩
                  repeat (first | refine EvO.plain rfl rfl rfl rfl rfl rfl ?_ | refine EvC.region rfl ?_ | refine EvO.nil ?_ | refine at_normal ?_ | refine be_normal ?_ | refine ro_normal ?_ | refine EvO.cons rfl rfl rfl (EvP.add64 rfl rfl (by omega) ?_))
                  exact ⟨B.length - (i + 1), by omega, i + 1, w', l2, G2, _, A1.trans A2, S2, AH.le.trans' hG1 hG2, V2, hs2, fun y => by
                    rw [hnx, hm2, hm]
                    exact ⟨fun h => h.elim (fun h => .inr (.inr ⟨e, h⟩)) (fun h => h.elim .inl (fun h => .inr (.inl h))), fun h => h.elim (fun h => .inr (.inl h)) (fun h => h.elim (fun h => .inr (.inr h)) (fun h => .inl h.2))⟩, by omega, by omega, rfl, hold ⟨rfl, rfl, rfl, rfl, rfl, trivial⟩⟩
              · obtain rfl : i = B.length := by omega
                rw [List.take_length] at hm
                have el : l = resL A B v := sortK_eq hs (sortK_resL A B v) fun y => by
                  rw [hm]; unfold resL; rw [mem_ordL, List.mem_append]
                repeat (first | refine EvO.plain rfl rfl rfl rfl rfl rfl ?_ | refine EvC.seq ?_ | refine EvC.region rfl ?_ | refine EvO.nil ?_ | refine at_normal ?_ | refine EvC.ret ?_ | refine EvC.exit ?_ | refine at_exit ?_ | refine be_same rfl ?_ | refine ro_exit ?_)
                (refine ret_are (vs := [w, .int .i64 0]) rfl rfl ?_)
                have row : IntRow Gk w l := row_ints V1.row
                rw [el] at row
                exact ⟨A1, Gk, S1, hG1, .inl ⟨⟨by omega, h1, h2⟩, w, rfl, row, V1.nz⟩⟩
      · rw [decide_eq_false h2]
        repeat (first | refine EvO.plain rfl rfl rfl rfl rfl rfl ?_ | refine EvO.nil ?_ | refine at_normal ?_ | refine EvO.plainOn rfl rfl rfl rfl rfl rfl ?_)
        refine EvC.cond (t := true) rfl (fun _ => ?_) (fun e => nomatch e)
        repeat (first | refine EvO.plain rfl rfl rfl rfl rfl rfl ?_ | refine EvC.seq ?_ | refine EvC.region rfl ?_ | refine EvO.nil ?_ | refine at_normal ?_ | refine EvC.ret ?_ | refine at_ret ?_)
        (refine ret_are (vs := [.nilSlice, .int .i64 4]) rfl rfl ?_)
        exact bad (fun e => h2 e.2.2)
    · rw [decide_eq_false h1]
      repeat (first | refine EvO.plain rfl rfl rfl rfl rfl rfl ?_ | refine EvO.nil ?_ | refine at_normal ?_ | refine EvO.off rfl rfl rfl ?_ | refine EvO.plainOn rfl rfl rfl rfl rfl rfl ?_)
      refine EvC.cond (t := true) rfl (fun _ => ?_) (fun e => nomatch e)
      repeat (first | refine EvO.plain rfl rfl rfl rfl rfl rfl ?_ | refine EvC.seq ?_ | refine EvC.region rfl ?_ | refine EvO.nil ?_ | refine at_normal ?_ | refine EvC.ret ?_ | refine at_ret ?_)
      (refine ret_are (vs := [.nilSlice, .int .i64 4]) rfl rfl ?_)
      exact bad (fun e => h1 e.2.1)
set_option maxHeartbeats 4000000 in
theorem rResolve_spec {h : AH} (hw : WF h) {a b : AV} {A B : List Int} (ra : IntRow h a A) (rb : IntRow h b B) (ha : A.length ≤ 2 ^ 50) (hb : B.length ≤ 2 ^ 50) (v : Int) (hv : -9223372036854775808 ≤ v ∧ v ≤ 9223372036854775807) :
    EvF (TT gt) X 25 [a, b, .int .i64 v] h (fun r h' => (h.le h' ∧ WF h') ∧ ResSays A B v r h') := by
  have la := RowOf.len_any (T := TT gt) (t := 35) ra rfl h
  have lb := RowOf.len_any (T := TT gt) (t := 35) rb rfl h
  have bad : ¬ fineR A B v → (h.le h ∧ WF h) ∧ ResSays A B v (.tuple [.nilSlice, .int .i64 2]) h := fun hn => ⟨⟨fun _ _ e => e, hw⟩, .inl ⟨hn, rfl⟩⟩
  refine EvF.enter rfl rfl rfl ?_
  repeat (first | refine EvO.plain rfl rfl rfl rfl rfl rfl ?_ | refine EvO.plain rfl rfl rfl rfl rfl (by assumption) ?_ | refine EvC.seq ?_ | refine EvC.region rfl ?_ | refine EvO.nil ?_ | refine at_normal ?_)
  (refine EvO.cons rfl rfl rfl (EvP.bool rfl rfl (fun q1 => ?_) (fun q1 => ?_)))
  · have q1 := of_decide_eq_true q1
    repeat (first | refine EvO.plain rfl rfl rfl rfl rfl rfl ?_ | refine EvO.nil ?_ | refine at_normal ?_ | refine EvO.off rfl rfl rfl ?_)
    refine EvC.cond (t := true) rfl (fun _ => ?_) (fun e => nomatch e)
    repeat (first | refine EvO.plain rfl rfl rfl rfl rfl rfl ?_ | refine EvC.seq ?_ | refine EvC.region rfl ?_ | refine EvO.nil ?_ | refine at_normal ?_ | refine EvC.ret ?_ | refine at_ret ?_)
    (refine ret_are (vs := [.nilSlice, .int .i64 2]) rfl rfl ?_)
    exact bad (fun e => by have := e.1; omega)
  · have q1 := of_decide_eq_false q1
    repeat (first | refine EvO.plain rfl rfl rfl rfl rfl rfl ?_ | refine EvO.plainOn rfl rfl rfl rfl rfl rfl ?_ | refine EvO.plainOn rfl rfl rfl rfl rfl (by assumption) ?_)
    (refine EvO.on rfl rfl rfl (EvP.bool rfl rfl (fun q2 => ?_) (fun q2 => ?_)))
    · have q2 := of_decide_eq_true q2
      repeat (first | refine EvO.plain rfl rfl rfl rfl rfl rfl ?_ | refine EvO.nil ?_ | refine at_normal ?_ | refine EvO.off rfl rfl rfl ?_)
      refine EvC.cond (t := true) rfl (fun _ => ?_) (fun e => nomatch e)
      repeat (first | refine EvO.plain rfl rfl rfl rfl rfl rfl ?_ | refine EvC.seq ?_ | refine EvC.region rfl ?_ | refine EvO.nil ?_ | refine at_normal ?_ | refine EvC.ret ?_ | refine at_ret ?_)
      (refine ret_are (vs := [.nilSlice, .int .i64 2]) rfl rfl ?_)
      exact bad (fun e => by have := e.2.1; omega)
    · have q2 := of_decide_eq_false q2
      clear la lb
      repeat (first | refine EvO.plain rfl rfl rfl rfl rfl rfl ?_ | refine EvO.plainOn rfl rfl rfl rfl rfl rfl ?_)
      refine EvO.on rfl rfl rfl (EvP.callF rfl rfl rfl rfl (EvF.mono (clause_spec (facts gt) ra ha 50000 (by decide)) ?_))
      rintro _ h _ ⟨rfl, rfl⟩
      by_cases h1 : ∀ x ∈ A, ok 50000 x
      · rw [decide_eq_true h1]
        repeat (first | refine EvO.plain rfl rfl rfl rfl rfl rfl ?_ | refine EvO.plainOn rfl rfl rfl rfl rfl rfl ?_)
        refine EvO.on rfl rfl rfl (EvP.callF rfl rfl rfl rfl (EvF.mono (clause_spec (facts gt) rb hb 50000 (by decide)) ?_))
        rintro _ h _ ⟨rfl, rfl⟩
        by_cases h2 : ∀ x ∈ B, ok 50000 x
        · rw [decide_eq_true h2]
          repeat (first | refine EvO.plain rfl rfl rfl rfl rfl rfl ?_ | refine EvO.plainOn rfl rfl rfl rfl rfl rfl ?_)
          (refine EvO.on rfl rfl rfl (EvP.bool rfl rfl (fun q3 => ?_) (fun q3 => ?_)))
          · have q3 := of_decide_eq_true q3
            repeat (first | refine EvO.plain rfl rfl rfl rfl rfl rfl ?_ | refine EvO.nil ?_ | refine at_normal ?_ | refine EvO.off rfl rfl rfl ?_)
            refine EvC.cond (t := true) rfl (fun _ => ?_) (fun e => nomatch e)
            repeat (first | refine EvO.plain rfl rfl rfl rfl rfl rfl ?_ | refine EvC.seq ?_ | refine EvC.region rfl ?_ | refine EvO.nil ?_ | refine at_normal ?_ | refine EvC.ret ?_ | refine at_ret ?_)
            (refine ret_are (vs := [.nilSlice, .int .i64 2]) rfl rfl ?_)
            exact bad (fun e => by have := e.2.2.2.2.1; omega)
          · have q3 := of_decide_eq_false q3
            repeat (first | refine EvO.plain rfl rfl rfl rfl rfl rfl ?_ | refine EvO.plainOn rfl rfl rfl rfl rfl rfl ?_)
            (refine EvO.on rfl rfl rfl (EvP.bool rfl rfl (fun q4 => ?_) (fun q4 => ?_)))
            · have q4 := of_decide_eq_true q4
              repeat (first | refine EvO.plain rfl rfl rfl rfl rfl rfl ?_ | refine EvO.nil ?_ | refine at_normal ?_)
              refine EvC.cond (t := true) rfl (fun _ => ?_) (fun e => nomatch e)
              repeat (first | refine EvO.plain rfl rfl rfl rfl rfl rfl ?_ | refine EvC.seq ?_ | refine EvC.region rfl ?_ | refine EvO.nil ?_ | refine at_normal ?_ | refine EvC.ret ?_ | refine at_ret ?_)
              (refine ret_are (vs := [.nilSlice, .int .i64 2]) rfl rfl ?_)
              exact bad (fun e => by have := e.2.2.2.2.2; omega)
            · have q4 := of_decide_eq_false q4
              have fine : fineR A B v := ⟨by omega, by omega, h1, h2, by omega, by omega⟩
              repeat (first | refine EvO.plain rfl rfl rfl rfl rfl rfl ?_ | refine EvO.nil ?_ | refine at_normal ?_)
              refine EvC.cond (t := false) rfl (fun e => nomatch e) (fun _ => ?_)
              repeat (first | refine EvO.plain rfl rfl rfl rfl rfl rfl ?_ | refine EvC.seq ?_ | refine EvC.region rfl ?_ | refine at_normal ?_ | refine EvC.skip ?_)
              (refine EvO.cons rfl rfl rfl (EvP.callF rfl rfl rfl rfl (EvF.mono (resolvent_spec (HS.all hw) ra rb (by omega) (by omega) (fun x hx => by have := h1 x hx; unfold ok at this; omega) (fun x hx => by have := h2 x hx; unfold ok at this; omega) v hv.2) ?_)))
              rintro r h5 _ ⟨A5, G5, S5, hG5, hr⟩
              have hle5 : h.le h5 := AH.le.trans' hG5 S5.le
              rcases hr with ⟨h3, w, rfl, rw5, nz⟩ | ⟨h3, rfl⟩
              · repeat (first | refine EvO.plain rfl rfl rfl rfl rfl rfl ?_ | refine EvO.nil ?_ | refine at_normal ?_ | refine EvC.ret ?_)
                (refine ret_are (vs := [w, .int .i64 0]) rfl rfl ?_)
                exact ⟨⟨hle5, S5.wf⟩, .inr (.inl ⟨fine, h3.2, w, rfl, RowOf.mono S5.le rw5, nz⟩)⟩
              · repeat (first | refine EvO.plain rfl rfl rfl rfl rfl rfl ?_ | refine EvO.nil ?_ | refine at_normal ?_ | refine EvC.ret ?_)
                (refine ret_are (vs := [.nilSlice, .int .i64 4]) rfl rfl ?_)
                exact ⟨⟨hle5, S5.wf⟩, .inr (.inr ⟨fine, fun e => h3 ⟨by omega, e⟩, rfl⟩)⟩
        · rw [decide_eq_false h2]
          repeat (first | refine EvO.plain rfl rfl rfl rfl rfl rfl ?_ | refine EvO.nil ?_ | refine at_normal ?_ | refine EvO.off rfl rfl rfl ?_ | refine EvO.plainOn rfl rfl rfl rfl rfl rfl ?_)
          refine EvC.cond (t := true) rfl (fun _ => ?_) (fun e => nomatch e)
          repeat (first | refine EvO.plain rfl rfl rfl rfl rfl rfl ?_ | refine EvC.seq ?_ | refine EvC.region rfl ?_ | refine EvO.nil ?_ | refine at_normal ?_ | refine EvC.ret ?_ | refine at_ret ?_)
          (refine ret_are (vs := [.nilSlice, .int .i64 2]) rfl rfl ?_)
          exact bad (fun e => h2 e.2.2.2.1)
      · rw [decide_eq_false h1]
        repeat (first | refine EvO.plain rfl rfl rfl rfl rfl rfl ?_ | refine EvO.nil ?_ | refine at_normal ?_ | refine EvO.off rfl rfl rfl ?_ | refine EvO.plainOn rfl rfl rfl rfl rfl rfl ?_)
        refine EvC.cond (t := true) rfl (fun _ => ?_) (fun e => nomatch e)
        repeat (first | refine EvO.plain rfl rfl rfl rfl rfl rfl ?_ | refine EvC.seq ?_ | refine EvC.region rfl ?_ | refine EvO.nil ?_ | refine at_normal ?_ | refine EvC.ret ?_ | refine at_ret ?_)
        (refine ret_are (vs := [.nilSlice, .int .i64 2]) rfl rfl ?_)
        exact bad (fun e => h1 e.2.2.1)
end Pf
end Go.Proofs.YtfjloafebkjadaaGreatDoor
