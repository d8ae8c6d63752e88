/- The reference puts a literal at its place. -/
import Derived.Test.YtfjloafebkjadaaGreatDoorPgJ
import Derived.Test.YtfjloafebkjadaaGreatDoorPgC
namespace Go.Proofs.YtfjloafebkjadaaGreatDoor
namespace Pf
open Go Go.AI Go.Proofs
variable {gt : Tree (List AV)}
theorem key_abs {y x : Int} (h : y ≠ x) : key y < key x ↔ absI y < absI x ∨ (y = -x ∧ y < 0) := by
  unfold key absI; split <;> split <;> split <;> split <;> omega
theorem ints_scalar (l : List Int) : (l.map (AV.int .i64)).all Go.AI.scalar = true := by
  rw [List.all_eq_true]
  intro u hu
  obtain ⟨y, _, rfl⟩ := List.mem_map.1 hu
  rfl
theorem sortK_put {l : List Int} {x : Int} {i : Nat} (hs : SortK l) (hx : x ∉ l) (h1 : ∀ j, j < i → key (l.getD j 0) < key x) (h2 : i < l.length → ¬ key (l.getD i 0) < key x) (hi : i ≤ l.length) : SortK (l.take i ++ [x] ++ l.drop i) := by
  have hl := hs
  rw [← List.take_append_drop i l] at hl
  obtain ⟨p1, p2, p3⟩ := List.pairwise_append.1 hl
  have lo : ∀ y ∈ l.take i, key y < key x := fun y hy => by
    obtain ⟨j, hj, rfl⟩ := List.getElem_of_mem hy
    simp only [List.length_take] at hj
    have := h1 j (by omega)
    rwa [List.getD_eq_getElem?_getD, List.getElem?_eq_getElem (by omega), Option.getD_some, ← List.getElem_take (h := by simp; omega)] at this
  have hi2 : ∀ z ∈ l.drop i, key x < key z := by
    rcases Nat.lt_or_ge i l.length with hlt | hge
    · rw [List.drop_eq_getElem_cons hlt] at p2 ⊢
      have e : l.getD i 0 = l[i] := by rw [List.getD_eq_getElem?_getD, List.getElem?_eq_getElem hlt]; rfl
      have h3 := h2 hlt
      rw [e] at h3
      have hne : key l[i] ≠ key x := fun h' => hx (by rw [← key_inj h']; exact List.getElem_mem hlt)
      have h4 : key x < key l[i] := by omega
      intro z hz
      rcases List.mem_cons.1 hz with rfl | hz
      · exact h4
      · have := (List.pairwise_cons.1 p2).1 z hz
        omega
    · rw [List.drop_eq_nil_of_le hge]; intro z hz; cases hz
  refine List.pairwise_append.2 ⟨sortK_append p1 lo, p2, fun y hy z hz => ?_⟩
  rcases List.mem_append.1 hy with hy | hy
  · exact p3 y hy z hz
  · rw [List.mem_singleton.1 hy]; exact hi2 z hz
set_option maxHeartbeats 4000000 in
theorem put_spec {G h : AH} {col : Nat → Nat} (S : HS G h col) {v : AV} {l : List Int} (V : Vec (fun _ => 0) 0 G 3 1 v l.length (l.map (AV.int .i64))) (hs : SortK l) (x : Int) (hx : -1000000 ≤ x ∧ x ≤ 1000000) (hr : ∀ y ∈ l, -1000000 ≤ y ∧ y ≤ 1000000) (hl : l.length ≤ 2 ^ 37) :
    EvF (TT gt) X 97 [v, .int .i64 x] h (fun r h' => Step (fun _ => False) col h col h' ∧ ∃ G' l', HS G' h' col ∧ G.le G' ∧ Vec (fun _ => 0) 0 G' 3 1 r l'.length (l'.map (AV.int .i64)) ∧ SortK l' ∧ (∀ y, y ∈ l' ↔ y = x ∨ y ∈ l) ∧ l'.length ≤ l.length + 1) := by
  have S0 : HS G h (fun _ => 0) := ⟨S.wf, S.le, fun _ _ _ => rfl, fun _ _ => rfl⟩
  have row : IntRow G v l := row_ints V.row
  have ll := fun h' => RowOf.len_any (T := TT gt) (t := 35) row rfl h'
  refine EvF.enter rfl rfl rfl ?_
  repeat (first | refine EvO.plain rfl rfl rfl rfl rfl rfl ?_ | refine EvC.seq ?_ | refine EvC.region rfl ?_ | refine EvO.nil ?_ | refine at_normal ?_)
  (refine EvO.cons rfl rfl rfl (EvP.callF rfl rfl rfl rfl (EvF.mono (has_spec (RowOf.mono S.le row) x (by omega)) ?_)))
  rintro _ h _ ⟨rfl, rfl⟩
  by_cases hin : x ∈ l
  · rw [decide_eq_true hin]
    repeat (first | refine EvO.nil ?_ | refine at_normal ?_)
    refine EvC.cond (t := true) rfl (fun _ => ?_) (fun e => nomatch e)
    repeat (first | refine EvO.plain rfl rfl rfl rfl rfl rfl ?_ | refine EvC.seq ?_ | refine EvC.region rfl ?_ | refine EvO.nil ?_ | refine at_normal ?_ | refine EvC.ret ?_ | refine at_ret ?_)
    (refine ret_is (v := v) rfl rfl ?_)
    exact ⟨Step.refl S, G, l, S, fun _ _ e => e, V, hs, fun y => ⟨.inr, fun h => h.elim (fun e => e ▸ hin) id⟩, by omega⟩
  · rw [decide_eq_false hin]
    repeat (first | refine EvO.nil ?_ | refine at_normal ?_)
    refine EvC.cond (t := false) rfl (fun e => nomatch e) (fun _ => ?_)
    repeat (first | refine EvO.plain rfl rfl rfl rfl rfl rfl ?_ | refine EvC.seq ?_ | refine EvC.region rfl ?_ | refine EvO.nil ?_ | refine at_normal ?_ | refine EvC.skip ?_ | refine EvC.block ?_)
    refine EvC.loop (fun m σ h' => h' = h ∧ ∃ (i : Nat) (E : Nat → AV), i ≤ l.length ∧ (∀ j, j < i → key (l.getD j 0) < key x) ∧ m = l.length - i ∧ σ = upds [(0, v), (1, .int .i64 x), (5, .int .i64 i)] E) (l.length) ?_ ?_
    · exact ⟨rfl, 0, _, Nat.zero_le _, fun j hj => absurd hj (Nat.not_lt_zero _), rfl, hold ⟨rfl, rfl, rfl, trivial⟩⟩
    · rintro m _ h ⟨rfl, i, E, hi, hlo, rfl, rfl⟩
      have lh := ll h
      repeat (first | refine EvO.plain rfl rfl rfl rfl rfl rfl ?_ | refine EvO.plain rfl rfl rfl rfl rfl (by assumption) ?_ | refine EvC.seq ?_ | refine EvC.region rfl ?_)
      refine EvO.mono (fun σ h' => h' = h ∧ ∃ E, σ = upds [(0, v), (1, .int .i64 x), (5, .int .i64 i), (40, .bool (decide (i < l.length ∧ key (l.getD i 0) < key x)))] E) ?_ ?_
      · (refine EvO.cons rfl rfl rfl (EvP.bool rfl rfl (fun q1 => ?_) (fun q1 => ?_)))
        · have q1 := of_decide_eq_true q1
          have hlt : i < l.length := by omega
          obtain ⟨q, b1, b2⟩ := (RowOf.mono S.le row).at1 (T := TT gt) (t := 35) (e := 3) rfl rfl rfl rfl (k := .i64) (i := i) (by omega) (by omega)
          rw [Int.toNat_natCast] at b2
          have hne : l.getD i 0 ≠ x := fun e => hin (by rw [← e]; exact getD_mem hlt)
          have hka := key_abs hne
          have hry := hr _ (getD_mem hlt)
          repeat (first | refine EvO.plain rfl rfl rfl rfl rfl rfl ?_ | refine EvO.plainOn rfl rfl rfl rfl rfl rfl ?_ | refine EvO.plainOn rfl rfl rfl rfl rfl (by assumption) ?_)
          refine EvO.on rfl rfl rfl (EvP.callF rfl rfl rfl rfl (EvF.mono (var_spec (facts gt) (l.getD i 0) hry) ?_))
          rintro _ h _ ⟨rfl, rfl⟩
          repeat (refine EvO.plainOn rfl rfl rfl rfl rfl rfl ?_)
          refine EvO.on rfl rfl rfl (EvP.callF rfl rfl rfl rfl (EvF.mono (var_spec (facts gt) x hx) ?_))
          rintro _ h _ ⟨rfl, rfl⟩
          skip
          (refine EvO.on rfl rfl rfl (EvP.bool rfl rfl (fun q2 => ?_) (fun q2 => ?_)))
          · have q2 := of_decide_eq_true q2
            repeat (first | refine EvO.plain rfl rfl rfl rfl rfl rfl ?_ | refine EvO.nil ?_ | refine EvO.off rfl rfl rfl ?_ | refine EvO.plainOn rfl rfl rfl rfl rfl rfl ?_)
            exact ⟨rfl, _, hold ⟨rfl, rfl, rfl, congrArg AV.bool (decide_eq_true ⟨hlt, hka.2 (.inl q2)⟩).symm, trivial⟩⟩
          · have q2 := of_decide_eq_false q2
            repeat (first | refine EvO.plainOn rfl rfl rfl rfl rfl rfl ?_ | refine EvO.plainOn rfl rfl rfl rfl rfl (by assumption) ?_ | refine EvO.on rfl rfl rfl (EvP.neg64 rfl (by omega) ?_))
            by_cases e : l.getD i 0 = -x
            · refine EvO.on rfl rfl rfl (EvP.quiet rfl (isB (q := true) (beq_true e)) ?_)
              repeat (first | refine EvO.plainOn rfl rfl rfl rfl rfl rfl ?_ | refine EvO.plainOn rfl rfl rfl rfl rfl (by assumption) ?_)
              (refine EvO.on rfl rfl rfl (EvP.bool rfl rfl (fun q3 => ?_) (fun q3 => ?_)))
              · have q3 := of_decide_eq_true q3
                repeat (first | refine EvO.plain rfl rfl rfl rfl rfl rfl ?_ | refine EvO.nil ?_ | refine EvO.plainOn rfl rfl rfl rfl rfl rfl ?_)
                exact ⟨rfl, _, hold ⟨rfl, rfl, rfl, congrArg AV.bool (decide_eq_true ⟨hlt, hka.2 (.inr ⟨e, q3⟩)⟩).symm, trivial⟩⟩
              · have q3 := of_decide_eq_false q3
                repeat (first | refine EvO.plain rfl rfl rfl rfl rfl rfl ?_ | refine EvO.nil ?_ | refine EvO.plainOn rfl rfl rfl rfl rfl rfl ?_)
                exact ⟨rfl, _, hold ⟨rfl, rfl, rfl, congrArg AV.bool (decide_eq_false (fun h' => (hka.1 h'.2).elim q2 (fun h'' => q3 h''.2))).symm, trivial⟩⟩
            · refine EvO.on rfl rfl rfl (EvP.quiet rfl (isB (q := false) (beq_false e)) ?_)
              repeat (first | refine EvO.plain rfl rfl rfl rfl rfl rfl ?_ | refine EvO.nil ?_ | refine EvO.off rfl rfl rfl ?_ | refine EvO.plainOn rfl rfl rfl rfl rfl rfl ?_)
              exact ⟨rfl, _, hold ⟨rfl, rfl, rfl, congrArg AV.bool (decide_eq_false (fun h' => (hka.1 h'.2).elim q2 (fun h'' => e h''.1))).symm, trivial⟩⟩
        · have q1 := of_decide_eq_false q1
          repeat (first | refine EvO.plain rfl rfl rfl rfl rfl rfl ?_ | refine EvO.nil ?_ | refine EvO.off rfl rfl rfl ?_)
          exact ⟨rfl, _, hold ⟨rfl, rfl, rfl, congrArg AV.bool (decide_eq_false (fun h' => by omega)).symm, trivial⟩⟩
      · rintro σ h ⟨rfl, E2, rfl⟩
        repeat (refine at_normal ?_)
        refine EvC.decide rfl (fun hc => ?_) (fun hc => ?_)
        · repeat (first | refine EvO.plain rfl rfl rfl rfl rfl rfl ?_ | refine EvC.region rfl ?_ | refine EvO.nil ?_ | refine at_normal ?_ | refine EvC.skip ?_ | refine EvC.block ?_ | refine be_normal ?_ | refine ro_normal ?_ | refine EvO.cons rfl rfl rfl (EvP.add64 rfl rfl (by omega) ?_))
          refine ⟨l.length - (i + 1), by omega, rfl, i + 1, _, by omega, fun j hj => ?_, rfl, hold ⟨rfl, rfl, rfl, trivial⟩⟩
          rcases Nat.lt_or_ge j i with h' | h'
          · exact hlo j h'
          · obtain rfl : j = i := by omega
            exact hc.2
        · have hhi : i < l.length → ¬ key (l.getD i 0) < key x := fun h1 h2 => hc ⟨h1, h2⟩
          clear lh
          repeat (first | refine EvC.seq ?_ | refine EvC.region rfl ?_ | refine at_normal ?_ | refine EvC.exit ?_ | refine at_exit ?_ | refine be_same rfl ?_ | refine ro_exit ?_)
          (refine EvO.cons rfl rfl rfl (EvP.newC (b := .cells [] 3 false) (mk := .slice 0 0 true) S0 1 rfl rfl (by decide) (fun h1 id1 col1 A1 S1 o1 c1 _ => ?_)))
          have V1 : Vec col1 1 h1 3 1 (.slice id1 0 0 0 true) 0 [] := .mk (tail := []) o1 c1 rfl (fun _ => ⟨Nat.le_refl _, rfl⟩)
          obtain ⟨⟨p, s1, _, s3⟩, _⟩ := vec_parts (gt := gt) (V.le S1.le) hi
          repeat (first | refine EvO.plain rfl rfl rfl rfl rfl rfl ?_ | refine EvO.plain rfl rfl rfl rfl rfl (by assumption) ?_)
          (refine EvO.cons rfl rfl rfl (EvP_appendAny S1 V1 (by decide) s3 (ints_scalar _) (by simp; omega) rfl rfl rfl rfl rfl rfl rfl rfl rfl rfl (by show (0 + i) * 8 ≤ 70368744177664; omega) (by omega) (fun v2 h2 col2 A2 S2 V2 => ?_)))
          clear s1
          repeat (first | refine EvO.plain rfl rfl rfl rfl rfl rfl ?_ | refine EvC.seq ?_ | refine EvC.region rfl ?_ | refine EvO.nil ?_ | refine at_normal ?_)
          (refine EvO.cons rfl rfl rfl (EvP.newR (b := .cells [.int .i64 x] 3 false) (mk := .slice 1 1 true) S2 rfl rfl (fun h3 id3 A3 S3 hle3 o3 _ _ => ?_)))
          (refine EvO.cons rfl rfl rfl (EvP.appendC S3 (V2.step A3 S2.wf (fun e => e)) (by decide) rfl rfl rfl rfl rfl rfl rfl rfl rfl (by decide) rfl rfl (afirst_all o3 rfl) rfl (by decide) rfl (by show (0 + i + 1) * 8 ≤ 70368744177664; omega) (by show 0 + i + 1 ≤ 1099511627776; omega) (fun v4 h4 col4 A4 S4 V4 => ?_)))
          obtain ⟨_, ⟨q, s4, s5⟩⟩ := vec_parts (gt := gt) (V.le (AH.le.trans' hle3 S4.le)) hi
          repeat (first | refine EvO.plain rfl rfl rfl rfl rfl rfl ?_ | refine EvO.plain rfl rfl rfl rfl rfl (by assumption) ?_ | refine EvC.seq ?_ | refine EvC.region rfl ?_ | refine EvO.nil ?_ | refine at_normal ?_)
          (refine EvO.cons rfl rfl rfl (EvP_appendAny S4 V4 (by decide) s5 (ints_scalar _) (by simp) rfl rfl rfl rfl rfl rfl rfl rfl rfl rfl (by show (0 + i + 1 + (l.length - i)) * 8 ≤ 70368744177664; omega) (by omega) (fun v5 h5 col5 A5 S5 V5 => ?_)))
          repeat (first | refine EvO.plain rfl rfl rfl rfl rfl rfl ?_ | refine EvO.nil ?_ | refine at_normal ?_ | refine EvC.ret ?_)
          (refine ret_is (v := v5) rfl rfl ?_)
          have AA := (((A1.trans A2).trans (A3.mono (fun _ e => e.elim))).trans A4).trans A5
          obtain ⟨G', g1, g2, g3⟩ := publishV S AA (by decide) V5 (by decide)
          have hcells : [] ++ (l.take i).map (AV.int .i64) ++ [AV.int .i64 x] ++ (l.drop i).map (AV.int .i64) = (l.take i ++ [x] ++ l.drop i).map (AV.int .i64) := by simp
          have hlen : 0 + i + 1 + (l.length - i) = (l.take i ++ [x] ++ l.drop i).length := by simp; omega
          rw [hcells, hlen] at g3
          refine ⟨Step.hide S AA (by decide), G', _, g1, g2, g3, sortK_put hs hin hlo hhi hi, fun y => ?_, by simp; omega⟩
          have hm : y ∈ l ↔ y ∈ l.take i ∨ y ∈ l.drop i := by rw [← List.mem_append, List.take_append_drop]
          rw [hm]
          simp only [List.mem_append, List.mem_singleton]
          constructor
          · rintro ((h | h) | h)
            · exact .inr (.inl h)
            · exact .inl h
            · exact .inr (.inr h)
          · rintro (h | h | h)
            · exact .inl (.inr h)
            · exact .inl (.inl h)
            · exact .inr h
end Pf
end Go.Proofs.YtfjloafebkjadaaGreatDoor
