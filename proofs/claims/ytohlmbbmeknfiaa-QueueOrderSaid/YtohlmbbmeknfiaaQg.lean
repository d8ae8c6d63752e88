/- The law's run. -/
import Derived.Test.YtohlmbbmeknfiaaQf
namespace Go.Proofs.Ytohlmbbmeknfiaa
namespace Pf
open Go Go.AI Go.AI.Q Go.Proofs
variable {gt : Tree (List AV)}
theorem awake_spec {h : AH} : EvF (TT gt) X 8 [] h (fun r h' => h' = h ∧ r = .bool true) := EvF.oracle (fn := af Try.f8) rfl rfl (Nat.le_refl _) ⟨rfl, rfl⟩
theorem due_no {l : List It} {i : Nat} (hi : i < l.length) (h : ¬ okP (at' l i)) : dueL (l.take (i + 1)) = dueL (l.take i) := by
  rw [dueL_next hi]; unfold dueS; rw [if_neg h]
theorem due_yes {l : List It} {i : Nat} (hi : i < l.length) (h : okP (at' l i)) : dueL (l.take (i + 1)) = mput (dueL (l.take i)) (at' l i).1 (.int .i64 (at' l i).2) := by
  rw [dueL_next hi]; unfold dueS; rw [if_pos h]
theorem asc_at {out : List Int} (h : out.Pairwise (· < ·)) {j : Nat} (hj : j < out.length) (h0 : 0 < j) : out.getD (j - 1) 0 < out.getD j 0 := by
  rw [List.pairwise_iff_getElem] at h
  rw [List.getD_eq_getElem?_getD, List.getD_eq_getElem?_getD, List.getElem?_eq_getElem (by omega), List.getElem?_eq_getElem hj]
  exact h (j - 1) j (by omega) hj (by omega)
theorem vec_int {col : Nat → Nat} {c : Nat} {h : AH} {v : AV} {l : List Int} (V : Vec col c h 3 1 v l.length (l.map (AV.int .i64))) {i : Int} (h0 : 0 ≤ i) (hi : i < l.length) : ∃ p, aindexAddr (TT gt) 29 v (.int .i64 i) = some p ∧ aload (TT gt) h 3 p = some (.int .i64 (l.getD i.toNat 0)) := by
  have hOB := V.at1 (T := TT gt) (t := 29) (k := .i64) (i := i) rfl rfl rfl rfl h0 hi
  obtain ⟨p, u, a1, a2, a3⟩ := hOB
  refine ⟨p, a1, ?_⟩
  rw [List.getElem?_map, List.getElem?_eq_getElem (by omega)] at a3
  rw [List.getD_eq_getElem?_getD, List.getElem?_eq_getElem (by omega), a2, ← a3]; rfl
theorem getD_in {l : List Int} {i : Nat} (h : i < l.length) : l.getD i 0 ∈ l := by
  rw [List.getD_eq_getElem?_getD, List.getElem?_eq_getElem h]; exact List.getElem_mem h
set_option maxHeartbeats 4000000 in
theorem all_law {h : AH} (hw : WF h) {v : AV} {l : List It} (row : PairsAt h v l) :
    EvF (TT gt) X 3 [v] h (fun r _ => r = .bool true) := by
  have wake : ∀ {h' : AH}, EvF (TT gt) X 8 [] h' (fun r h'' => h'' = h' ∧ r = .bool true) := awake_spec
  have ln := fun h' => RowOf.len_any (T := TT gt) (t := 22) row rfl h'
  have ln0 := ln h
  refine EvF.enter rfl rfl rfl ?_
  repeat (first | refine EvO.plain rfl rfl rfl rfl rfl rfl ?_ | refine EvO.plain rfl rfl rfl rfl rfl (by assumption) ?_ | refine EvC.seq ?_ | refine EvC.region rfl ?_ | refine EvO.nil ?_ | refine at_normal ?_)
  refine EvC.decide rfl (fun hc => ?_) (fun hc => ?_)
  · repeat (first | refine EvC.seq ?_ | refine EvC.region rfl ?_)
    (refine EvO.cons rfl rfl rfl (EvP.callF rfl rfl rfl rfl (EvF.mono (wake) ?_)))
    rintro _ h1 _ ⟨rfl, rfl⟩
    repeat (first | refine EvO.plain rfl rfl rfl rfl rfl rfl ?_ | refine EvO.nil ?_ | refine at_normal ?_ | refine EvC.ret ?_ | refine at_ret ?_)
    (refine ret_is (v := .bool true) rfl rfl ?_)
    rfl
  · have hl : l.length ≤ 300 := by omega
    clear ln0
    repeat (first | refine EvO.plain rfl rfl rfl rfl rfl rfl ?_ | refine EvC.seq ?_ | refine EvC.region rfl ?_ | refine at_normal ?_ | refine EvC.skip ?_)
    (refine EvO.cons rfl rfl rfl (EvP.callF rfl rfl rfl rfl (EvF.mono (filled_spec hw row hl) ?_)))
    rintro _ h1 _ ⟨hle1, p, mv, G, col, hv, hp, m, rfl, hG, q1, fr, f45, R, hpl⟩
    repeat (first | refine EvO.plain rfl rfl rfl rfl rfl rfl ?_ | refine EvC.seq ?_ | refine EvC.region rfl ?_ | refine EvO.nil ?_ | refine at_normal ?_)
    (refine EvO.cons rfl rfl rfl (EvP.newC (b := .map [] 0) (mk := .map) q1.hs 4 rfl rfl (by decide) (fun h2 dr col2 A2 S2 o2 c2 _ => ?_)))
    have q2 := q1.other A2 (fun _ e => by rw [e]; decide) S2
    have M2 : MapI col2 4 h2 (.map dr) [] := .new o2 c2
    have fr2 := Free.step fr A2 (fun _ e => by rw [e]; exact ⟨by decide, by decide⟩)
    have ln2 := ln h2
    repeat (first | refine EvO.plain rfl rfl rfl rfl rfl rfl ?_ | refine EvO.plain rfl rfl rfl rfl rfl (by assumption) ?_ | refine EvC.seq ?_ | refine EvC.region rfl ?_ | refine EvO.nil ?_ | refine at_normal ?_ | refine EvC.block ?_)
    clear ln2
    refine EvC.loop (fun c σ h' => ∃ (i : Nat) (col' : Nat → Nat) (E : Nat → AV), QAt G h' col' p hv mv hp m ∧ MapI col' 4 h' (.map dr) (dueL (l.take i)) ∧ Free col' ∧ i ≤ l.length ∧ c = l.length - i ∧ σ = upds [(3, .ptr p 0), (4, .map dr), (26, v), (27, .int .i64 l.length), (28, .int .i64 i)] E) (l.length) ?_ ?_
    · exact ⟨0, col2, _, q2, M2, fr2, Nat.zero_le _, rfl, hold ⟨rfl, rfl, rfl, rfl, rfl, trivial⟩⟩
    · clear q2 M2 fr2 A2 S2 o2 c2 q1 fr f45 hle1
      rintro _ _ h3 ⟨i, col3, E, q3, M3, fr3, hi, rfl, rfl⟩
      have hle3 : h.le h3 := AH.le.trans' hG q3.hs.le
      repeat (first | refine EvO.plain rfl rfl rfl rfl rfl rfl ?_ | refine EvC.seq ?_ | refine EvC.region rfl ?_ | refine EvO.nil ?_ | refine at_normal ?_)
      refine EvC.decide rfl (fun hc => ?_) (fun hc => ?_)
      · have hlt : i < l.length := by omega
        have hOB := (RowOf.mono hle3 row).atN (T := TT gt) (t := 22) (e := 27) rfl rfl rfl rfl (k := .i64) (i := (i : Int)) (by omega) (by omega)
        obtain ⟨pp, a1, a2⟩ := hOB
        rw [Int.toNat_natCast] at a2
        repeat (first | refine EvO.plain rfl rfl rfl rfl rfl (by assumption) ?_ | refine EvC.seq ?_ | refine EvC.region rfl ?_ | refine at_normal ?_ | refine EvC.skip ?_ | refine EvC.block ?_)
        (refine EvO.cons rfl rfl rfl (EvP.newC (b := .cells (itC z) 27 false) (mk := .ptr) q3.hs 6 rfl rfl (by decide) (fun h4 i4 col4 A4 S4 o4 c4 _ => ?_)))
        clear a1 a2
        skip
        (refine EvO.cons0 rfl rfl (EvP.storeC (v := .agg (itC (at' l i))) S4 6 o4 c4 (by decide) rfl rfl rfl rfl rfl (by show 0 + 2 ≤ 2; decide) (fun h5 A5 S5 o5 _ _ => ?_)))
        have o5 : h5.t.get i4 = some (.cells (itC (at' l i)) 27 false) := o5
        have B5 : Step (fun c => c = 6) col3 h3 col4 h5 := A4.trans A5
        have q5 := q3.other B5 (fun _ e => by rw [e]; decide) S5
        have M5 := M3.step B5 q3.hs.wf (by decide)
        have fr5 := Free.step fr3 B5 (fun _ e => by rw [e]; exact ⟨by decide, by decide⟩)
        have f1 := load1 (T := TT gt) (t := 3) (off := 0) o5 rfl rfl rfl
        have f2 := load1 (T := TT gt) (t := 3) (off := 1) o5 rfl rfl rfl
        have fin : ∀ {σ : Nat → AV} {E : Nat → AV}, ¬ okP (at' l i) → σ = upds [(3, .ptr p 0), (4, .map dr), (26, v), (27, .int .i64 l.length), (28, .int .i64 ((i : Int) + 1))] E → ∃ m', m' < l.length - i ∧ ∃ (i : Nat) (col' : Nat → Nat) (E : Nat → AV), QAt G h5 col' p hv mv hp m ∧ MapI col' 4 h5 (.map dr) (dueL (l.take i)) ∧ Free col' ∧ i ≤ l.length ∧ m' = l.length - i ∧ σ = upds [(3, .ptr p 0), (4, .map dr), (26, v), (27, .int .i64 l.length), (28, .int .i64 i)] E := fun {σ E} ho hs => ⟨l.length - (i + 1), by omega, i + 1, col4, E, q5, by rw [due_no hlt ho]; exact M5, fr5, by omega, rfl, hs⟩
        clear A4 S4 o4 c4 A5 q3 M3
        repeat (first | refine EvO.plain rfl rfl rfl rfl rfl rfl ?_ | refine EvO.plain rfl rfl rfl rfl rfl (by assumption) ?_ | refine EvC.seq ?_ | refine EvC.region rfl ?_ | refine EvO.nil ?_ | refine at_normal ?_)
        (refine EvO.cons rfl rfl rfl (EvP.bool rfl rfl (fun q1 => ?_) (fun q1 => ?_)))
        · have q1 := of_decide_eq_true q1
          repeat (first | refine EvO.plain rfl rfl rfl rfl rfl rfl ?_ | refine EvO.plainOn rfl rfl rfl rfl rfl rfl ?_ | refine EvO.plainOn rfl rfl rfl rfl rfl (by assumption) ?_)
          (refine EvO.on rfl rfl rfl (EvP.bool rfl rfl (fun q2 => ?_) (fun q2 => ?_)))
          · have q2 := of_decide_eq_true q2
            repeat (first | refine EvO.plain rfl rfl rfl rfl rfl rfl ?_ | refine EvO.plainOn rfl rfl rfl rfl rfl rfl ?_ | refine EvO.plainOn rfl rfl rfl rfl rfl (by assumption) ?_)
            (refine EvO.on rfl rfl rfl (EvP.bool rfl rfl (fun q3 => ?_) (fun q3 => ?_)))
            · have q3 := of_decide_eq_true q3
              repeat (first | refine EvO.plain rfl rfl rfl rfl rfl rfl ?_ | refine EvO.plainOn rfl rfl rfl rfl rfl rfl ?_ | refine EvO.plainOn rfl rfl rfl rfl rfl (by assumption) ?_)
              (refine EvO.on rfl rfl rfl (EvP.bool rfl rfl (fun q4 => ?_) (fun q4 => ?_)))
              · have q4 := of_decide_eq_true q4
                have ok : okP (at' l i) := by unfold okP; omega
                repeat (first | refine EvO.plain rfl rfl rfl rfl rfl rfl ?_ | refine EvO.nil ?_ | refine at_normal ?_)
                refine EvC.cond (t := true) rfl (fun _ => ?_) (fun e => nomatch e)
                repeat (first | refine EvO.plain rfl rfl rfl rfl rfl rfl ?_ | refine EvO.plain rfl rfl rfl rfl rfl (by assumption) ?_ | refine EvC.region rfl ?_)
                (refine EvO.cons0 rfl rfl (EvP.mapPut S5 M5 (by decide) keyed_map rfl rfl rfl (fun h6 A6 S6 M6 => ?_)))
                have q6 := q5.other A6 (fun _ e => by rw [e]; decide) S6
                clear f1 f2
                repeat (first | refine EvO.plain rfl rfl rfl rfl rfl rfl ?_ | refine EvC.region rfl ?_ | refine EvO.nil ?_ | refine at_normal ?_ | refine be_normal ?_ | refine ro_normal ?_ | refine EvO.cons rfl rfl rfl (EvP.add64 rfl rfl (by omega) ?_))
                exact ⟨l.length - (i + 1), by omega, i + 1, col4, _, q6, by rw [due_yes hlt ok]; exact M6, fr5, by omega, rfl, hold ⟨rfl, rfl, rfl, rfl, rfl, trivial⟩⟩
              · have q4 := of_decide_eq_false q4
                repeat (first | refine EvO.plain rfl rfl rfl rfl rfl rfl ?_ | refine EvO.nil ?_ | refine at_normal ?_)
                refine EvC.cond (t := false) rfl (fun e => nomatch e) (fun _ => ?_)
                clear f1 f2
                repeat (first | refine EvO.plain rfl rfl rfl rfl rfl rfl ?_ | refine EvC.region rfl ?_ | refine EvO.nil ?_ | refine at_normal ?_ | refine EvC.skip ?_ | refine be_normal ?_ | refine ro_normal ?_ | refine EvO.cons rfl rfl rfl (EvP.add64 rfl rfl (by omega) ?_))
                exact fin (fun e => by unfold okP at e; omega) (hold ⟨rfl, rfl, rfl, rfl, rfl, trivial⟩)
            · have q3 := of_decide_eq_false q3
              repeat (first | refine EvO.plain rfl rfl rfl rfl rfl rfl ?_ | refine EvO.nil ?_ | refine at_normal ?_ | refine EvO.off rfl rfl rfl ?_)
              refine EvC.cond (t := false) rfl (fun e => nomatch e) (fun _ => ?_)
              clear f1 f2
              repeat (first | refine EvO.plain rfl rfl rfl rfl rfl rfl ?_ | refine EvC.region rfl ?_ | refine EvO.nil ?_ | refine at_normal ?_ | refine EvC.skip ?_ | refine be_normal ?_ | refine ro_normal ?_ | refine EvO.cons rfl rfl rfl (EvP.add64 rfl rfl (by omega) ?_))
              exact fin (fun e => by unfold okP at e; omega) (hold ⟨rfl, rfl, rfl, rfl, rfl, trivial⟩)
          · have q2 := of_decide_eq_false q2
            repeat (first | refine EvO.plain rfl rfl rfl rfl rfl rfl ?_ | refine EvO.nil ?_ | refine at_normal ?_ | refine EvO.off rfl rfl rfl ?_)
            refine EvC.cond (t := false) rfl (fun e => nomatch e) (fun _ => ?_)
            clear f1 f2
            repeat (first | refine EvO.plain rfl rfl rfl rfl rfl rfl ?_ | refine EvC.region rfl ?_ | refine EvO.nil ?_ | refine at_normal ?_ | refine EvC.skip ?_ | refine be_normal ?_ | refine ro_normal ?_ | refine EvO.cons rfl rfl rfl (EvP.add64 rfl rfl (by omega) ?_))
            exact fin (fun e => by unfold okP at e; omega) (hold ⟨rfl, rfl, rfl, rfl, rfl, trivial⟩)
        · have q1 := of_decide_eq_false q1
          repeat (first | refine EvO.plain rfl rfl rfl rfl rfl rfl ?_ | refine EvO.nil ?_ | refine at_normal ?_ | refine EvO.off rfl rfl rfl ?_)
          refine EvC.cond (t := false) rfl (fun e => nomatch e) (fun _ => ?_)
          clear f1 f2
          repeat (first | refine EvO.plain rfl rfl rfl rfl rfl rfl ?_ | refine EvC.region rfl ?_ | refine EvO.nil ?_ | refine at_normal ?_ | refine EvC.skip ?_ | refine be_normal ?_ | refine ro_normal ?_ | refine EvO.cons rfl rfl rfl (EvP.add64 rfl rfl (by omega) ?_))
          exact fin (fun e => by unfold okP at e; omega) (hold ⟨rfl, rfl, rfl, rfl, rfl, trivial⟩)
      · have hOB : i = l.length := by omega
        obtain rfl := hOB
        rw [List.take_length] at M3
        generalize hD : dueL l = D at *
        have lm := M3.len (T := TT gt) (t := 26) rfl
        repeat (first | refine EvO.plain rfl rfl rfl rfl rfl rfl ?_ | refine EvC.seq ?_ | refine EvC.region rfl ?_ | refine at_normal ?_ | refine EvC.exit ?_ | refine at_exit ?_ | refine be_same rfl ?_ | refine ro_exit ?_)
        (refine EvO.cons rfl rfl rfl (EvP.callF rfl rfl rfl rfl (EvF.mono (Len_spec q3) ?_)))
        rintro _ h3 _ ⟨rfl, rfl⟩
        rw [← R.len] at lm
        repeat (first | refine EvO.plain rfl rfl rfl rfl rfl rfl ?_ | refine EvO.plain rfl rfl rfl rfl rfl (by assumption) ?_ | refine EvO.nil ?_ | refine at_normal ?_)
        refine EvC.cond (t := false) (isT (bne_self_eq_false _)) (fun e => nomatch e) (fun _ => ?_)
        repeat (first | refine EvO.plain rfl rfl rfl rfl rfl rfl ?_ | refine EvO.plain rfl rfl rfl rfl rfl (by assumption) ?_ | refine EvC.seq ?_ | refine EvC.region rfl ?_ | refine EvO.nil ?_ | refine at_normal ?_ | refine EvC.skip ?_ | refine EvC.block ?_)
        clear lm
        refine EvC.loop (fun c σ h' => ∃ (col' : Nat → Nat) (hv' : AV) (cur : List It) (m' : List (Int × AV)) (b : Int) (E : Nat → AV), QAt G h' col' p hv' mv cur m' ∧ MapI col' 4 h' (.map dr) D ∧ Free col' ∧ Hp cur ∧ (∀ x, In cur x → mget D x.2 = some (.int .i64 x.1)) ∧ (∀ x, In cur x → b < x.1) ∧ cur.length ≤ 300 ∧ c = cur.length ∧ σ = upds [(3, .ptr p 0), (4, .map dr), (7, .int .i64 cur.length), (8, .int .i64 b)] E) (hp.length) ?_ ?_
        · exact ⟨col3, hv, hp, m, -1, _, q3, M3, fr3, R.heap, fun x hx => (R.here x).1 hx, fun x hx => by have := (R.rng x hx).1; omega, hpl, rfl, hold ⟨rfl, rfl, rfl, rfl, trivial⟩⟩
        · clear q3 M3 fr3 hc hi hle3 hpl R
          rintro _ _ h4 ⟨col4, hv4, hp4, m4, b, E, q4, M4, fr4, H4, hin4, hb4, hl4, rfl, rfl⟩
          repeat (first | refine EvO.plain rfl rfl rfl rfl rfl rfl ?_ | refine EvC.seq ?_ | refine EvC.region rfl ?_ | refine EvO.nil ?_ | refine at_normal ?_)
          refine EvC.decide rfl (fun hc => ?_) (fun hc => ?_)
          · repeat (first | refine EvO.plain rfl rfl rfl rfl rfl rfl ?_ | refine EvC.seq ?_ | refine EvC.region rfl ?_ | refine at_normal ?_ | refine EvC.skip ?_ | refine EvC.block ?_)
            (refine EvO.cons rfl rfl rfl (EvP.callF rfl rfl rfl rfl (EvF.mono (Take_spec q4 fr4 H4) ?_)))
            rintro r h5 _ hr
            rcases hr with ⟨h0, _, _⟩ | ⟨h0, ov, out, col5, hv5, cur, m5, rfl, A5, q5, V5, T5, hn5⟩
            · rw [h0] at hc; exact absurd hc (by decide)
            · have M5 := M4.step A5 q4.hs.wf (by rintro ((e | e | e) | e) <;> cases e)
              have fr5 := Free.step fr4 A5 r4_free
              have hbn := hb4 _ (in0 h0)
              have hne : out ≠ [] := fun e => by
                have := T5.first e
                rw [this] at hn5
                exact hn5 _ (in0 h0) rfl
              have hlo : 0 < out.length := List.length_pos_iff.2 hne
              have hlen := T5.len
              have lo := fun h' => V5.row.len_any (T := TT gt) (t := 29) rfl h'
              have lo5 := lo h5
              generalize hnow : (at' hp4 0).1 = now at *
              repeat (first | refine EvO.plain rfl rfl rfl rfl rfl rfl ?_ | refine EvC.seq ?_ | refine EvC.region rfl ?_ | refine EvO.nil ?_ | refine at_normal ?_)
              refine EvO.cons rfl rfl rfl (EvP.quiet rfl (isB (q := false) rfl) ?_)
              repeat (first | refine EvO.plain rfl rfl rfl rfl rfl rfl ?_ | refine EvO.plainOn rfl rfl rfl rfl rfl rfl ?_)
              refine EvO.on rfl rfl rfl (EvP.quiet rfl (isB (q := false) (decide_eq_false (by omega))) ?_)
              repeat (first | refine EvO.plain rfl rfl rfl rfl rfl rfl ?_ | refine EvO.plainOn rfl rfl rfl rfl rfl rfl ?_ | refine EvO.plainOn rfl rfl rfl rfl rfl (by assumption) ?_)
              refine EvO.on rfl rfl rfl (EvP.quiet rfl (isB (q := false) (by rw [beq_eq_false_iff_ne]; omega)) ?_)
              repeat (first | refine EvO.plain rfl rfl rfl rfl rfl rfl ?_ | refine EvO.plainOn rfl rfl rfl rfl rfl rfl ?_ | refine EvO.plainOn rfl rfl rfl rfl rfl (by assumption) ?_)
              refine EvO.on rfl rfl rfl (EvP.quiet rfl (isB (q := false) (decide_eq_false (by omega))) ?_)
              repeat (first | refine EvO.plain rfl rfl rfl rfl rfl rfl ?_ | refine EvO.nil ?_ | refine at_normal ?_)
              refine EvC.cond (t := false) rfl (fun e => nomatch e) (fun _ => ?_)
              repeat (first | refine EvO.plain rfl rfl rfl rfl rfl rfl ?_ | refine EvO.plain rfl rfl rfl rfl rfl (by assumption) ?_ | refine EvC.seq ?_ | refine EvC.region rfl ?_ | refine EvO.nil ?_ | refine at_normal ?_ | refine EvC.skip ?_ | refine EvC.block ?_)
              clear lo5
              refine EvC.loop (fun c σ h' => ∃ (j : Nat) (E : Nat → AV), h' = h5 ∧ j ≤ out.length ∧ c = out.length - j ∧ σ = upds [(3, .ptr p 0), (4, .map dr), (7, .int .i64 hp4.length), (9, .int .i64 now), (10, ov), (89, ov), (90, .int .i64 out.length), (91, .int .i64 j)] E) (out.length) ?_ ?_
              · exact ⟨0, _, rfl, Nat.zero_le _, rfl, hold ⟨rfl, rfl, rfl, rfl, rfl, rfl, rfl, rfl, trivial⟩⟩
              · rintro _ _ h6 ⟨j, E, rfl, hj, rfl, rfl⟩
                repeat (first | refine EvO.plain rfl rfl rfl rfl rfl rfl ?_ | refine EvC.seq ?_ | refine EvC.region rfl ?_ | refine EvO.nil ?_ | refine at_normal ?_)
                refine EvC.decide rfl (fun hcj => ?_) (fun hcj => ?_)
                · have hjl : j < out.length := by omega
                  have hOB := vec_int (gt := gt) V5 (i := (j : Int)) (by omega) (by omega)
                  obtain ⟨pk, a1, a2⟩ := hOB
                  rw [Int.toNat_natCast] at a2
                  have hmk := hin4 _ (T5.outs _ (getD_in hjl))
                  have lk := M5.look2 (T := TT gt) keyed_map (out.getD j 0)
                  rw [hmk] at lk
                  have lk : alookup (TT gt) h6 26 (.map dr) (.int .i64 (out.getD j 0)) true = some (.tuple [.int .i64 now, .bool true]) := lk
                  repeat (first | refine EvO.plain rfl rfl rfl rfl rfl rfl ?_ | refine EvO.plain rfl rfl rfl rfl rfl (by assumption) ?_ | refine EvC.seq ?_ | refine EvC.region rfl ?_ | refine EvO.nil ?_ | refine at_normal ?_ | refine EvC.skip ?_ | refine EvC.block ?_ | refine EvO.plainOn rfl rfl rfl rfl rfl rfl ?_)
                  refine EvO.on rfl rfl rfl (EvP.quiet rfl (isB (q := false) (bne_self_eq_false _)) ?_)
                  repeat (first | refine EvO.plain rfl rfl rfl rfl rfl rfl ?_ | refine EvO.plainOn rfl rfl rfl rfl rfl rfl ?_)
                  (refine EvO.on rfl rfl rfl (EvP.bool rfl rfl (fun q1 => ?_) (fun q1 => ?_)))
                  · have q1 := of_decide_eq_true q1
                    have hasc := asc_at T5.asc hjl (by omega)
                    have hOB := vec_int (gt := gt) V5 (i := (j : Int) - 1) (by omega) (by omega)
                    obtain ⟨pl, b1, b2⟩ := hOB
                    rw [show ((j : Int) - 1).toNat = j - 1 by omega] at b2
                    clear a1 a2 lk
                    repeat (first | refine EvO.plainOn rfl rfl rfl rfl rfl rfl ?_ | refine EvO.plainOn rfl rfl rfl rfl rfl (by assumption) ?_ | refine EvO.on rfl rfl rfl (EvP.sub64 rfl rfl (by omega) ?_))
                    refine EvO.on rfl rfl rfl (EvP.quiet rfl (isB (q := false) (decide_eq_false (by omega))) ?_)
                    repeat (first | refine EvO.plain rfl rfl rfl rfl rfl rfl ?_ | refine EvO.nil ?_ | refine at_normal ?_ | refine EvO.plainOn rfl rfl rfl rfl rfl rfl ?_)
                    refine EvC.cond (t := false) rfl (fun e => nomatch e) (fun _ => ?_)
                    clear b1 b2
                    repeat (first | refine EvO.plain rfl rfl rfl rfl rfl rfl ?_ | refine EvC.region rfl ?_ | refine EvO.nil ?_ | refine at_normal ?_ | refine EvC.skip ?_ | refine be_normal ?_ | refine ro_normal ?_ | refine EvO.cons rfl rfl rfl (EvP.add64 rfl rfl (by omega) ?_))
                    exact ⟨out.length - (j + 1), by omega, j + 1, _, rfl, by omega, rfl, hold ⟨rfl, rfl, rfl, rfl, rfl, rfl, rfl, rfl, trivial⟩⟩
                  · have q1 := of_decide_eq_false q1
                    clear a1 a2 lk
                    repeat (first | refine EvO.plain rfl rfl rfl rfl rfl rfl ?_ | refine EvO.nil ?_ | refine at_normal ?_ | refine EvO.off rfl rfl rfl ?_ | refine EvO.plainOn rfl rfl rfl rfl rfl rfl ?_)
                    refine EvC.cond (t := false) rfl (fun e => nomatch e) (fun _ => ?_)
                    repeat (first | refine EvO.plain rfl rfl rfl rfl rfl rfl ?_ | refine EvC.region rfl ?_ | refine EvO.nil ?_ | refine at_normal ?_ | refine EvC.skip ?_ | refine be_normal ?_ | refine ro_normal ?_ | refine EvO.cons rfl rfl rfl (EvP.add64 rfl rfl (by omega) ?_))
                    exact ⟨out.length - (j + 1), by omega, j + 1, _, rfl, by omega, rfl, hold ⟨rfl, rfl, rfl, rfl, rfl, rfl, rfl, rfl, trivial⟩⟩
                · have lo6 := lo h6
                  repeat (first | refine EvO.plain rfl rfl rfl rfl rfl rfl ?_ | refine EvO.plain rfl rfl rfl rfl rfl (by assumption) ?_ | refine EvC.seq ?_ | refine EvC.region rfl ?_ | refine EvO.nil ?_ | refine at_normal ?_ | refine EvC.exit ?_ | refine at_exit ?_ | refine be_same rfl ?_ | refine ro_exit ?_ | refine be_normal ?_ | refine ro_normal ?_ | refine EvO.cons rfl rfl rfl (EvP.sub64 rfl rfl (by omega) ?_))
                  exact ⟨cur.length, by omega, col5, hv5, cur, m5, now, _, q5, M5, fr5, T5.heap, fun x hx => hin4 x (T5.sub x hx), fun x hx => by have h1 := T5.ge x hx; have h2 := hn5 x hx; omega, by omega, rfl, hold ⟨rfl, rfl, congrArg (AV.int .i64) (by omega), rfl, trivial⟩⟩
          · have h0 : hp4 = [] := List.eq_nil_of_length_eq_zero (by omega)
            repeat (first | refine EvO.plain rfl rfl rfl rfl rfl rfl ?_ | refine EvC.seq ?_ | refine EvC.region rfl ?_ | refine at_normal ?_ | refine EvC.exit ?_ | refine at_exit ?_ | refine be_same rfl ?_ | refine ro_exit ?_)
            (refine EvO.cons rfl rfl rfl (EvP.callF rfl rfl rfl rfl (EvF.mono (Take_spec q4 fr4 H4) ?_)))
            rintro r h5 _ hr
            rcases hr with ⟨_, rfl, rfl⟩ | ⟨h1, _⟩
            · repeat (first | refine EvO.plain rfl rfl rfl rfl rfl rfl ?_ | refine EvC.seq ?_ | refine EvC.region rfl ?_ | refine EvO.nil ?_ | refine at_normal ?_)
              refine EvO.cons rfl rfl rfl (EvP.quiet rfl (isB (q := true) rfl) ?_)
              repeat (first | refine EvO.plain rfl rfl rfl rfl rfl rfl ?_ | refine EvO.plainOn rfl rfl rfl rfl rfl rfl ?_)
              refine EvO.on rfl rfl rfl (EvP.callF rfl rfl rfl rfl (EvF.mono (Len_spec q4) ?_))
              rintro _ h5 _ ⟨rfl, rfl⟩
              skip
              refine EvO.on rfl rfl rfl (EvP.quiet rfl (isB (q := true) (by rw [h0]; rfl)) ?_)
              repeat (refine EvO.plain rfl rfl rfl rfl rfl rfl ?_)
              refine EvO.on rfl rfl rfl (EvP.callF rfl rfl rfl rfl (EvF.mono (wake) ?_))
              rintro _ h6 _ ⟨rfl, rfl⟩
              repeat (first | refine EvO.plain rfl rfl rfl rfl rfl rfl ?_ | refine EvO.nil ?_ | refine at_normal ?_ | refine EvC.ret ?_)
              (refine ret_is (v := .bool true) rfl rfl ?_)
              rfl
            · rw [h0] at h1; exact absurd h1 (by decide)
end Pf
end Go.Proofs.Ytohlmbbmeknfiaa
