/- What Put and Take do. -/
import Derived.Test.YtohlmbbmeknfiaaQd
namespace Go.Proofs.Ytohlmbbmeknfiaa
namespace Pf
open Go Go.AI Go.AI.Q Go.Proofs
variable {gt : Tree (List AV)}
theorem build_item (t k : Int) : abuild (TT gt) 60 [(0, .int .i64 t), (1, .int .i64 k)] = some (.agg (itC (t, k))) := rfl
theorem build_items (t k : Int) : abuildSlice (TT gt) 51 1 [(0, .agg (itC (t, k)))] = some (.cells (itC (t, k)) 60 false, .slice 1 1 true) := rfl
theorem cellsH_app (hp : List It) (x : It) : cellsH (hp ++ [x]) = cellsH hp ++ itC x := by unfold cellsH; rw [List.flatMap_append]; simp
set_option maxHeartbeats 4000000 in
theorem Put_spec {G h : AH} {col : Nat → Nat} {p : Nat} {hv mv : AV} {hp : List It} {m D : List (Int × AV)} (q : QAt G h col p hv mv hp m) (fr : Free col) (R : Rel hp D) (hs : hp.length < 2 ^ 19) (key tm : Int) :
    EvF (TT gt) X 15 [.ptr p 0, .int .i64 key, .int .i64 tm] h (fun r h' => ∃ col' hv' hp' m', Step R3 col h col' h' ∧ QAt G h' col' p hv' mv hp' m' ∧ Rel hp' (dueS D (key, tm)) ∧ hp'.length ≤ hp.length + 1) := by
  have bad : ¬ okP (key, tm) → dueS D (key, tm) = D := fun h => by unfold dueS; rw [if_neg h]
  have fm := q.fld (gt := gt) (t := 26) (off := 2) rfl rfl rfl
  refine EvF.enter rfl rfl rfl ?_
  repeat (first | refine EvO.plain rfl rfl rfl rfl rfl rfl ?_ | refine EvC.seq ?_ | refine EvC.region rfl ?_ | refine EvO.nil ?_ | refine at_normal ?_ | refine EvC.block ?_)
  (refine EvO.cons rfl rfl rfl (EvP.callF rfl rfl rfl rfl (EvF.mono (no_spec q) ?_)))
  rintro _ h _ ⟨rfl, rfl⟩
  repeat (first | refine EvO.plain rfl rfl rfl rfl rfl rfl ?_ | refine EvO.nil ?_ | refine at_normal ?_)
  refine EvC.cond (t := false) rfl (fun e => nomatch e) (fun _ => ?_)
  repeat (first | refine EvO.plain rfl rfl rfl rfl rfl rfl ?_ | refine EvC.seq ?_ | refine EvC.region rfl ?_)
  (refine EvO.cons rfl rfl rfl (EvP.bool rfl rfl (fun q1 => ?_) (fun q1 => ?_)))
  · have q1 := of_decide_eq_true q1
    repeat (first | refine EvO.plain rfl rfl rfl rfl rfl rfl ?_ | refine EvO.nil ?_ | refine at_normal ?_ | refine EvO.off rfl rfl rfl ?_)
    refine EvC.cond (t := true) rfl (fun _ => ?_) (fun e => nomatch e)
    repeat (first | refine EvO.plain rfl rfl rfl rfl rfl rfl ?_ | refine EvC.seq ?_ | refine EvC.region rfl ?_ | refine EvO.nil ?_ | refine at_normal ?_ | refine EvC.ret ?_ | refine at_ret ?_ | refine be_ret ?_)
    exact end_ret rfl ⟨col, hv, hp, m, Step.refl q.hs, q, by rw [bad (fun e => by unfold okP at e; simp only at e; omega)]; exact R, Nat.le_succ _⟩
  · have q1 := of_decide_eq_false q1
    repeat (first | refine EvO.plain rfl rfl rfl rfl rfl rfl ?_ | refine EvO.plainOn rfl rfl rfl rfl rfl rfl ?_)
    (refine EvO.on rfl rfl rfl (EvP.bool rfl rfl (fun q2 => ?_) (fun q2 => ?_)))
    · have q2 := of_decide_eq_true q2
      repeat (first | refine EvO.plain rfl rfl rfl rfl rfl rfl ?_ | refine EvO.nil ?_ | refine at_normal ?_ | refine EvO.off rfl rfl rfl ?_)
      refine EvC.cond (t := true) rfl (fun _ => ?_) (fun e => nomatch e)
      repeat (first | refine EvO.plain rfl rfl rfl rfl rfl rfl ?_ | refine EvC.seq ?_ | refine EvC.region rfl ?_ | refine EvO.nil ?_ | refine at_normal ?_ | refine EvC.ret ?_ | refine at_ret ?_ | refine be_ret ?_)
      exact end_ret rfl ⟨col, hv, hp, m, Step.refl q.hs, q, by rw [bad (fun e => by unfold okP at e; simp only at e; omega)]; exact R, Nat.le_succ _⟩
    · have q2 := of_decide_eq_false q2
      repeat (first | refine EvO.plain rfl rfl rfl rfl rfl rfl ?_ | refine EvO.plainOn rfl rfl rfl rfl rfl rfl ?_)
      (refine EvO.on rfl rfl rfl (EvP.bool rfl rfl (fun q3 => ?_) (fun q3 => ?_)))
      · have q3 := of_decide_eq_true q3
        repeat (first | refine EvO.plain rfl rfl rfl rfl rfl rfl ?_ | refine EvO.nil ?_ | refine at_normal ?_ | refine EvO.off rfl rfl rfl ?_)
        refine EvC.cond (t := true) rfl (fun _ => ?_) (fun e => nomatch e)
        repeat (first | refine EvO.plain rfl rfl rfl rfl rfl rfl ?_ | refine EvC.seq ?_ | refine EvC.region rfl ?_ | refine EvO.nil ?_ | refine at_normal ?_ | refine EvC.ret ?_ | refine at_ret ?_ | refine be_ret ?_)
        exact end_ret rfl ⟨col, hv, hp, m, Step.refl q.hs, q, by rw [bad (fun e => by unfold okP at e; simp only at e; omega)]; exact R, Nat.le_succ _⟩
      · have q3 := of_decide_eq_false q3
        repeat (first | refine EvO.plain rfl rfl rfl rfl rfl rfl ?_ | refine EvO.plainOn rfl rfl rfl rfl rfl rfl ?_)
        (refine EvO.on rfl rfl rfl (EvP.bool rfl rfl (fun q4 => ?_) (fun q4 => ?_)))
        · have q4 := of_decide_eq_true q4
          repeat (first | refine EvO.plain rfl rfl rfl rfl rfl rfl ?_ | refine EvO.nil ?_ | refine at_normal ?_)
          refine EvC.cond (t := true) rfl (fun _ => ?_) (fun e => nomatch e)
          repeat (first | refine EvO.plain rfl rfl rfl rfl rfl rfl ?_ | refine EvC.seq ?_ | refine EvC.region rfl ?_ | refine EvO.nil ?_ | refine at_normal ?_ | refine EvC.ret ?_ | refine at_ret ?_ | refine be_ret ?_)
          exact end_ret rfl ⟨col, hv, hp, m, Step.refl q.hs, q, by rw [bad (fun e => by unfold okP at e; simp only at e; omega)]; exact R, Nat.le_succ _⟩
        · have q4 := of_decide_eq_false q4
          have ok : okP (key, tm) := by unfold okP; simp only; omega
          have good : dueS D (key, tm) = mput D key (.int .i64 tm) := by unfold dueS; rw [if_pos ok]
          rw [good]
          repeat (first | refine EvO.plain rfl rfl rfl rfl rfl rfl ?_ | refine EvO.nil ?_ | refine at_normal ?_)
          refine EvC.cond (t := false) rfl (fun e => nomatch e) (fun _ => ?_)
          cases hg : mget m key with
          | some v =>
            have hOB := q.pos.only key v hg
            obtain ⟨i, hi, hki⟩ := hOB
            have hvi : v = .int .i64 i := by
              have := q.pos.here i hi
              rw [hki, hg] at this
              exact Option.some.inj this
            subst hvi
            have lk := q.map.look2 (T := TT gt) keyed_map key
            rw [hg] at lk
            have lk : alookup (TT gt) h 26 mv (.int .i64 key) true = some (.tuple [.int .i64 i, .bool true]) := lk
            have fq := q.fld (gt := gt) (t := 51) (off := 1) rfl rfl rfl
            have hOB := q.heap.at_ (T := TT gt) (t := 51) (t3 := 3) rfl rfl rfl rfl rfl rfl (k := .i64) (i := (i : Int)) (by omega) (by omega)
            obtain ⟨id, a1, a2, a3, a4⟩ := hOB
            rw [Int.toNat_natCast] at a1 a2 a3 a4
            repeat (first | refine EvO.plain rfl rfl rfl rfl rfl rfl ?_ | refine EvO.plain rfl rfl rfl rfl rfl (by assumption) ?_ | refine EvC.seq ?_ | refine EvC.region rfl ?_ | refine EvO.nil ?_ | refine at_normal ?_ | refine EvC.skip ?_ | refine be_normal ?_)
            refine EvC.cond (t := false) rfl (fun e => nomatch e) (fun _ => ?_)
            repeat (first | refine EvO.plain rfl rfl rfl rfl rfl rfl ?_ | refine EvO.plain rfl rfl rfl rfl rfl (by assumption) ?_ | refine EvC.seq ?_ | refine EvC.region rfl ?_ | refine at_normal ?_ | refine EvC.skip ?_)
            (refine EvO.cons0 rfl rfl (EvP.setTime q.hs q.heap (by decide) rfl rfl rfl rfl rfl hi a1 rfl rfl (fun h1 A1 S1 V1 _ => ?_)))
            rw [hki] at V1
            have P1 := q.pos.set hi tm
            rw [hki] at P1
            have q1' : QAt G h1 col p hv mv (hp.set i (tm, key)) m := ⟨S1, (A1.get q.hs.wf q.obj (by rw [q.cp]; decide)).1, q.cp, V1, q.map.step A1 q.hs.wf (by decide), P1, by rw [List.length_set]; exact q.sml⟩
            clear fq a1 a2 a3 a4 lk fm
            repeat (first | refine EvO.plain rfl rfl rfl rfl rfl rfl ?_ | refine EvC.seq ?_ | refine EvC.region rfl ?_ | refine EvO.nil ?_ | refine at_normal ?_)
            (refine EvO.cons rfl rfl rfl (EvP.callF rfl rfl rfl rfl (EvF.mono (settle_spec q1' fr (by rw [List.length_set]; exact hi) (But.set R.heap hi _)) ?_)))
            rintro _ h2 _ ⟨A2, hp2, m2, q2', s2, H2⟩
            repeat (first | refine EvO.plain rfl rfl rfl rfl rfl rfl ?_ | refine EvC.seq ?_ | refine EvC.region rfl ?_ | refine EvO.nil ?_ | refine at_normal ?_ | refine EvC.ret ?_)
            exact end_ret rfl ⟨col, hv, hp2, m2, (A1.mono fun _ e => .inr (.inl e)).trans A2, q2', R.set q.pos.kd hi ok hki H2 s2, by rw [s2.len, List.length_set]; omega⟩
          | none =>
            have lk := q.map.look2 (T := TT gt) keyed_map key
            rw [hg] at lk
            have lk : alookup (TT gt) h 26 mv (.int .i64 key) true = some (.tuple [.int .i64 0, .bool false]) := lk
            have fq := q.fld (gt := gt) (t := 51) (off := 1) rfl rfl rfl
            have ln := q.heap.row.len_any (T := TT gt) (t := 51) rfl h
            have hno : ∀ x, In hp x → x.2 ≠ key := fun x ⟨i, hi, e⟩ e2 => by
              have := q.pos.here i hi
              rw [e, e2, hg] at this
              cases this
            repeat (first | refine EvO.plain rfl rfl rfl rfl rfl rfl ?_ | refine EvO.plain rfl rfl rfl rfl rfl (by assumption) ?_ | refine EvC.seq ?_ | refine EvC.region rfl ?_ | refine EvO.nil ?_ | refine at_normal ?_ | refine EvC.skip ?_ | refine be_normal ?_)
            refine EvC.cond (t := true) rfl (fun _ => ?_) (fun e => nomatch e)
            repeat (first | refine EvO.plain rfl rfl rfl rfl rfl rfl ?_ | refine EvO.plain rfl rfl rfl rfl rfl (by assumption) ?_ | refine EvC.seq ?_ | refine EvC.region rfl ?_ | refine EvO.nil ?_ | refine at_normal ?_)
            (refine EvO.cons rfl rfl rfl (EvP.newR (b := .cells (itC (tm, key)) 60 false) (mk := .slice 1 1 true) q.hs rfl (build_items (gt := gt) tm key) (fun h1 id1 A1 S1 hle1 o1 _ _ => ?_)))
            have q1' := q.other A1 (fun _ e => e.elim) (S1.down hle1)
            (refine EvO.cons rfl rfl rfl (EvP.appendC q1'.hs q1'.heap (by decide) rfl rfl rfl rfl rfl rfl rfl rfl rfl (by decide) rfl rfl (afirst_all o1 rfl) rfl (by decide) rfl (by show (hp.length + 1) * 16 ≤ 70368744177664; omega) (by omega) (fun w2 h2 col2 A2 S2 V2 => ?_)))
            have V2 : HV col2 2 h2 60 w2 (hp ++ [(tm, key)]) := by unfold HV; rw [List.length_append, cellsH_app]; exact V2
            have hOB := A2.get q1'.hs.wf q1'.obj (by rw [q1'.cp]; decide)
            obtain ⟨ob2, cp2⟩ := hOB
            have cp2 := cp2.trans q1'.cp
            have M2 := q1'.map.step A2 q1'.hs.wf (by decide)
            clear fq ln lk fm
            repeat (refine EvO.plain rfl rfl rfl rfl rfl rfl ?_)
            (refine EvO.cons0 rfl rfl (EvP.store1 (u := w2) S2 1 ob2 cp2 (by decide) rfl rfl rfl rfl (HV.sc V2) (by show 1 < 3; decide) (fun h3 A3 S3 o3 _ _ => ?_)))
            have o3 : h3.t.get p = some (.cells [.bool true, w2, mv] 53 false) := o3
            have M3 := M2.step A3 S2.wf (by decide)
            have V3 : HV col2 2 h3 60 w2 (hp ++ [(tm, key)]) := V2.step A3 S2.wf (by decide)
            have fm := load1 (T := TT gt) (t := 26) (off := 2) o3 rfl rfl rfl
            repeat (first | refine EvO.plain rfl rfl rfl rfl rfl rfl ?_ | refine EvO.plain rfl rfl rfl rfl rfl (by assumption) ?_ | refine EvC.region rfl ?_ | refine EvO.nil ?_ | refine at_normal ?_)
            (refine EvO.cons0 rfl rfl (EvP.mapPut S3 M3 (by decide) keyed_map rfl rfl rfl (fun h4 A4 S4 M4 => ?_)))
            have o4 := (A4.get S3.wf o3 (by rw [cp2]; decide)).1
            have V4 : HV col2 2 h4 60 w2 (hp ++ [(tm, key)]) := V3.step A4 S3.wf (by decide)
            have la : (hp ++ [(tm, key)]).length = hp.length + 1 := by simp
            have ea : at' (hp ++ [(tm, key)]) hp.length = (tm, key) := by rw [at_app, if_neg (Nat.lt_irrefl _), if_pos rfl]
            have fq := load1 (T := TT gt) (t := 51) (off := 1) o4 rfl rfl rfl
            have hOB := V4.at_ (T := TT gt) (t := 51) (t3 := 3) rfl rfl rfl rfl rfl rfl (k := .i64) (i := (hp.length : Int)) (by omega) (by omega)
            obtain ⟨id, a1, a2, a3, a4⟩ := hOB
            rw [Int.toNat_natCast] at a1 a2 a3 a4
            clear fm
            repeat (first | refine EvO.plain rfl rfl rfl rfl rfl rfl ?_ | refine EvO.plain rfl rfl rfl rfl rfl (by assumption) ?_ | refine EvC.seq ?_ | refine EvC.region rfl ?_ | refine EvO.nil ?_ | refine at_normal ?_)
            (refine EvO.cons0 rfl rfl (EvP.setTime S4 V4 (by decide) rfl rfl rfl rfl rfl (by omega) a1 rfl rfl (fun h5 A5 S5 V5 _ => ?_)))
            have es : (hp ++ [(tm, key)]).set hp.length (tm, (at' (hp ++ [(tm, key)]) hp.length).2) = hp ++ [(tm, key)] := by
              rw [ea]; simp
            rw [es] at V5
            have q5 : QAt G h5 col2 p w2 mv (hp ++ [(tm, key)]) (mput m key (.int .i64 hp.length)) := ⟨S5, (A5.get S4.wf o4 (by rw [cp2]; decide)).1, cp2, V5, M4.step A5 S4.wf (by decide), q.pos.add hg, by rw [la]; omega⟩
            have C5 : Step R3 col h col2 h5 := ((((A1.mono fun _ e => e.elim).trans (A2.mono fun _ e => .inr (.inl e))).trans (A3.mono fun _ e => .inl e)).trans (A4.mono fun _ e => .inr (.inr e))).trans (A5.mono fun _ e => .inr (.inl e))
            have fr5 := fr.step C5 r3_free
            clear fq a1 a2 a3 a4
            repeat (first | refine EvO.plain rfl rfl rfl rfl rfl rfl ?_ | refine EvC.seq ?_ | refine EvC.region rfl ?_ | refine EvO.nil ?_ | refine at_normal ?_)
            (refine EvO.cons rfl rfl rfl (EvP.callF rfl rfl rfl rfl (EvF.mono (settle_spec q5 fr5 (by omega) (But.add R.heap _)) ?_)))
            rintro _ h6 _ ⟨A6, hp6, m6, q6, s6, H6⟩
            repeat (first | refine EvO.plain rfl rfl rfl rfl rfl rfl ?_ | refine EvC.seq ?_ | refine EvC.region rfl ?_ | refine EvO.nil ?_ | refine at_normal ?_ | refine EvC.ret ?_)
            exact end_ret rfl ⟨col2, w2, hp6, m6, C5.trans A6, q6, R.add ok hno H6 s6, by rw [s6.len, la]; exact Nat.le_refl _⟩
abbrev R4 : Nat → Prop := fun c => R3 c ∨ c = 5
theorem r4_free : ∀ c, R4 c → c ≠ 8 ∧ c ≠ 9 := fun c e => by rcases e with e | rfl; exact r3_free c e; decide
set_option maxHeartbeats 4000000 in
theorem Take_spec {G h : AH} {col : Nat → Nat} {p : Nat} {hv mv : AV} {hp : List It} {m : List (Int × AV)} (q : QAt G h col p hv mv hp m) (fr : Free col) (H : Hp hp) :
    EvF (TT gt) X 11 [.ptr p 0] h (fun r h' => (hp = [] ∧ h' = h ∧ r = .tuple [.int .i64 0, .nilSlice, .int .i64 4]) ∨
      (0 < hp.length ∧ ∃ ov out col' hv' cur m', r = .tuple [.int .i64 (at' hp 0).1, ov, .int .i64 0] ∧ Step R4 col h col' h' ∧ QAt G h' col' p hv' mv cur m' ∧ Vec col' 5 h' 3 1 ov out.length (out.map (AV.int .i64)) ∧ TakeI hp cur (at' hp 0).1 out ∧ ∀ x, In cur x → x.1 ≠ (at' hp 0).1)) := by
  have hs := q.sml
  refine EvF.enter rfl rfl rfl ?_
  repeat (first | refine EvO.plain rfl rfl rfl rfl rfl rfl ?_ | refine EvC.seq ?_ | refine EvC.region rfl ?_ | refine EvO.nil ?_ | refine at_normal ?_)
  (refine EvO.cons rfl rfl rfl (EvP.callF rfl rfl rfl rfl (EvF.mono (Least_spec q) ?_)))
  rintro r h _ ⟨rfl, hr⟩
  rcases hr with ⟨h0, rfl⟩ | ⟨h0, rfl⟩
  · repeat (first | refine EvO.plain rfl rfl rfl rfl rfl rfl ?_ | refine EvC.seq ?_ | refine EvC.region rfl ?_ | refine EvO.nil ?_ | refine at_normal ?_)
    refine EvC.cond (t := true) rfl (fun _ => ?_) (fun e => nomatch e)
    repeat (first | refine EvO.plain rfl rfl rfl rfl rfl rfl ?_ | refine EvC.seq ?_ | refine EvC.region rfl ?_ | refine EvO.nil ?_ | refine at_normal ?_ | refine EvC.ret ?_ | refine at_ret ?_)
    (refine ret_are (vs := [.int .i64 0, .nilSlice, .int .i64 4]) rfl rfl ?_)
    exact .inl ⟨h0, rfl, rfl⟩
  · repeat (first | refine EvO.plain rfl rfl rfl rfl rfl rfl ?_ | refine EvC.seq ?_ | refine EvC.region rfl ?_ | refine EvO.nil ?_ | refine at_normal ?_)
    refine EvC.cond (t := false) rfl (fun e => nomatch e) (fun _ => ?_)
    repeat (first | refine EvO.plain rfl rfl rfl rfl rfl rfl ?_ | refine EvC.seq ?_ | refine EvC.region rfl ?_ | refine EvO.nil ?_ | refine at_normal ?_ | refine EvC.skip ?_ | refine EvC.block ?_)
    refine EvC.mono (Q := fun ex σ h' => ex = AExit.exit 0 ∧ ∃ (ov : AV) (out : List Int) (col' : Nat → Nat) (hv' : AV) (cur : List It) (m' : List (Int × AV)) (E : Nat → AV), Step R4 col h col' h' ∧ QAt G h' col' p hv' mv cur m' ∧ Vec col' 5 h' 3 1 ov out.length (out.map (AV.int .i64)) ∧ TakeI hp cur (at' hp 0).1 out ∧ (∀ x, In cur x → x.1 ≠ (at' hp 0).1) ∧ σ = upds [(5, .int .i64 (at' hp 0).1), (7, ov)] E) ?_ ?_
    · refine EvC.loop (fun c σ h' => ∃ (ov : AV) (out : List Int) (col' : Nat → Nat) (hv' : AV) (cur : List It) (m' : List (Int × AV)) (E : Nat → AV), Step R4 col h col' h' ∧ QAt G h' col' p hv' mv cur m' ∧ Vec col' 5 h' 3 1 ov out.length (out.map (AV.int .i64)) ∧ TakeI hp cur (at' hp 0).1 out ∧ c = cur.length ∧ σ = upds [(0, .ptr p 0), (5, .int .i64 (at' hp 0).1), (7, ov)] E) (hp.length) ?_ ?_
      · exact ⟨.nilSlice, [], col, hv, hp, m, _, Step.refl q.hs, q, .nil, TakeI.start H h0, rfl, hold ⟨rfl, rfl, rfl, trivial⟩⟩
      · rintro _ _ h1 ⟨ov, out, col1, hv1, cur, m1, E, A1, q1, V1, T1, rfl, rfl⟩
        have fr1 := fr.step A1 r4_free
        have hl := T1.len
        have hc1 := q1.sml
        have fq := q1.fld (gt := gt) (t := 51) (off := 1) rfl rfl rfl
        have ln := q1.heap.row.len_any (T := TT gt) (t := 51) rfl h1
        repeat (first | refine EvO.plain rfl rfl rfl rfl rfl rfl ?_ | refine EvO.plain rfl rfl rfl rfl rfl (by assumption) ?_ | refine EvC.seq ?_ | refine EvC.region rfl ?_)
        (refine EvO.cons rfl rfl rfl (EvP.bool rfl rfl (fun q0 => ?_) (fun q0 => ?_)))
        · have q0 := of_decide_eq_true q0
          have hOB := q1.heap.at_ (T := TT gt) (t := 51) (t3 := 3) rfl rfl rfl rfl rfl rfl (k := .i64) (i := 0) (by omega) (by omega)
          obtain ⟨id, a1, a2, a3, a4⟩ := hOB
          have a1 : aindexAddr (TT gt) 51 hv1 (.int .i64 0) = some (.ptr id 0) := a1
          have a3 : aload (TT gt) h1 3 (.ptr id 0) = some (.int .i64 (at' cur 0).1) := a3
          have a4 : aload (TT gt) h1 3 (.ptr id 1) = some (.int .i64 (at' cur 0).2) := a4
          repeat (first | refine EvO.plain rfl rfl rfl rfl rfl rfl ?_ | refine EvO.plainOn rfl rfl rfl rfl rfl rfl ?_ | refine EvO.plainOn rfl rfl rfl rfl rfl (by assumption) ?_)
          refine EvO.on rfl rfl rfl (EvP.quiet rfl rfl ?_)
          repeat (first | refine EvO.plain rfl rfl rfl rfl rfl rfl ?_ | refine EvO.nil ?_ | refine at_normal ?_)
          by_cases ht : (at' cur 0).1 = (at' hp 0).1
          · refine EvC.cond (t := true) (isT (by rw [ht, beq_self_eq_true])) (fun _ => ?_) (fun e => nomatch e)
            repeat (first | refine EvO.plain rfl rfl rfl rfl rfl rfl ?_ | refine EvO.plain rfl rfl rfl rfl rfl (by assumption) ?_ | refine EvC.seq ?_ | refine EvC.region rfl ?_ | refine at_normal ?_ | refine EvC.skip ?_ | refine EvC.block ?_)
            (refine EvO.cons rfl rfl rfl (EvP.newR (b := .cells [.int .i64 (at' cur 0).2] 3 false) (mk := .slice 1 1 true) q1.hs rfl rfl (fun h2 id2 A2 S2 hle2 o2 _ _ => ?_)))
            have q2 := q1.other A2 (fun _ e => e.elim) (S2.down hle2)
            (refine EvO.cons rfl rfl rfl (EvP.appendC q2.hs (V1.step A2 q1.hs.wf (fun e => e)) (by decide) rfl rfl rfl rfl rfl rfl rfl rfl rfl (by decide) rfl rfl (afirst_all o2 rfl) rfl (by decide) rfl (by show (out.length + 1) * 8 ≤ 70368744177664; omega) (by omega) (fun w3 h3 col3 A3 S3 V3 => ?_)))
            have q3 := q2.other A3 (fun _ e => by rw [e]; decide) S3
            have V3 : Vec col3 5 h3 3 1 w3 (out ++ [(at' cur 0).2]).length ((out ++ [(at' cur 0).2]).map (AV.int .i64)) := by rw [List.length_append, List.map_append]; exact V3
            have C3 := (A1.trans (A2.mono fun _ e => e.elim)).trans (A3.mono (R' := R4) fun _ e => .inr e)
            have fr3 := fr.step C3 r4_free
            clear fq ln a1 a2 a3 a4
            repeat (first | refine EvO.plain rfl rfl rfl rfl rfl rfl ?_ | refine EvC.region rfl ?_ | refine EvO.nil ?_ | refine at_normal ?_)
            (refine EvO.cons rfl rfl rfl (EvP.callF rfl rfl rfl rfl (EvF.mono (remove_spec q3 fr3 (by omega) T1.heap) ?_)))
            rintro _ h4 _ ⟨A4, hv4, cur4, m4, q4, H4, l4, i4⟩
            repeat (first | refine EvO.nil ?_ | refine be_normal ?_ | refine ro_normal ?_)
            exact ⟨cur4.length, by omega, w3, _, col3, hv4, cur4, m4, _, C3.trans (A4.mono fun _ e => .inl e), q4, V3.step A4 q3.hs.wf (by decide), T1.next q3.pos.kd (by omega) ht H4 l4 i4, rfl, hold ⟨rfl, rfl, rfl, trivial⟩⟩
          · refine EvC.cond (t := false) (isT (by rw [beq_eq_false_iff_ne]; exact ht)) (fun e => nomatch e) (fun _ => ?_)
            clear fq ln a1 a2 a3 a4
            repeat (first | refine EvC.exit ?_ | refine at_exit ?_ | refine ro_exit ?_)
            refine ⟨rfl, ov, out, col1, hv1, cur, m1, _, A1, q1, V1, T1, fun x hx => ?_, hold ⟨rfl, rfl, trivial⟩⟩
            have h5 := le0 T1.heap hx
            have h6 := T1.ge _ (in0 (hp := cur) (by omega))
            unfold le lt at h5
            omega
        · have q0 := of_decide_eq_false q0
          clear fq ln
          repeat (first | refine EvO.plain rfl rfl rfl rfl rfl rfl ?_ | refine EvO.nil ?_ | refine at_normal ?_ | refine EvO.off rfl rfl rfl ?_)
          refine EvC.cond (t := false) rfl (fun e => nomatch e) (fun _ => ?_)
          repeat (first | refine EvC.exit ?_ | refine at_exit ?_ | refine ro_exit ?_)
          exact ⟨rfl, ov, out, col1, hv1, cur, m1, _, A1, q1, V1, T1, fun x ⟨i, hi, _⟩ => absurd hi (by omega), hold ⟨rfl, rfl, trivial⟩⟩
    · rintro _ σ h1 _ ⟨rfl, ov, out, col1, hv1, cur, m1, E, A1, q1, V1, T1, hn, rfl⟩
      repeat (first | refine EvO.plain rfl rfl rfl rfl rfl rfl ?_ | refine EvC.seq ?_ | refine EvC.region rfl ?_ | refine EvO.nil ?_ | refine at_normal ?_ | refine EvC.ret ?_ | refine be_same rfl ?_)
      (refine ret_are (vs := [.int .i64 (at' hp 0).1, ov, .int .i64 0]) rfl rfl ?_)
      exact .inr ⟨h0, ov, out, col1, hv1, cur, m1, rfl, A1, q1, V1, T1, hn⟩
end Pf
end Go.Proofs.Ytohlmbbmeknfiaa
