/- The first item leaves; the least time; how many. -/
import Derived.Test.YtohlmbbmeknfiaaQc
namespace Go.Proofs.Ytohlmbbmeknfiaa
namespace Pf
open Go Go.AI Go.AI.Q Go.Proofs
variable {gt : Tree (List AV)}
theorem cellsH_take {hp : List It} {k : Nat} (hk : k ≤ hp.length) : (cellsH hp).take (k * 2) = cellsH (hp.take k) := by
  have hl := cellsH_len hp
  have hlt : (hp.take k).length = k := by rw [List.length_take]; omega
  refine cells_of (by rw [List.length_take, hlt]; omega) fun i hi => ?_
  rw [hlt] at hi
  have hOB := cellsH_get hp i (by omega)
  obtain ⟨g1, g2⟩ := hOB
  have e : at' (hp.take k) i = at' hp i := by
    show List.getD _ _ _ = List.getD _ _ _
    rw [List.getD_eq_getElem?_getD, List.getD_eq_getElem?_getD, List.getElem?_take, if_pos hi]
  rw [e, List.getElem?_take, if_pos (by omega), List.getElem?_take, if_pos (by omega)]
  exact ⟨g1, g2⟩
theorem HV.cut {col : Nat → Nat} {c k : Nat} {h : AH} {hv : AV} {hp : List It} (V : HV col c h 60 hv hp) (hk : k ≤ hp.length) : ∃ v', aslice (TT gt) h 51 hv none (some (.int .i64 k)) none = some v' ∧ HV col c h 60 v' (hp.take k) := by
  have hOB := Go.AI.Q.Vec.cut (T := TT gt) (t := 51) V rfl rfl rfl (by decide) hk
  obtain ⟨v', h1, h2⟩ := hOB
  refine ⟨v', h1, ?_⟩
  rw [cellsH_take hk] at h2
  have hlt : (hp.take k).length = k := by rw [List.length_take]; omega
  unfold HV
  rw [hlt]; exact h2
theorem HV.sc {col : Nat → Nat} {c : Nat} {h : AH} {hv : AV} {hp : List It} (V : HV col c h 60 hv hp) : hv.cells = [hv] ∧ scalar hv = true := Vec.sc V
theorem Free.step {R : Nat → Prop} {h h1 : AH} {col col1 : Nat → Nat} (fr : Free col) (A : Step R col h col1 h1) (hR : ∀ c, R c → c ≠ 8 ∧ c ≠ 9) : Free col1 := fun i => by
  have hOB := Nat.lt_or_ge i h.next
  rcases hOB with hl | hl
  · rw [A.old i hl]; exact fr i
  · by_cases h0 : col1 i = 0
    · rw [h0]; exact ⟨by decide, by decide⟩
    · exact hR _ (A.new i hl h0)
theorem r3_free : ∀ c, R3 c → c ≠ 8 ∧ c ≠ 9 := fun c e => by rcases e with rfl | rfl | rfl <;> decide
set_option maxHeartbeats 4000000 in
theorem remove_spec {G h : AH} {col : Nat → Nat} {p : Nat} {hv mv : AV} {hp : List It} {m : List (Int × AV)} (q : QAt G h col p hv mv hp m) (fr : Free col) (h0 : 0 < hp.length) (H : Hp hp) :
    EvF (TT gt) X 26 [.ptr p 0, .int .i64 0] h (fun r h' => Step R3 col h col h' ∧ ∃ hv' hp' m', QAt G h' col p hv' mv hp' m' ∧ Hp hp' ∧ hp'.length = hp.length - 1 ∧ ∀ x, In hp' x ↔ In hp x ∧ x ≠ at' hp 0) := by
  have hs := q.sml
  have fq := q.fld (gt := gt) (t := 51) (off := 1) rfl rfl rfl
  have fm := q.fld (gt := gt) (t := 26) (off := 2) rfl rfl rfl
  have ln := q.heap.row.len_any (T := TT gt) (t := 51) rfl h
  have hOB := q.heap.at_ (T := TT gt) (t := 51) (t3 := 3) rfl rfl rfl rfl rfl rfl (k := .i64) (i := 0) (by omega) (by omega)
  obtain ⟨id, a1, a2, a3, a4⟩ := hOB
  have a1 : aindexAddr (TT gt) 51 hv (.int .i64 0) = some (.ptr id 0) := a1
  have a4 : aload (TT gt) h 3 (.ptr id 1) = some (.int .i64 (at' hp 0).2) := a4
  refine EvF.enter rfl rfl rfl ?_
  repeat (first | refine EvO.plain rfl rfl rfl rfl rfl rfl ?_ | refine EvO.plain rfl rfl rfl rfl rfl (by assumption) ?_ | refine EvC.seq ?_ | refine EvC.region rfl ?_ | refine EvO.nil ?_ | refine at_normal ?_ | refine EvO.cons rfl rfl rfl (EvP.sub64 rfl rfl (by omega) ?_))
  refine EvC.drawn (p := [⟨0, false, 0, 0⟩, ⟨1, false, 0, 0⟩, ⟨2, false, 0, 0⟩, ⟨3, false, 0, 0⟩, ⟨4, false, 0, 0⟩, ⟨5, false, 0, 0⟩, ⟨6, false, 0, 0⟩, ⟨7, false, 0, 0⟩, ⟨8, false, 0, 0⟩, ⟨9, false, 0, 0⟩, ⟨10, false, 0, 0⟩, ⟨11, false, 0, 0⟩, ⟨12, true, 0, 1⟩]) rfl (by kernel_rfl) (by kernel_rfl) rfl ?_
  repeat (first | refine EvR.plain rfl rfl rfl rfl rfl rfl rfl ?_ | refine EvR.plain rfl rfl rfl rfl rfl rfl (by assumption) ?_)
  (refine EvR.cons0 rfl rfl rfl (EvP.mapDel q.hs q.map (by decide) keyed_map rfl rfl rfl rfl rfl (fun h1 A1 S1 M1 => ?_)))
  have ob1 := (A1.get q.hs.wf q.obj (by rw [q.cp]; decide)).1
  have V1 : HV col 2 h1 60 hv hp := q.heap.step A1 q.hs.wf (by decide)
  clear fq fm a2 a3 a4 ln
  repeat (first | refine EvO.plain rfl rfl rfl rfl rfl rfl ?_ | refine EvC.seq ?_ | refine EvC.region rfl ?_ | refine EvO.nil ?_ | refine at_normal ?_ | refine EvR.nil ?_)
  refine EvC.decide rfl (fun hc => ?_) (fun hc => ?_)
  · have h1n : 1 < hp.length := by omega
    have fq := load1 (T := TT gt) (t := 51) (off := 1) ob1 rfl rfl rfl
    have hOB := V1.at_ (T := TT gt) (t := 51) (t3 := 3) rfl rfl rfl rfl rfl rfl (k := .i64) (i := (hp.length : Int) - 1) (by omega) (by omega)
    obtain ⟨id2, b1, b2, _, _⟩ := hOB
    rw [show ((hp.length : Int) - 1).toNat = hp.length - 1 by omega] at b1 b2
    repeat (refine EvC.seq ?_)
    refine EvC.drawn (p := [⟨0, false, 0, 0⟩, ⟨1, false, 0, 0⟩, ⟨2, false, 0, 0⟩, ⟨3, false, 0, 0⟩, ⟨4, false, 0, 0⟩, ⟨5, false, 0, 0⟩, ⟨6, false, 0, 0⟩, ⟨7, false, 0, 0⟩, ⟨8, false, 0, 0⟩, ⟨9, false, 0, 0⟩, ⟨10, false, 0, 0⟩, ⟨11, false, 0, 0⟩, ⟨12, false, 0, 0⟩, ⟨13, true, 0, 1⟩]) rfl (by kernel_rfl) (by kernel_rfl) rfl ?_
    repeat (first | refine EvR.plain rfl rfl rfl rfl rfl rfl rfl ?_ | refine EvR.plain rfl rfl rfl rfl rfl rfl (by assumption) ?_)
    (refine EvR.cons0 rfl rfl rfl (EvP.setItem (i := 0) S1 V1 (by decide) rfl rfl rfl h0 a1 rfl rfl (fun h2 A2 S2 V2 _ => ?_)))
    have ob2 := (A2.get S1.wf ob1 (by rw [q.cp]; decide)).1
    have M2 := M1.step A2 S1.wf (by decide)
    have hl2 : (hp.set 0 (at' hp (hp.length - 1))).length = hp.length := List.length_set
    have e0 : at' (hp.set 0 (at' hp (hp.length - 1))) 0 = at' hp (hp.length - 1) := by rw [at_set h0, if_pos rfl]
    clear fq b1 b2
    have fq := load1 (T := TT gt) (t := 51) (off := 1) ob2 rfl rfl rfl
    have fm := load1 (T := TT gt) (t := 26) (off := 2) ob2 rfl rfl rfl
    have hOB := V2.at_ (T := TT gt) (t := 51) (t3 := 3) rfl rfl rfl rfl rfl rfl (k := .i64) (i := 0) (by omega) (by omega)
    obtain ⟨id3, b1, b2, b3, b4⟩ := hOB
    have b1 : aindexAddr (TT gt) 51 hv (.int .i64 0) = some (.ptr id3 0) := b1
    have b4 : aload (TT gt) h2 3 (.ptr id3 1) = some (.int .i64 (at' (hp.set 0 (at' hp (hp.length - 1))) 0).2) := b4
    rw [e0] at b4
    clear a1
    repeat (first | refine at_normal ?_ | refine EvR.nil ?_)
    refine EvC.drawn (p := [⟨0, false, 0, 0⟩, ⟨1, false, 0, 0⟩, ⟨2, false, 0, 0⟩, ⟨3, false, 0, 0⟩, ⟨4, false, 0, 0⟩, ⟨5, false, 0, 0⟩, ⟨6, false, 0, 0⟩, ⟨7, false, 0, 0⟩, ⟨8, false, 0, 0⟩, ⟨9, false, 0, 0⟩, ⟨10, false, 0, 0⟩, ⟨11, false, 0, 0⟩, ⟨12, false, 0, 0⟩, ⟨13, true, 0, 1⟩]) rfl (by kernel_rfl) (by kernel_rfl) rfl ?_
    repeat (first | refine EvR.plain rfl rfl rfl rfl rfl rfl rfl ?_ | refine EvR.plain rfl rfl rfl rfl rfl rfl (by assumption) ?_)
    (refine EvR.cons0 rfl rfl rfl (EvP.mapPut S2 M2 (by decide) keyed_map rfl rfl rfl (fun h3 A3 S3 M3 => ?_)))
    have ob3 := (A3.get S2.wf ob2 (by rw [q.cp]; decide)).1
    have V3 : HV col 2 h3 60 hv (hp.set 0 (at' hp (hp.length - 1))) := V2.step A3 S2.wf (by decide)
    clear fq fm b1 b2 b3 b4
    have fq := load1 (T := TT gt) (t := 51) (off := 1) ob3 rfl rfl rfl
    have hOB := HV.cut (gt := gt) V3 (k := hp.length - 1) (by omega)
    obtain ⟨v', s1, V4⟩ := hOB
    rw [show ((hp.length - 1 : Nat) : Int) = (hp.length : Int) - 1 by omega] at s1
    repeat (first | refine EvO.plain rfl rfl rfl rfl rfl rfl ?_ | refine EvO.plain rfl rfl rfl rfl rfl (by assumption) ?_ | refine EvC.seq ?_ | refine EvC.region rfl ?_ | refine at_normal ?_ | refine EvR.nil ?_)
    (refine EvO.cons0 rfl rfl (EvP.store1 (u := v') S3 1 ob3 q.cp (by decide) rfl rfl rfl rfl (HV.sc V4) (by show 1 < 3; decide) (fun h4 A4 S4 o4 _ _ => ?_)))
    have o4 : h4.t.get p = some (.cells [.bool true, v', mv] 53 false) := o4
    have q4 : QAt G h4 col p v' mv (cutL hp) (mput (mdel m (at' hp 0).2) (at' hp (hp.length - 1)).2 (.int .i64 0)) := ⟨S4, o4, q.cp, V4.step A4 S3.wf (by decide), M3.step A4 S3.wf (by decide), q.pos.cut q.map.nodup h1n, by rw [cut_len]; omega⟩
    have C4 : Step R3 col h col h4 := (((A1.mono fun _ e => .inr (.inr e)).trans (A2.mono fun _ e => .inr (.inl e))).trans (A3.mono fun _ e => .inr (.inr e))).trans (A4.mono fun _ e => .inl e)
    clear fq s1
    repeat (first | refine EvO.plain rfl rfl rfl rfl rfl rfl ?_ | refine EvC.seq ?_ | refine EvC.region rfl ?_ | refine EvO.nil ?_ | refine at_normal ?_)
    refine EvC.cond (t := true) (isT (decide_eq_true hc)) (fun _ => ?_) (fun e => nomatch e)
    repeat (first | refine EvO.plain rfl rfl rfl rfl rfl rfl ?_ | refine EvC.region rfl ?_)
    (refine EvO.cons rfl rfl rfl (EvP.callF rfl rfl rfl rfl (EvF.mono (settle_spec (i := 0) q4 fr (by rw [cut_len]; omega) (Dn.cut H h0).1) ?_)))
    rintro _ h5 _ ⟨A5, hp5, m5, q5, s5, H5⟩
    repeat (refine EvO.nil ?_)
    exact end_normal rfl ⟨C4.trans A5, v', hp5, m5, q5, H5, by rw [s5.len, cut_len], fun x => by rw [s5.inn, in_cut q.pos.kd h0]⟩
  · have hn1 : hp.length = 1 := by omega
    have fq := load1 (T := TT gt) (t := 51) (off := 1) ob1 rfl rfl rfl
    have hOB := HV.cut (gt := gt) V1 (k := 0) (by omega)
    obtain ⟨v', s1, V4⟩ := hOB
    have s1 : aslice (TT gt) h1 51 hv none (some (.int .i64 ((hp.length : Int) - 1))) none = some v' := by rw [hn1]; exact s1
    clear a1
    repeat (first | refine EvO.plain rfl rfl rfl rfl rfl rfl ?_ | refine EvO.plain rfl rfl rfl rfl rfl (by assumption) ?_ | refine EvC.seq ?_ | refine EvC.region rfl ?_ | refine at_normal ?_ | refine EvC.skip ?_)
    (refine EvO.cons0 rfl rfl (EvP.store1 (u := v') S1 1 ob1 q.cp (by decide) rfl rfl rfl rfl (HV.sc V4) (by show 1 < 3; decide) (fun h4 A4 S4 o4 _ _ => ?_)))
    have o4 : h4.t.get p = some (.cells [.bool true, v', mv] 53 false) := o4
    have q4 : QAt G h4 col p v' mv [] (mdel m (at' hp 0).2) := ⟨S4, o4, q.cp, V4.step A4 S1.wf (by decide), M1.step A4 S1.wf (by decide), q.pos.last q.map.nodup hn1, Nat.zero_le _⟩
    clear fq s1
    repeat (first | refine EvO.plain rfl rfl rfl rfl rfl rfl ?_ | refine EvC.seq ?_ | refine EvC.region rfl ?_ | refine EvO.nil ?_ | refine at_normal ?_)
    refine EvC.cond (t := false) (isT (decide_eq_false hc)) (fun e => nomatch e) (fun _ => ?_)
    repeat (refine EvC.skip ?_)
    refine end_normal rfl ⟨(A1.mono fun _ e => .inr (.inr e)).trans (A4.mono fun _ e => .inl e), v', [], _, q4, fun j _ hj => absurd hj (Nat.not_lt_zero _), by rw [hn1]; rfl, fun x => ⟨fun ⟨_, hx, _⟩ => absurd hx (Nat.not_lt_zero _), fun ⟨⟨i, hi, e⟩, hne⟩ => ?_⟩⟩
    have : i = 0 := by omega
    subst this
    exact absurd e.symm hne
theorem Least_spec {G h : AH} {col : Nat → Nat} {p : Nat} {hv mv : AV} {hp : List It} {m : List (Int × AV)} (q : QAt G h col p hv mv hp m) :
    EvF (TT gt) X 23 [.ptr p 0] h (fun r h' => h' = h ∧ ((hp = [] ∧ r = .tuple [.int .i64 0, .int .i64 4]) ∨ (0 < hp.length ∧ r = .tuple [.int .i64 (at' hp 0).1, .int .i64 0]))) := by
  have hs := q.sml
  have fq := q.fld (gt := gt) (t := 51) (off := 1) rfl rfl rfl
  have ln := q.heap.row.len_any (T := TT gt) (t := 51) rfl h
  refine EvF.enter rfl rfl rfl ?_
  repeat (first | refine EvO.plain rfl rfl rfl rfl rfl rfl ?_ | refine EvC.seq ?_ | refine EvC.region rfl ?_ | refine EvO.nil ?_ | refine at_normal ?_ | refine EvC.block ?_)
  (refine EvO.cons rfl rfl rfl (EvP.callF rfl rfl rfl rfl (EvF.mono (no_spec q) ?_)))
  rintro _ h _ ⟨rfl, rfl⟩
  repeat (first | refine EvO.plain rfl rfl rfl rfl rfl rfl ?_ | refine EvO.nil ?_ | refine at_normal ?_)
  refine EvC.cond (t := false) rfl (fun e => nomatch e) (fun _ => ?_)
  repeat (first | refine EvO.plain rfl rfl rfl rfl rfl rfl ?_ | refine EvO.plain rfl rfl rfl rfl rfl (by assumption) ?_ | refine EvC.seq ?_ | refine EvC.region rfl ?_ | refine EvO.nil ?_ | refine at_normal ?_)
  by_cases h0 : hp = []
  · refine EvC.cond (t := true) (isT (by rw [h0]; rfl)) (fun _ => ?_) (fun e => nomatch e)
    repeat (first | refine EvO.plain rfl rfl rfl rfl rfl rfl ?_ | refine EvC.seq ?_ | refine EvC.region rfl ?_ | refine EvO.nil ?_ | refine at_normal ?_ | refine EvC.ret ?_ | refine at_ret ?_ | refine be_ret ?_)
    (refine ret_are (vs := [.int .i64 0, .int .i64 4]) rfl rfl ?_)
    exact ⟨rfl, .inl ⟨h0, rfl⟩⟩
  · have hl : 0 < hp.length := List.length_pos_iff.2 h0
    refine EvC.cond (t := false) (isT (by rw [beq_eq_false_iff_ne]; omega)) (fun e => nomatch e) (fun _ => ?_)
    have hOB := q.heap.at_ (T := TT gt) (t := 51) (t3 := 3) rfl rfl rfl rfl rfl rfl (k := .i64) (i := 0) (by omega) (by omega)
    obtain ⟨id, a1, a2, a3, a4⟩ := hOB
    have a1 : aindexAddr (TT gt) 51 hv (.int .i64 0) = some (.ptr id 0) := a1
    have a3 : aload (TT gt) _ 3 (.ptr id 0) = some (.int .i64 (at' hp 0).1) := a3
    repeat (first | refine EvO.plain rfl rfl rfl rfl rfl rfl ?_ | refine EvO.plain rfl rfl rfl rfl rfl (by assumption) ?_ | refine EvC.seq ?_ | refine EvC.region rfl ?_ | refine EvO.nil ?_ | refine at_normal ?_ | refine EvC.skip ?_ | refine EvC.ret ?_ | refine be_normal ?_)
    (refine ret_are (vs := [.int .i64 (at' hp 0).1, .int .i64 0]) rfl rfl ?_)
    exact ⟨rfl, .inr ⟨hl, rfl⟩⟩
theorem Len_spec {G h : AH} {col : Nat → Nat} {p : Nat} {hv mv : AV} {hp : List It} {m : List (Int × AV)} (q : QAt G h col p hv mv hp m) :
    EvF (TT gt) X 10 [.ptr p 0] h (fun r h' => h' = h ∧ r = .int .i64 hp.length) := by
  have fq := q.fld (gt := gt) (t := 51) (off := 1) rfl rfl rfl
  have ln := q.heap.row.len_any (T := TT gt) (t := 51) rfl h
  refine EvF.enter rfl rfl rfl ?_
  repeat (first | refine EvO.plain rfl rfl rfl rfl rfl rfl ?_ | refine EvC.seq ?_ | refine EvC.region rfl ?_ | refine EvO.nil ?_ | refine at_normal ?_)
  (refine EvO.cons rfl rfl rfl (EvP.callF rfl rfl rfl rfl (EvF.mono (no_spec q) ?_)))
  rintro _ h _ ⟨rfl, rfl⟩
  repeat (first | refine EvO.nil ?_ | refine at_normal ?_)
  refine EvC.cond (t := false) rfl (fun e => nomatch e) (fun _ => ?_)
  repeat (first | refine EvO.plain rfl rfl rfl rfl rfl rfl ?_ | refine EvO.plain rfl rfl rfl rfl rfl (by assumption) ?_ | refine EvC.seq ?_ | refine EvC.region rfl ?_ | refine EvO.nil ?_ | refine at_normal ?_ | refine EvC.skip ?_ | refine EvC.ret ?_)
  (refine ret_is (v := .int .i64 hp.length) rfl rfl ?_)
  exact ⟨rfl, rfl⟩
theorem New_spec {G h : AH} {col : Nat → Nat} (S : HS G h col) : EvF (TT gt) X 17 [] h (fun r h' => ∃ p mv col', r = .ptr p 0 ∧ Step R3 col h col' h' ∧ QAt G h' col' p .nilSlice mv [] []) := by
  refine EvF.enter rfl rfl rfl ?_
  repeat (first | refine EvO.plain rfl rfl rfl rfl rfl rfl ?_ | refine EvC.seq ?_ | refine EvC.region rfl ?_ | refine EvO.nil ?_ | refine at_normal ?_)
  (refine EvO.cons rfl rfl rfl (EvP.newC (b := .map [] 0) (mk := .map) S 3 rfl rfl (by decide) (fun h1 r1 col1 A1 S1 o1 c1 _ => ?_)))
  have M1 : MapI col1 3 h1 (.map r1) [] := .new o1 c1
  repeat (refine EvO.plain rfl rfl rfl rfl rfl rfl ?_)
  (refine EvO.cons rfl rfl rfl (EvP.newC (b := .cells [.bool true, .nilSlice, .map r1] 53 false) (mk := .ptr) S1 1 rfl rfl (by decide) (fun h2 p2 col2 A2 S2 o2 c2 _ => ?_)))
  repeat (first | refine EvO.plain rfl rfl rfl rfl rfl rfl ?_ | refine EvO.nil ?_ | refine at_normal ?_ | refine EvC.ret ?_)
  (refine ret_is (v := .ptr p2 0) rfl rfl ?_)
  exact ⟨p2, .map r1, col2, rfl, (A1.mono fun _ e => .inr (.inr e)).trans (A2.mono fun _ e => .inl e), S2, o2, c2, .nil, M1.step A2 S1.wf (by decide), ⟨fun i hi => absurd hi (Nat.not_lt_zero _), fun _ _ e => nomatch e⟩, Nat.zero_le _⟩
end Pf
end Go.Proofs.Ytohlmbbmeknfiaa
