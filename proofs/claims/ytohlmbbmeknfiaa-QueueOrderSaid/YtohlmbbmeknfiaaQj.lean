/- What List answers. -/
import Derived.Test.YtohlmbbmeknfiaaQf
namespace Go.Proofs.Ytohlmbbmeknfiaa
namespace Pf
open Go Go.AI Go.AI.Q Go.Proofs
variable {gt : Tree (List AV)}
theorem le2_eq (x y : It) : le2 cfQ x y = true ↔ le x y := by
  unfold le2 le
  rw [Bool.not_eq_true', decide_eq_false_iff_not, cfQ_lt]
/-- A row of pairs of one's own is sorted in its place. -/
theorem sort_pairs {G h : AH} {col : Nat → Nat} {c : Nat} (S : HS G h col) {v : AV} {l : List It} (V : HV col c h 27 v l) (hn : l.length ≤ 2 ^ 40) :
    EvF (TT gt) X 27 [v, .func 28 []] h (fun r h' => r = .tuple [] ∧ Step (fun x => x = c) col h col h' ∧ HV col c h' 27 v (l.mergeSort (le2 cfQ))) := by
  have hlen : (l.mergeSort (le2 cfQ)).length = l.length := List.length_mergeSort _
  have hOB := Nat.eq_zero_or_pos l.length
  rcases hOB with h0 | h0
  · have hOB : l = [] := List.eq_nil_of_length_eq_zero h0
    obtain rfl := hOB
    have e0 : ([] : List It).mergeSort (le2 cfQ) = [] := by simp
    rw [e0]
    have V' : Vec col c h 27 2 v 0 [] := V
    cases V' with
    | nil => exact EvF.oracle (fn := af Try.f27) (v := .tuple []) (h' := h) rfl rfl (Nat.le_refl _) ⟨rfl, Step.refl S, V⟩
    | @mk id _ cap ex _ tail hg hc hn' hx =>
      have hg : h.t.get id = some (.cells tail 27 false) := hg
      refine EvF.oracle (fn := af Try.f27) (v := .tuple []) (h' := h.upd id (.cells (lsetMany tail 0 (cellsH (([] : List It).mergeSort (le2 cfQ)))) 27 false)) rfl ?_ (Nat.le_refl _) ⟨rfl, upd_step S.wf S.fresh hg hc, ?_⟩
      · show (match h.t.get id with
          | some (.cells cs e false) => match sub cs 0 (0 * 2) with
            | some r => match items r with
              | some l => if 28 = 28 ∧ l.length < 4611686018427387904 then some (AV.tuple [], h.upd id (.cells (lsetMany cs 0 (cellsH (l.mergeSort (le2 cfQ)))) e false)) else none
              | none => none
            | none => none
          | _ => none) = _
        have hs : sub tail 0 (0 * 2) = some [] := by simp [sub]
        simp only [hg, hs, items]
        rw [if_pos ⟨trivial, by simp⟩]
      · rw [e0]
        have e2 : lsetMany tail 0 (cellsH []) = tail := rfl
        exact .mk (cs := []) (tail := tail) (by rw [e2, get_upd]; rfl) hc rfl hx
  · have hOB := vec_split V h0
    obtain ⟨id, cap, ex, tail, rfl, hg, hc, hn', hx⟩ := hOB
    have hcl := cellsH_len l
    have hcs := cellsH_len (l.mergeSort (le2 cfQ))
    refine EvF.oracle (fn := af Try.f27) (v := .tuple []) (h' := h.upd id (.cells (lsetMany (cellsH l ++ tail) 0 (cellsH (l.mergeSort (le2 cfQ)))) 27 false)) rfl ?_ (Nat.le_refl _) ⟨rfl, upd_step S.wf S.fresh hg hc, ?_⟩
    · show (match h.t.get id with
        | some (.cells cs e false) => match sub cs 0 (l.length * 2) with
          | some r => match items r with
            | some l => if 28 = 28 ∧ l.length < 4611686018427387904 then some (AV.tuple [], h.upd id (.cells (lsetMany cs 0 (cellsH (l.mergeSort (le2 cfQ)))) e false)) else none
            | none => none
          | none => none
        | _ => none) = _
      have hs : sub (cellsH l ++ tail) 0 (l.length * 2) = some (cellsH l) := by
        unfold sub
        rw [if_pos (by simp; omega), ← hcl]; simp
      simp only [hg, hs, items_of]
      rw [if_pos ⟨trivial, by omega⟩]
    · have e1 : lsetMany (cellsH l ++ tail) 0 (cellsH (l.mergeSort (le2 cfQ))) = cellsH (l.mergeSort (le2 cfQ)) ++ tail := by
        have := lsetMany_append ([] : List AV) (cellsH l ++ tail) (cellsH (l.mergeSort (le2 cfQ))) (by rw [List.length_append]; omega)
        simp only [List.nil_append, List.length_nil] at this
        rw [this, List.drop_append_of_le_length (by omega), List.drop_of_length_le (by omega), List.nil_append]
      unfold HV
      rw [e1, hlen]
      refine .mk (get_upd ..) hc (by omega) (fun e => ?_)
      have := hx e
      rw [List.length_append] at this ⊢
      exact ⟨this.1, by omega⟩
theorem build_pair (x : It) : abuildSlice (TT gt) 22 1 [(0, .agg (itC x))] = some (.cells (itC x) 27 false, .slice 1 1 true) := rfl
theorem take_it {hp : List It} {i : Nat} (hi : i < hp.length) : hp.take (i + 1) = hp.take i ++ [at' hp i] := by
  rw [List.take_add_one, List.getElem?_eq_getElem hi]
  unfold at'
  rw [List.getD_eq_getElem?_getD, List.getElem?_eq_getElem hi]; rfl
set_option maxHeartbeats 4000000 in
theorem List_spec {G h : AH} {col : Nat → Nat} {p : Nat} {hv mv : AV} {hp : List It} {m : List (Int × AV)} (q : QAt G h col p hv mv hp m) :
    EvF (TT gt) X 12 [.ptr p 0] h (fun r h' => ∃ col', Step (fun c => c = 5 ∨ c = 7) col h col' h' ∧ HS G h' col' ∧ HV col' 5 h' 27 r (hp.mergeSort (le2 cfQ))) := by
  have hs := q.sml
  have fq := q.fld (gt := gt) (t := 51) (off := 1) rfl rfl rfl
  have ln := q.heap.row.len_any (T := TT gt) (t := 51) rfl h
  refine EvF.enter rfl rfl rfl ?_
  repeat (first | refine EvO.plain rfl rfl rfl rfl rfl rfl ?_ | refine EvC.seq ?_ | refine EvC.region rfl ?_ | refine EvO.nil ?_ | refine at_normal ?_)
  (refine EvO.cons rfl rfl rfl (EvP.callF rfl rfl rfl rfl (EvF.mono (no_spec q) ?_)))
  rintro _ h _ ⟨rfl, rfl⟩
  repeat (first | refine EvO.nil ?_ | refine at_normal ?_)
  refine EvC.cond (t := false) rfl (fun e => nomatch e) (fun _ => ?_)
  repeat (first | refine EvO.plain rfl rfl rfl rfl rfl rfl ?_ | refine EvO.plain rfl rfl rfl rfl rfl (by assumption) ?_ | refine EvC.seq ?_ | refine EvC.region rfl ?_ | refine EvO.nil ?_ | refine at_normal ?_ | refine EvC.skip ?_ | refine EvC.block ?_)
  clear fq ln
  refine EvC.loop (fun c σ h' => ∃ (i : Nat) (ov : AV) (col' : Nat → Nat) (E : Nat → AV), Step (fun c => c = 5 ∨ c = 7) col h col' h' ∧ QAt G h' col' p hv mv hp m ∧ HV col' 5 h' 27 ov (hp.take i) ∧ i ≤ hp.length ∧ c = hp.length - i ∧ σ = upds [(3, ov), (11, hv), (12, .int .i64 hp.length), (13, .int .i64 i)] E) (hp.length) ?_ ?_
  · exact ⟨0, .nilSlice, col, _, Step.refl q.hs, q, .nil, Nat.zero_le _, rfl, hold ⟨rfl, rfl, rfl, rfl, trivial⟩⟩
  · clear q
    rintro _ _ h1 ⟨i, ov, col1, E, A1, q1, V1, hi, rfl, rfl⟩
    repeat (first | refine EvO.plain rfl rfl rfl rfl rfl rfl ?_ | refine EvC.seq ?_ | refine EvC.region rfl ?_ | refine EvO.nil ?_ | refine at_normal ?_)
    refine EvC.decide rfl (fun hc => ?_) (fun hc => ?_)
    · have hlt : i < hp.length := by omega
      have hOB := q1.heap.at_ (T := TT gt) (t := 51) (t3 := 3) rfl rfl rfl rfl rfl rfl (k := .i64) (i := (i : Int)) (by omega) (by omega)
      obtain ⟨id, a1, a2, _, _⟩ := hOB
      rw [Int.toNat_natCast] at a1 a2
      repeat (first | refine EvO.plain rfl rfl rfl rfl rfl (by assumption) ?_ | refine EvC.seq ?_ | refine EvC.region rfl ?_ | refine at_normal ?_ | refine EvC.skip ?_ | refine EvC.block ?_)
      (refine EvO.cons rfl rfl rfl (EvP.newC (b := .cells (itC z) 60 false) (mk := .ptr) q1.hs 7 rfl rfl (by decide) (fun h2 i2 col2 A2 S2 o2 c2 _ => ?_)))
      clear a1 a2
      skip
      (refine EvO.cons0 rfl rfl (EvP.storeC (v := .agg (itC (at' hp i))) S2 7 o2 c2 (by decide) rfl rfl rfl rfl rfl (by show 0 + 2 ≤ 2; decide) (fun h3 A3 S3 o3 _ _ => ?_)))
      have o3 : h3.t.get i2 = some (.cells (itC (at' hp i)) 60 false) := o3
      have B3 : Step (fun c => c = 7) col1 h1 col2 h3 := A2.trans A3
      have q3 := q1.other B3 (fun _ e => by rw [e]; decide) S3
      have V3 := V1.step B3 q1.hs.wf (by decide)
      have f1 := loadAgg (T := TT gt) (t := 60) (off := 0) (n := 2) (r := itC (at' hp i)) o3 rfl rfl
      repeat (first | refine EvO.plain rfl rfl rfl rfl rfl rfl ?_ | refine EvO.plain rfl rfl rfl rfl rfl (by assumption) ?_ | refine EvC.region rfl ?_ | refine EvO.nil ?_ | refine at_normal ?_)
      (refine EvO.cons rfl rfl rfl (EvP.newR (b := .cells (itC (at' hp i)) 27 false) (mk := .slice 1 1 true) S3 rfl (build_pair (gt := gt) (at' hp i)) (fun h4 i4 A4 S4 hle4 o4 _ _ => ?_)))
      have q4 := q3.other A4 (fun _ e => e.elim) (S4.down hle4)
      have lt : (hp.take i).length = i := by rw [List.length_take]; omega
      (refine EvO.cons rfl rfl rfl (EvP.appendC q4.hs (V3.step A4 S3.wf (fun e => e)) (by decide) rfl rfl rfl rfl rfl rfl rfl rfl rfl (by decide) rfl rfl (afirst_all o4 rfl) rfl (by decide) rfl (by show ((hp.take i).length + 1) * 16 ≤ 70368744177664; omega) (by omega) (fun w5 h5 col5 A5 S5 V5 => ?_)))
      have q5 := q4.other A5 (fun _ e => by rw [e]; decide) S5
      have V5 : HV col5 5 h5 27 w5 (hp.take (i + 1)) := by rw [take_it hlt]; unfold HV; rw [List.length_append, cellsH_app]; exact V5
      clear f1
      repeat (first | refine EvO.plain rfl rfl rfl rfl rfl rfl ?_ | refine EvC.region rfl ?_ | refine EvO.nil ?_ | refine at_normal ?_ | refine be_normal ?_ | refine ro_normal ?_ | refine EvO.cons rfl rfl rfl (EvP.add64 rfl rfl (by omega) ?_))
      exact ⟨hp.length - (i + 1), by omega, i + 1, w5, col5, _, ((A1.trans (B3.mono fun _ e => .inr e)).trans (A4.mono fun _ e => e.elim)).trans (A5.mono fun _ e => .inl e), q5, V5, by omega, rfl, hold ⟨rfl, rfl, rfl, rfl, trivial⟩⟩
    · have hOB : i = hp.length := by omega
      obtain rfl := hOB
      rw [List.take_length] at V1
      repeat (first | refine EvO.plain rfl rfl rfl rfl rfl rfl ?_ | refine EvC.seq ?_ | refine EvC.region rfl ?_ | refine at_normal ?_ | refine EvC.exit ?_ | refine at_exit ?_ | refine be_same rfl ?_ | refine ro_exit ?_)
      (refine EvO.cons rfl rfl rfl (EvP.callF rfl rfl rfl rfl (EvF.mono (sort_pairs q1.hs V1 (by omega)) ?_)))
      rintro _ h2 _ ⟨rfl, A2, V2⟩
      repeat (first | refine EvO.plain rfl rfl rfl rfl rfl rfl ?_ | refine EvC.seq ?_ | refine EvC.region rfl ?_ | refine EvO.nil ?_ | refine at_normal ?_ | refine EvC.ret ?_)
      (refine ret_is (v := ov) rfl rfl ?_)
      exact ⟨col1, A1.trans (A2.mono fun _ e => .inl e), q1.hs.step A2 (by decide), V2⟩
end Pf
end Go.Proofs.Ytohlmbbmeknfiaa
