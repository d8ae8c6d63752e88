/- A queue into which pairs were put. -/
import Derived.Test.YtohlmbbmeknfiaaQe
namespace Go.Proofs.Ytohlmbbmeknfiaa
namespace Pf
open Go Go.AI Go.AI.Q Go.Proofs
variable {gt : Tree (List AV)}
/-- Pairs, as they are read. -/
def PairsAt (h : AH) (v : AV) (l : List It) : Prop := RowOf h 2 v l.length (fun i => itC (at' l i))
def dueL (l : List It) : List (Int × AV) := l.foldl dueS []
theorem dueL_next {l : List It} {i : Nat} (hi : i < l.length) : dueL (l.take (i + 1)) = dueS (dueL (l.take i)) (at' l i) := by
  have e : l.take (i + 1) = l.take i ++ [at' l i] := by
    rw [List.take_add_one, List.getElem?_eq_getElem hi]
    unfold at'
    rw [List.getD_eq_getElem?_getD, List.getElem?_eq_getElem hi]; rfl
  unfold dueL
  rw [e, List.foldl_append]; rfl
set_option maxHeartbeats 4000000 in
theorem filled_spec {h : AH} (hw : WF h) {v : AV} {l : List It} (row : PairsAt h v l) (hl : l.length ≤ 300) :
    EvF (TT gt) X 9 [v] h (fun r h' => h.le h' ∧ ∃ p mv G col hv hp m, r = .ptr p 0 ∧ h.le G ∧ QAt G h' col p hv mv hp m ∧ Free col ∧ (∀ i, col i ≠ 4 ∧ col i ≠ 5) ∧ Rel hp (dueL l) ∧ hp.length ≤ 300) := by
  have S0 := HS.all hw
  refine EvF.enter rfl rfl rfl ?_
  repeat (first | refine EvO.plain rfl rfl rfl rfl rfl rfl ?_ | refine EvC.seq ?_ | refine EvC.region rfl ?_ | refine EvO.nil ?_ | refine at_normal ?_)
  (refine EvO.cons rfl rfl rfl (EvP.callF rfl rfl rfl rfl (EvF.mono (New_spec S0) ?_)))
  rintro _ h1 _ ⟨p, mv, col1, rfl, A1, q1⟩
  have ln := RowOf.len_any (T := TT gt) (t := 22) row rfl h1
  repeat (first | refine EvO.plain rfl rfl rfl rfl rfl rfl ?_ | refine EvO.plain rfl rfl rfl rfl rfl (by assumption) ?_ | refine EvC.seq ?_ | refine EvC.region rfl ?_ | refine EvO.nil ?_ | refine at_normal ?_ | refine EvC.block ?_)
  clear ln
  refine EvC.loop (fun c σ h' => ∃ (i : Nat) (G : AH) (col : Nat → Nat) (hv : AV) (hp : List It) (m : List (Int × AV)) (E : Nat → AV), h.le G ∧ Step R3 (fun _ => 0) h col h' ∧ QAt G h' col p hv mv hp m ∧ Rel hp (dueL (l.take i)) ∧ hp.length ≤ i ∧ i ≤ l.length ∧ c = l.length - i ∧ σ = upds [(3, .ptr p 0), (7, v), (8, .int .i64 l.length), (9, .int .i64 i)] E) (l.length) ?_ ?_
  · exact ⟨0, h, col1, _, [], [], _, fun _ _ e => e, A1, q1, Rel.nil, Nat.le_refl _, Nat.zero_le _, rfl, hold ⟨rfl, rfl, rfl, rfl, trivial⟩⟩
  · clear q1 A1
    rintro _ _ h2 ⟨i, G, col, hv, hp, m, E, hG, A2, q2, R2, hpl, hi, rfl, rfl⟩
    have hle2 : h.le h2 := AH.le.trans' hG q2.hs.le
    repeat (first | refine EvO.plain rfl rfl rfl rfl rfl rfl ?_ | refine EvC.seq ?_ | refine EvC.region rfl ?_ | refine EvO.nil ?_ | refine at_normal ?_)
    refine EvC.decide rfl (fun hc => ?_) (fun hc => ?_)
    · have hlt : i < l.length := by omega
      have hOB := (RowOf.mono hle2 row).atN (T := TT gt) (t := 22) (e := 27) rfl rfl rfl rfl (k := .i64) (i := (i : Int)) (by omega) (by omega)
      obtain ⟨pp, a1, a2⟩ := hOB
      rw [Int.toNat_natCast] at a2
      have S2 : HS G h2 col := q2.hs
      repeat (first | refine EvO.plain rfl rfl rfl rfl rfl (by assumption) ?_ | refine EvC.seq ?_ | refine EvC.region rfl ?_ | refine at_normal ?_ | refine EvC.skip ?_ | refine EvC.block ?_)
      (refine EvO.cons rfl rfl rfl (EvP.newC (b := .cells (itC z) 27 false) (mk := .ptr) S2 6 rfl rfl (by decide) (fun h3 i3 col3 A3 S3 o3 c3 n3 => ?_)))
      clear a1 a2
      skip
      (refine EvO.cons0 rfl rfl (EvP.storeC (v := .agg (itC (at' l i))) S3 6 o3 c3 (by decide) rfl rfl rfl rfl rfl (by show 0 + 2 ≤ 2; decide) (fun h4 A4 S4 o4 _ _ => ?_)))
      have o4 : h4.t.get i3 = some (.cells (itC (at' l i)) 27 false) := o4
      have B4 : Step (fun c => c = 6) col h2 col3 h4 := A3.trans A4
      have n6 : ∀ j, ¬ (col j = 6) := fun j => by
        have hOB := Nat.lt_or_ge j h.next
        rcases hOB with h' | h'
        · rw [A2.old j h']; decide
        · intro e
          have := A2.new j h' (by rw [e]; decide)
          rw [e] at this
          rcases this with e | e | e <;> cases e
      have D4 : Step (fun _ => False) col h2 col h4 := Step.drop S2 B4 (fun j e => absurd e (n6 j))
      have T4 := S2.step D4 (fun e => e)
      have q4 := (q2.other D4 (fun _ e => e.elim) T4)
      have f1 := load1 (T := TT gt) (t := 3) (off := 0) o4 rfl rfl rfl
      have f2 := load1 (T := TT gt) (t := 3) (off := 1) o4 rfl rfl rfl
      have A5 := A2.trans (D4.mono fun _ e => e.elim)
      have fr : Free col := Free.step (h := h) (col := fun _ => 0) (fun _ => ⟨(show (0 : Nat) ≠ 8 by decide), (show (0 : Nat) ≠ 9 by decide)⟩) A5 r3_free
      clear A3 S3 o3 c3 A4 S4
      repeat (first | refine EvO.plain rfl rfl rfl rfl rfl rfl ?_ | refine EvO.plain rfl rfl rfl rfl rfl (by assumption) ?_ | refine EvC.region rfl ?_ | refine EvO.nil ?_ | refine at_normal ?_)
      (refine EvO.cons rfl rfl rfl (EvP.callF rfl rfl rfl rfl (EvF.mono (Put_spec q4 fr R2 (by omega) (at' l i).1 (at' l i).2) ?_)))
      rintro _ h5 _ ⟨col5, hv5, hp5, m5, A6, q5, R5, l5⟩
      clear f1 f2
      repeat (first | refine EvO.plain rfl rfl rfl rfl rfl rfl ?_ | refine EvC.region rfl ?_ | refine EvO.nil ?_ | refine at_normal ?_ | refine be_normal ?_ | refine ro_normal ?_ | refine EvO.cons rfl rfl rfl (EvP.add64 rfl rfl (by omega) ?_))
      exact ⟨l.length - (i + 1), by omega, i + 1, G, col5, hv5, hp5, m5, _, hG, A5.trans A6, q5, by rw [dueL_next hlt]; exact R5, by omega, by omega, rfl, hold ⟨rfl, rfl, rfl, rfl, trivial⟩⟩
    · have hOB : i = l.length := by omega
      obtain rfl := hOB
      rw [List.take_length] at R2
      have fr : Free col := Free.step (h := h) (col := fun _ => 0) (fun _ => ⟨(show (0 : Nat) ≠ 8 by decide), (show (0 : Nat) ≠ 9 by decide)⟩) A2 r3_free
      repeat (first | refine EvO.plain rfl rfl rfl rfl rfl rfl ?_ | refine EvC.seq ?_ | refine EvC.region rfl ?_ | refine EvO.nil ?_ | refine at_normal ?_ | refine EvC.ret ?_ | refine EvC.exit ?_ | refine at_exit ?_ | refine be_same rfl ?_ | refine ro_exit ?_)
      (refine ret_is (v := .ptr p 0) rfl rfl ?_)
      refine ⟨hle2, p, mv, G, col, hv, hp, m, rfl, hG, q2, fr, fun j => ?_, R2, by omega⟩
      have hOB := Nat.lt_or_ge j h.next
      rcases hOB with h' | h'
      · rw [A2.old j h']; exact ⟨by decide, by decide⟩
      · by_cases e0 : col j = 0
        · rw [e0]; exact ⟨by decide, by decide⟩
        · have := A2.new j h' e0
          rcases this with e | e | e <;> (rw [e]; exact ⟨by decide, by decide⟩)
end Pf
end Go.Proofs.Ytohlmbbmeknfiaa
