/- Whether a number is in a row; whether rows are the same. -/
import Derived.Test.YtheiionmocfleaaDoorPfF
/- Whether a whole number is in a row. -/
namespace Go.Proofs.YtheiionmocfleaaDoor
namespace Pf
open Go Go.AI Go.Proofs
variable {gt : Tree (List AV)}
theorem take_next {l : List Int} {i : Nat} (h : i < l.length) : l.take (i + 1) = l.take i ++ [l.getD i 0] := by
  rw [List.take_add_one, List.getElem?_eq_getElem h, List.getD_eq_getElem?_getD, List.getElem?_eq_getElem h]; rfl
theorem indexI_spec {h : AH} {v : AV} {l : List Int} (row : IntRow h v l) (x : Int) (hl : l.length ≤ 2 ^ 50) :
    EvF (TT gt) X 80 [v, .int .i64 x] h (fun r h' => h' = h ∧ ∃ k : Int, r = .int .i64 k ∧ (k ≥ 0 ↔ x ∈ l)) := by
  have ln := row.len (T := TT gt) (t := 25) rfl
  refine EvF.enter rfl rfl rfl ?_
  repeat (first | refine EvO.plain rfl rfl rfl rfl rfl rfl ?_ | refine EvO.plain rfl rfl rfl rfl rfl (by assumption) ?_ | refine EvC.seq ?_ | refine EvC.region rfl ?_ | refine EvO.nil ?_ | refine at_normal ?_ | refine EvC.block ?_)
  refine EvC.loop (fun m σ h' => h' = h ∧ ∃ (i : Nat) (E : Nat → AV), i ≤ l.length ∧ x ∉ l.take i ∧ m = l.length - i ∧ σ = upds [(0, v), (1, .int .i64 x), (6, v), (7, .int .i64 l.length), (8, .int .i64 i)] E) (l.length) ?_ ?_
  · exact ⟨rfl, 0, _, Nat.zero_le _, by simp, rfl, hold ⟨rfl, rfl, rfl, rfl, rfl, trivial⟩⟩
  · rintro m _ h ⟨rfl, i, E, hi, hx, rfl, rfl⟩
    repeat (first | refine EvO.plain rfl rfl rfl rfl rfl rfl ?_ | refine EvC.seq ?_ | refine EvC.region rfl ?_ | refine EvO.nil ?_ | refine at_normal ?_)
    refine EvC.decide rfl (fun hc => ?_) (fun hc => ?_)
    · have hlt : i < l.length := by omega
      have hOB := row.at1 (T := TT gt) (t := 25) (e := 3) rfl rfl rfl rfl (k := .i64) (i := i) (by omega) (by omega)
      obtain ⟨q, b1, b2⟩ := hOB
      rw [Int.toNat_natCast] at b2
      repeat (first | refine EvO.plain rfl rfl rfl rfl rfl rfl ?_ | refine EvO.plain rfl rfl rfl rfl rfl (by assumption) ?_ | refine EvC.seq ?_ | refine EvC.region rfl ?_ | refine EvO.nil ?_ | refine at_normal ?_ | refine EvC.skip ?_ | refine EvC.block ?_)
      by_cases e : x = l.getD i 0
      · refine EvC.cond (t := true) (isT (beq_true e)) (fun _ => ?_) (fun e => nomatch e)
        repeat (first | refine EvO.plain rfl rfl rfl rfl rfl rfl ?_ | refine EvC.seq ?_ | refine EvC.region rfl ?_ | refine EvO.nil ?_ | refine at_normal ?_ | refine EvC.ret ?_ | refine at_ret ?_ | refine be_ret ?_ | refine ro_ret ?_)
        (refine ret_is (v := .int .i64 i) rfl rfl ?_)
        exact ⟨rfl, i, rfl, ⟨fun _ => by rw [e]; exact getD_mem hlt, fun _ => by omega⟩⟩
      · refine EvC.cond (t := false) (isT (beq_false e)) (fun e => nomatch e) (fun _ => ?_)
        repeat (first | refine EvO.plain rfl rfl rfl rfl rfl rfl ?_ | refine EvC.region rfl ?_ | refine EvO.nil ?_ | refine at_normal ?_ | refine EvC.skip ?_ | refine be_normal ?_ | refine ro_normal ?_ | refine EvO.cons rfl rfl rfl (EvP.add64 rfl rfl (by omega) ?_))
        refine ⟨l.length - (i + 1), by omega, rfl, i + 1, _, by omega, ?_, rfl, hold ⟨rfl, rfl, rfl, rfl, rfl, trivial⟩⟩
        rw [take_next hlt]
        simp only [List.mem_append, List.mem_singleton]
        exact fun h => h.elim hx e
    · have hOB : i = l.length := by omega
      obtain rfl := hOB
      rw [List.take_length] at hx
      repeat (first | refine EvO.plain rfl rfl rfl rfl rfl rfl ?_ | refine EvC.seq ?_ | refine EvC.region rfl ?_ | refine EvO.nil ?_ | refine at_normal ?_ | refine EvC.ret ?_ | refine EvC.exit ?_ | refine at_exit ?_ | refine be_same rfl ?_ | refine ro_exit ?_)
      (refine ret_is (v := .int .i64 (-1)) rfl rfl ?_)
      exact ⟨rfl, -1, rfl, ⟨fun h => absurd h (by decide), fun h => absurd h hx⟩⟩
theorem containsI_spec {h : AH} {v : AV} {l : List Int} (row : IntRow h v l) (x : Int) (hl : l.length ≤ 2 ^ 50) :
    EvF (TT gt) X 63 [v, .int .i64 x] h (fun r h' => h' = h ∧ r = .bool (decide (x ∈ l))) := by
  refine EvF.enter rfl rfl rfl ?_
  repeat (first | refine EvO.plain rfl rfl rfl rfl rfl rfl ?_ | refine EvC.seq ?_ | refine EvC.region rfl ?_ | refine EvO.nil ?_ | refine at_normal ?_)
  (refine EvO.cons rfl rfl rfl (EvP.callF rfl rfl rfl rfl (EvF.mono (indexI_spec row x hl) ?_)))
  rintro _ h _ ⟨rfl, k, rfl, hk⟩
  repeat (first | refine EvO.plain rfl rfl rfl rfl rfl rfl ?_ | refine EvO.nil ?_ | refine at_normal ?_ | refine EvC.ret ?_)
  (refine ret_is (v := .bool (decide (k ≥ 0))) rfl rfl ?_)
  exact ⟨rfl, congrArg AV.bool (decide_eq_decide.2 hk)⟩
end Pf
end Go.Proofs.YtheiionmocfleaaDoor
/- Whether two rows of whole numbers are the same. -/
namespace Go.Proofs.YtheiionmocfleaaDoor
namespace Pf
open Go Go.AI Go.Proofs
variable {gt : Tree (List AV)}
theorem sameInts_spec {h : AH} {u v : AV} {l : List Int} (ru : IntRow h u l) (rv : IntRow h v l) (hl : l.length ≤ 2 ^ 50) :
    EvF (TT gt) X 15 [u, v] h (fun r h' => h' = h ∧ r = .bool true) := by
  have lu := RowOf.len_any (T := TT gt) (t := 25) ru rfl h
  have lv := RowOf.len_any (T := TT gt) (t := 25) rv rfl h
  refine EvF.enter rfl rfl rfl ?_
  repeat (first | refine EvO.plain rfl rfl rfl rfl rfl rfl ?_ | refine EvO.plain rfl rfl rfl rfl rfl (by assumption) ?_ | refine EvC.seq ?_ | refine EvC.region rfl ?_ | refine EvO.nil ?_ | refine at_normal ?_)
  refine EvC.cond (t := false) (isT (bne_eq_false_iff_eq.2 rfl)) (fun e => nomatch e) (fun _ => ?_)
  repeat (first | refine EvO.plain rfl rfl rfl rfl rfl rfl ?_ | refine EvO.plain rfl rfl rfl rfl rfl (by assumption) ?_ | refine EvC.seq ?_ | refine EvC.region rfl ?_ | refine EvO.nil ?_ | refine at_normal ?_ | refine EvC.skip ?_ | refine EvC.block ?_)
  clear lu lv
  refine EvC.loop (fun m σ h' => h' = h ∧ ∃ (i : Nat) (E : Nat → AV), i ≤ l.length ∧ m = l.length - i ∧ σ = upds [(0, u), (1, v), (11, u), (12, .int .i64 l.length), (13, .int .i64 i)] E) (l.length) ?_ ?_
  · exact ⟨rfl, 0, _, Nat.zero_le _, rfl, hold ⟨rfl, rfl, rfl, rfl, rfl, trivial⟩⟩
  · rintro m _ h ⟨rfl, i, E, hi, rfl, rfl⟩
    repeat (first | refine EvO.plain rfl rfl rfl rfl rfl rfl ?_ | refine EvC.seq ?_ | refine EvC.region rfl ?_ | refine EvO.nil ?_ | refine at_normal ?_)
    refine EvC.decide rfl (fun hc => ?_) (fun hc => ?_)
    · have hlt : i < l.length := by omega
      have hOB := ru.at1 (T := TT gt) (t := 25) (e := 3) rfl rfl rfl rfl (k := .i64) (i := i) (by omega) (by omega)
      obtain ⟨p, a1, a2⟩ := hOB
      have hOB := rv.at1 (T := TT gt) (t := 25) (e := 3) rfl rfl rfl rfl (k := .i64) (i := i) (by omega) (by omega)
      obtain ⟨q, b1, b2⟩ := hOB
      rw [Int.toNat_natCast] at a2 b2
      repeat (first | refine EvO.plain rfl rfl rfl rfl rfl rfl ?_ | refine EvC.seq ?_ | refine EvC.region rfl ?_ | refine EvO.nil ?_ | refine at_normal ?_ | refine EvC.skip ?_ | refine EvC.block ?_)
      refine EvC.drawn (p := [⟨0, false, 0, 0⟩, ⟨1, false, 0, 0⟩, ⟨2, false, 0, 0⟩, ⟨3, false, 0, 0⟩, ⟨4, false, 0, 0⟩, ⟨5, false, 0, 0⟩, ⟨6, false, 0, 0⟩, ⟨7, false, 0, 0⟩, ⟨8, false, 0, 0⟩]) rfl (by kernel_rfl) (by kernel_rfl) rfl ?_
      repeat (first | refine at_normal ?_ | refine EvR.nil ?_ | refine EvR.plain rfl rfl rfl rfl rfl rfl rfl ?_ | refine EvR.plain rfl rfl rfl rfl rfl rfl (by assumption) ?_)
      refine EvC.cond (t := false) (isT (bne_eq_false_iff_eq.2 rfl)) (fun e => nomatch e) (fun _ => ?_)
      repeat (first | refine EvO.plain rfl rfl rfl rfl rfl rfl ?_ | refine EvC.region rfl ?_ | refine EvO.nil ?_ | refine at_normal ?_ | refine EvC.skip ?_ | refine be_normal ?_ | refine ro_normal ?_ | refine EvO.cons rfl rfl rfl (EvP.add64 rfl rfl (by omega) ?_))
      exact ⟨l.length - (i + 1), by omega, rfl, i + 1, _, by omega, rfl, hold ⟨rfl, rfl, rfl, rfl, rfl, trivial⟩⟩
    · repeat (first | refine EvO.plain rfl rfl rfl rfl rfl rfl ?_ | refine EvC.seq ?_ | refine EvC.region rfl ?_ | refine EvO.nil ?_ | refine at_normal ?_ | refine EvC.ret ?_ | refine EvC.exit ?_ | refine at_exit ?_ | refine be_same rfl ?_ | refine ro_exit ?_)
      (refine ret_is (v := .bool true) rfl rfl ?_)
      exact ⟨rfl, rfl⟩
end Pf
end Go.Proofs.YtheiionmocfleaaDoor
