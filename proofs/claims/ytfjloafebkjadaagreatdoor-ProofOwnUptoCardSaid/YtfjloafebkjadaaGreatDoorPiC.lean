/- The first part of a row of rows; the first empty clause. -/
import Derived.Test.YtfjloafebkjadaaGreatDoorPiB
import Derived.Test.YtfjloafebkjadaaGreatDoorPgH
import Derived.Test.YtfjloafebkjadaaGreatDoorPgJ
import Derived.Test.YtfjloafebkjadaaGreatDoorPfL
namespace Go.Proofs.YtfjloafebkjadaaGreatDoor
namespace Pf
open Go Go.AI Go.Proofs
variable {gt : Tree (List AV)}
/-- The first part of a row of rows. -/
theorem cut_head {col : Nat → Nat} {c n k : Nat} {h : AH} {v : AV} {cells : List AV} (V : Vec col c h 35 1 v n cells) (hk : k ≤ n) :
    ∃ v', (∀ h', h.le h' → aslice (TT gt) h' 22 v none (some (.int .i64 k)) none = some v') ∧ Vec col c h 35 1 v' k (cells.take k) := by
  have b : ∀ c, k ≤ c → bounds n c none (some (.int .i64 k)) none = some (0, k, c) := fun c hc => by
    show (match (if (0 : Int) ≤ (k : Int) ∧ (k : Int) ≤ (c : Int) then some ((k : Int)).toNat else none) with | none => none | some h => some (0, h, c)) = _
    rw [if_pos (by omega)]; rfl
  cases V with
  | nil =>
    have hOB : k = 0 := by omega
    obtain rfl := hOB
    exact ⟨.nilSlice, fun _ _ => rfl, .nil⟩
  | @mk id _ cap ex _ tail hg hc hn hx =>
    rw [Nat.mul_one] at hn
    have hct : cells ++ tail = cells.take k ++ (cells.drop k ++ tail) := by rw [← List.append_assoc, List.take_append_drop]
    cases ex with
    | true =>
      have hOB := hx rfl
      obtain ⟨h1, h2⟩ := hOB
      refine ⟨.slice id 0 k cap true, fun h' _ => ?_, .mk (tail := cells.drop k ++ tail) (by rw [← hct]; exact hg) hc (by rw [List.length_take]; omega) (fun _ => ⟨by omega, by rw [← hct]; exact h2⟩)⟩
      show cut id 0 1 (bounds n cap none (some (.int .i64 k)) none) = _
      rw [b _ (by omega)]; simp [cut]
    | false =>
      refine ⟨.slice id 0 k 0 false, fun h' hl => ?_, .mk (tail := cells.drop k ++ tail) (by rw [← hct]; exact hg) hc (by rw [List.length_take]; omega) (fun e => nomatch e)⟩
      have hg' := hl _ _ hg
      show (match some ti35, ownOf h' id with
        | some ie, some (cs, el) =>
          if ie.size = 0 ∨ szOf (TT gt) el ≠ ie.size ∨ cs.length < 0 then none else
          match bounds n ((cs.length - 0) / ie.size) none (some (.int .i64 k)) none with
          | some (l, hi, mm) => if (cs.length - 0) / ie.size < hi then none else if l = (cs.length - 0) / ie.size ∧ 0 < l then some AV.eslice else some (AV.slice id (0 + l * ie.size) (hi - l) 0 false)
          | none => none
        | _, _ => none) = _
      have hs : szOf (TT gt) 35 = 1 := rfl
      have h1 : ti35.size = 1 := rfl
      have hlen : k ≤ (cells ++ tail).length := by simp; omega
      simp only [ownOf, hg', hs, h1, Nat.sub_zero, Nat.div_one]
      rw [if_neg (by omega), b _ hlen]
      simp only
      rw [if_neg (by omega), if_neg (by omega)]
      simp
/-- Where the first empty clause is. -/
theorem idx_spec {h : AH} {n : Int} {pv : AV} {P : List (List Int)} {pc : Nat → AV} (D : CnfAt h n pv P pc) (hm : P.length ≤ 2 ^ 30) (hl : ∀ c ∈ P, c.length ≤ 2 ^ 30) (hx : ∃ i, i < P.length ∧ P.getD i [] = []) :
    EvF (TT gt) X 54 [pv, .func 55 []] h (fun r h' => h' = h ∧ ∃ j : Nat, r = .int .i64 j ∧ j < P.length ∧ P.getD j [] = []) := by
  have ln := D.rows.len_any (T := TT gt) (t := 22) rfl h
  refine EvF.enter rfl rfl rfl ?_
  repeat (first | refine EvO.plain rfl rfl rfl rfl rfl rfl ?_ | refine EvO.plain rfl rfl rfl rfl rfl (by assumption) ?_ | refine EvC.seq ?_ | refine EvC.region rfl ?_ | refine EvO.nil ?_ | refine at_normal ?_ | refine EvC.block ?_)
  refine EvC.loop (fun m σ h' => ∃ (i : Nat) (E : Nat → AV), h' = h ∧ i ≤ P.length ∧ (∀ j, j < i → P.getD j [] ≠ []) ∧ m = P.length - i ∧ σ = upds [(0, pv), (1, .func 55 []), (7, .int .i64 P.length), (8, .int .i64 i)] E) (P.length) ?_ ?_
  · exact ⟨0, _, rfl, Nat.zero_le _, fun j hj => absurd hj (Nat.not_lt_zero _), rfl, hold ⟨rfl, rfl, rfl, rfl, trivial⟩⟩
  · rintro m _ h1 ⟨i, E, rfl, hi, hne, rfl, rfl⟩
    repeat (first | refine EvO.plain rfl rfl rfl rfl rfl rfl ?_ | refine EvC.seq ?_ | refine EvC.region rfl ?_ | refine EvO.nil ?_ | refine at_normal ?_)
    refine EvC.decide rfl (fun hc => ?_) (fun hc => ?_)
    · have hlt : i < P.length := by omega
      have hOB := D.rows.at1 (T := TT gt) (t := 22) (e := 35) rfl rfl rfl rfl (k := .i64) (i := i) (by omega) (by omega)
      obtain ⟨q, b1, b2⟩ := hOB
      rw [Int.toNat_natCast] at b2
      have lr := RowOf.len_any (T := TT gt) (t := 35) (D.ints i hlt) rfl
      have hs := hl _ (getDL_mem hlt)
      have one : EvF (TT gt) X 55 [pc i] h1 (fun r h2 => h2 = h1 ∧ r = .bool ((P.getD i []).length == (0 : Int))) := by
        have lr := lr h1
        refine EvF.enter rfl rfl rfl ?_
        repeat (first | refine EvO.plain rfl rfl rfl rfl rfl rfl ?_ | refine EvO.plain rfl rfl rfl rfl rfl (by assumption) ?_ | refine EvC.seq ?_ | refine EvC.region rfl ?_ | refine EvO.nil ?_ | refine at_normal ?_ | refine EvC.ret ?_)
        (refine ret_is (v := .bool (((P.getD i []).length : Int) == 0)) rfl rfl ?_)
        exact ⟨rfl, rfl⟩
      clear lr
      repeat (first | refine EvO.plain rfl rfl rfl rfl rfl rfl ?_ | refine EvO.plain rfl rfl rfl rfl rfl (by assumption) ?_ | refine EvC.seq ?_ | refine EvC.region rfl ?_ | refine EvO.nil ?_ | refine at_normal ?_ | refine EvC.skip ?_ | refine EvC.block ?_)
      (refine EvO.cons rfl rfl rfl (EvP.callF rfl rfl rfl rfl (EvF.mono (one) ?_)))
      rintro _ h2 _ ⟨rfl, rfl⟩
      repeat (first | refine EvO.nil ?_ | refine at_normal ?_)
      by_cases h0 : P.getD i [] = []
      · refine EvC.cond (t := true) (isT (beq_true (by rw [h0]; rfl))) (fun _ => ?_) (fun e => nomatch e)
        repeat (first | refine EvO.plain rfl rfl rfl rfl rfl rfl ?_ | refine EvC.seq ?_ | refine EvC.region rfl ?_ | refine EvO.nil ?_ | refine at_normal ?_ | refine EvC.ret ?_ | refine at_ret ?_ | refine be_ret ?_ | refine ro_ret ?_)
        (refine ret_is (v := .int .i64 i) rfl rfl ?_)
        exact ⟨rfl, i, rfl, hlt, h0⟩
      · refine EvC.cond (t := false) (isT (beq_false (by have : (P.getD i []).length ≠ 0 := fun e => h0 (List.eq_nil_of_length_eq_zero e); omega))) (fun e => nomatch e) (fun _ => ?_)
        repeat (first | refine EvO.plain rfl rfl rfl rfl rfl rfl ?_ | refine EvC.region rfl ?_ | refine EvO.nil ?_ | refine at_normal ?_ | refine EvC.skip ?_ | refine be_normal ?_ | refine ro_normal ?_ | refine EvO.cons rfl rfl rfl (EvP.add64 rfl rfl (by omega) ?_))
        refine ⟨P.length - (i + 1), by omega, i + 1, _, rfl, by omega, fun j hj => ?_, by omega, hold ⟨rfl, rfl, rfl, rfl, trivial⟩⟩
        have hOB := Nat.lt_or_ge j i
        rcases hOB with h' | h'
        · exact hne j h'
        · have hOB : j = i := by omega
          obtain rfl := hOB
          exact h0
    · obtain ⟨j, h1, h2⟩ := hx
      exact absurd h2 (hne j (by omega))
end Pf
end Go.Proofs.YtfjloafebkjadaaGreatDoor
