/- The law SatSolves answers true. -/
import Derived.Test.YtheiionmocfleaaDoorScC
import Derived.Test.YtheiionmocfleaaDoorSaY
/- The law SatSolves. -/
namespace Go.Proofs.YtheiionmocfleaaDoor
namespace Pf
namespace Sa
open Go Go.AI Go.Proofs
variable {gt : Tree (List AV)}
theorem oks_len {n : Nat} {l : List Int} (hn : l.Nodup) (h : ∀ x ∈ l, ok n x) : l.length ≤ 2 * n + 1 := by
  have := nodup_len (m := (List.range (2 * n + 1)).map fun i : Nat => (i : Int) - n) hn fun x hx => by
    have hOB := h x hx
    obtain ⟨_, h1, h2⟩ := hOB
    exact List.mem_map.2 ⟨(x + n).toNat, List.mem_range.2 (by omega), by omega⟩
  simpa using this
theorem valid_oks {n : Nat} {L : List (List Int)} (hv : valid n L) : ∀ l ∈ L, ∀ x ∈ l, ok n x := fun l hl => by
  have hOB := List.getElem_of_mem hl
  obtain ⟨i, hi, rfl⟩ := hOB
  have := hv.2.2.2.2 i hi
  rwa [List.getD_eq_getElem?_getD, List.getElem?_eq_getElem hi] at this
theorem allB_mem {L : List (List Int)} {B : List Bool} (h : allB L B) : ∀ c ∈ L, ∃ z ∈ c, holdsB B z = true := fun c hc => by
  have hOB := List.getElem_of_mem hc
  obtain ⟨i, hi, rfl⟩ := hOB
  have := h i hi
  rw [List.getD_eq_getElem?_getD, List.getElem?_eq_getElem hi] at this
  exact List.any_eq_true.1 this
theorem rup_refutes {n : Nat} {L P : List (List Int)} (R : Rup n L P) : Refutes L P := by
  have hne : P ≠ [] := fun e => by rw [e] at R; exact nomatch R.1
  have h0 : 0 < P.length := List.length_pos_iff.2 hne
  refine ⟨h0, ?_, fun i hi => (R.2 i hi).1⟩
  have := R.1
  rw [List.getLast?_eq_getElem?] at this
  rw [List.getD_eq_getElem?_getD, this]; rfl
theorem none_cnt {L : List (List Int)} {n : Nat} (h : ∀ B : List Bool, B.length = n → ¬ allB L B) (m : Nat) : cntB L n m = 0 := by
  unfold cntB
  rw [List.countP_eq_zero]
  intro s _
  rw [decide_eq_false (h _ (bitsB_len s n))]
  exact Bool.false_ne_true
theorem splitL_len (n : Nat) : ∀ k, k ≤ n + 1 → (splitL n k).length ≤ k * 2 ^ n
  | 0, _ => by simp [splitL]
  | k + 1, hk => by
    have h1 := splitL_len n k (by omega)
    have h2 : 2 ^ (n - k) ≤ 2 ^ n := Nat.pow_le_pow_right (by decide) (by omega)
    rw [splitL, List.length_append, Nat.succ_mul]
    have h3 : (lvlL (n - k) (2 ^ (n - k))).length = 2 ^ (n - k) := by simp [lvlL]
    omega
/-- What Solve answers, without the machine: a refutation in each case in which there is no model. -/
theorem says_rup {n : Nat} {L P : List (List Int)} (hL : ∀ l ∈ L, ∀ x ∈ l, ok n x) (h : (Rup n L P ∧ P.length ≤ 20002) ∨ (n ≤ 12 ∧ P = splitL n (n + 1) ∧ ∀ s, s < 2 ^ n → ¬ allB L (bitsB s n))) : (Rup n L P ∧ P.length ≤ 60000) ∧ ∀ B : List Bool, B.length = n → ¬ allB L B := by
  have R : Rup n L P ∧ P.length ≤ 60000 := by
    rcases h with h | ⟨hn, rfl, hno⟩
    · exact ⟨h.1, by omega⟩
    · refine ⟨split_rup hL hno, ?_⟩
      have h1 := splitL_len n (n + 1) (Nat.le_refl _)
      have h2 : 2 ^ n ≤ 2 ^ 12 := Nat.pow_le_pow_right (by decide) hn
      have h3 : (n + 1) * 2 ^ n ≤ 13 * 2 ^ 12 := Nat.mul_le_mul (by omega) h2
      omega
  exact ⟨R, fun B hB hA => rup_sound hB hL R.1 (allB_mem hA)⟩
end Sa
end Pf
end Go.Proofs.YtheiionmocfleaaDoor
/- The law SatSolves, walked through. -/
namespace Go.Proofs.YtheiionmocfleaaDoor
namespace Pf
namespace Sa
open Go Go.AI Go.Proofs
variable {gt : Tree (List AV)}
-- the law's other way out
set_option maxHeartbeats 8000000 in
theorem law_solves {h : AH} (hw : WF h) {vars : Int} {cl : AV} {L : List (List Int)} {cv : Nat → AV} (C : CnfAt h vars cl L cv) (nc : NZ cl) {mv : AV} {M : List Bool} (hM : BoolRow h mv M) (nm : NZ mv) :
    EvF (TT gt) X 4 [.agg [.int .i64 vars, cl], mv] h (fun r _ => r = .bool true) := by
  have S0 := HS.all hw
  refine EvF.enter rfl rfl rfl ?_
  repeat (first | refine EvC.seq ?_ | refine EvC.region rfl ?_)
  (refine EvO.cons rfl rfl rfl (EvP.newR (b := .cells [.int .i64 vars, cl] 24 false) (mk := .ptr) S0 rfl rfl (fun h1 b A1 S1 hle1 o1 _ _ => ?_)))
  have f1 := loadAgg (T := TT gt) (t := 24) (off := 0) (n := 2) (r := [.int .i64 vars, cl]) o1 rfl rfl
  repeat (first | refine EvO.plain rfl rfl rfl rfl rfl rfl ?_ | refine EvO.plain rfl rfl rfl rfl rfl (by assumption) ?_ | refine EvC.seq ?_ | refine EvC.region rfl ?_ | refine EvO.nil ?_ | refine at_normal ?_)
  (refine EvO.cons rfl rfl rfl (EvP.callF rfl rfl rfl rfl (EvF.mono (few_spec (facts gt) S1.wf (C.mono (fun i o e => S1.le _ _ (hle1 _ _ e)))) ?_)))
  rintro _ h2 _ ⟨hg2, q, rfl⟩
  have hle2 : h.le h2 := fun i o e => hg2.le _ _ (S1.le _ _ (hle1 _ _ e))
  have f2 := loadAgg (T := TT gt) (t := 24) (off := 0) (n := 2) (r := [.int .i64 vars, cl]) (hg2.le _ _ o1) rfl rfl
  clear f1
  cases q with
  | false =>
    repeat (first | refine EvO.plain rfl rfl rfl rfl rfl rfl ?_ | refine EvO.nil ?_ | refine at_normal ?_ | refine EvO.off rfl rfl rfl ?_)
    refine EvC.cond (t := true) rfl (fun _ => ?_) (fun e => nomatch e)
    repeat (first | refine EvC.seq ?_ | refine EvC.region rfl ?_)
    (refine EvO.cons rfl rfl rfl (EvP.callF rfl rfl rfl rfl (EvF.mono (awake_spec (facts gt)) ?_)))
    rintro _ h99 _ ⟨rfl, rfl⟩
    repeat (first | refine EvO.plain rfl rfl rfl rfl rfl rfl ?_ | refine EvO.nil ?_ | refine at_normal ?_ | refine EvC.ret ?_ | refine at_ret ?_)
    (refine ret_is (v := .bool true) rfl rfl ?_)
    rfl
  | true =>
    have ln := RowOf.len_any (T := TT gt) (t := 33) hM rfl h2
    repeat (first | refine EvO.plain rfl rfl rfl rfl rfl rfl ?_ | refine EvO.plainOn rfl rfl rfl rfl rfl rfl ?_ | refine EvO.plainOn rfl rfl rfl rfl rfl (by assumption) ?_)
    clear ln
    by_cases hlen : (M.length : Int) > 200
    · refine EvO.on rfl rfl rfl (EvP.quiet rfl (isB (decide_eq_true hlen)) ?_)
      repeat (first | refine EvO.plain rfl rfl rfl rfl rfl rfl ?_ | refine EvO.nil ?_ | refine at_normal ?_)
      refine EvC.cond (t := true) rfl (fun _ => ?_) (fun e => nomatch e)
      repeat (first | refine EvC.seq ?_ | refine EvC.region rfl ?_)
      (refine EvO.cons rfl rfl rfl (EvP.callF rfl rfl rfl rfl (EvF.mono (awake_spec (facts gt)) ?_)))
      rintro _ h99 _ ⟨rfl, rfl⟩
      repeat (first | refine EvO.plain rfl rfl rfl rfl rfl rfl ?_ | refine EvO.nil ?_ | refine at_normal ?_ | refine EvC.ret ?_ | refine at_ret ?_)
      (refine ret_is (v := .bool true) rfl rfl ?_)
      rfl
    · refine EvO.on rfl rfl rfl (EvP.quiet rfl (isB (decide_eq_false hlen)) ?_)
      repeat (first | refine EvO.plain rfl rfl rfl rfl rfl rfl ?_ | refine EvO.nil ?_ | refine at_normal ?_)
      refine EvC.cond (t := false) rfl (fun e => nomatch e) (fun _ => ?_)
      repeat (first | refine EvO.plain rfl rfl rfl rfl rfl (by assumption) ?_ | refine EvC.seq ?_ | refine EvC.region rfl ?_ | refine at_normal ?_ | refine EvC.skip ?_)
      (refine EvO.cons rfl rfl rfl (EvP.callF rfl rfl rfl rfl (EvF.mono (solve_spec hg2.wf (C.mono hle2)) ?_)))
      rintro _ h3 _ ⟨⟨hle23, hw3⟩, hS⟩
      have hle3 : h.le h3 := fun i o e => hle23 _ _ (hle2 _ _ e)
      have o3 := hle23 _ _ (hg2.le _ _ o1)
      have f3 := loadAgg (T := TT gt) (t := 24) (off := 0) (n := 2) (r := [.int .i64 vars, cl]) o3 rfl rfl
      clear f2
      rcases hS with ⟨hv, rfl⟩ | ⟨hv, hS⟩
      · repeat (first | refine EvO.plain rfl rfl rfl rfl rfl rfl ?_ | refine EvO.plain rfl rfl rfl rfl rfl (by assumption) ?_ | refine EvC.seq ?_ | refine EvC.region rfl ?_ | refine EvO.nil ?_ | refine at_normal ?_)
        (refine EvO.cons rfl rfl rfl (EvP.callF rfl rfl rfl rfl (EvF.mono (refValid_spec (facts gt) hw3 (C.mono hle3)) ?_)))
        rintro _ h4 _ ⟨hg4, rfl⟩
        rw [decide_eq_false hv]
        clear f3
        repeat (first | refine EvO.plain rfl rfl rfl rfl rfl rfl ?_ | refine EvO.nil ?_ | refine at_normal ?_)
        refine EvC.cond (t := true) rfl (fun _ => ?_) (fun e => nomatch e)
        repeat (first | refine EvO.plain rfl rfl rfl rfl rfl rfl ?_ | refine EvC.seq ?_ | refine EvC.region rfl ?_ | refine EvO.plainOn rfl rfl rfl rfl rfl rfl ?_)
        refine EvO.on rfl rfl rfl (EvP.quiet (v := .bool true) rfl rfl ?_)
        repeat (first | refine EvO.plain rfl rfl rfl rfl rfl rfl ?_ | refine EvO.plainOn rfl rfl rfl rfl rfl rfl ?_)
        refine EvO.on rfl rfl rfl (EvP.quiet (v := .bool true) rfl rfl ?_)
        repeat (first | refine EvO.plain rfl rfl rfl rfl rfl rfl ?_ | refine EvO.plainOn rfl rfl rfl rfl rfl rfl ?_)
        refine EvO.on rfl rfl rfl (EvP.quiet (v := .bool true) rfl rfl ?_)
        repeat (refine EvO.plain rfl rfl rfl rfl rfl rfl ?_)
        refine EvO.on rfl rfl rfl (EvP.callF rfl rfl rfl rfl (EvF.mono (awake_spec (facts gt)) ?_))
        rintro _ h99 _ ⟨rfl, rfl⟩
        repeat (first | refine EvO.plain rfl rfl rfl rfl rfl rfl ?_ | refine EvO.nil ?_ | refine at_normal ?_ | refine EvC.ret ?_ | refine at_ret ?_)
        (refine ret_is (v := .bool true) rfl rfl ?_)
        rfl
      · have hOB : ∃ n : Nat, vars = n := ⟨vars.toNat, by have := hv.1; omega⟩
        obtain ⟨n, rfl⟩ := hOB
        rw [Int.toNat_natCast] at hS
        have hN := hv.2.1
        have hLok := valid_oks hv
        rcases hS with ⟨rv, m, rfl, hm, hml, hA⟩ | ⟨rfl, hn, hcl⟩ | ⟨pv, P, rfl, hP, hR⟩
        · repeat (first | refine EvO.plain rfl rfl rfl rfl rfl rfl ?_ | refine EvO.plain rfl rfl rfl rfl rfl (by assumption) ?_ | refine EvC.seq ?_ | refine EvC.region rfl ?_ | refine EvO.nil ?_ | refine at_normal ?_)
          (refine EvO.cons rfl rfl rfl (EvP.callF rfl rfl rfl rfl (EvF.mono (refValid_spec (facts gt) hw3 (C.mono hle3)) ?_)))
          rintro _ h4 _ ⟨hg4, rfl⟩
          rw [decide_eq_true hv]
          have hle4 : h.le h4 := fun i o e => hg4.le _ _ (hle3 _ _ e)
          have f4 := loadAgg (T := TT gt) (t := 24) (off := 0) (n := 2) (r := [.int .i64 n, cl]) (hg4.le _ _ o3) rfl rfl
          clear f3
          repeat (first | refine EvO.plain rfl rfl rfl rfl rfl rfl ?_ | refine EvO.nil ?_ | refine at_normal ?_)
          refine EvC.cond (t := false) rfl (fun e => nomatch e) (fun _ => ?_)
          repeat (first | refine EvO.plain rfl rfl rfl rfl rfl rfl ?_ | refine EvC.seq ?_ | refine EvC.region rfl ?_ | refine EvO.nil ?_ | refine at_normal ?_ | refine EvC.skip ?_)
          refine EvC.cond (t := false) rfl (fun e => nomatch e) (fun _ => ?_)
          repeat (first | refine EvO.plain rfl rfl rfl rfl rfl rfl ?_ | refine EvC.seq ?_ | refine EvC.region rfl ?_ | refine EvO.nil ?_ | refine at_normal ?_ | refine EvC.skip ?_)
          refine EvC.cond (t := true) rfl (fun _ => ?_) (fun e => nomatch e)
          repeat (first | refine EvO.plain rfl rfl rfl rfl rfl rfl ?_ | refine EvO.plain rfl rfl rfl rfl rfl (by assumption) ?_ | refine EvC.seq ?_ | refine EvC.region rfl ?_)
          (refine EvO.cons rfl rfl rfl (EvP.callF rfl rfl rfl rfl (EvF.mono (refModel_spec (facts gt) hg4.wf (C.mono hle4) (RowOf.mono hg4.le hm)) ?_)))
          rintro _ h5 _ ⟨hg5, rfl⟩
          rw [modelV_good ⟨hv, by omega⟩, decide_eq_true hA]
          repeat (first | refine EvO.plain rfl rfl rfl rfl rfl rfl ?_ | refine EvC.seq ?_ | refine EvC.region rfl ?_ | refine EvO.nil ?_ | refine at_normal ?_ | refine EvO.plainOn rfl rfl rfl rfl rfl rfl ?_)
          refine EvO.on rfl rfl rfl (EvP.quiet (v := .bool true) rfl rfl ?_)
          repeat (first | refine EvO.plain rfl rfl rfl rfl rfl rfl ?_ | refine EvO.plainOn rfl rfl rfl rfl rfl rfl ?_)
          refine EvO.on rfl rfl rfl (EvP.quiet (v := .bool true) rfl rfl ?_)
          repeat (refine EvO.plain rfl rfl rfl rfl rfl rfl ?_)
          refine EvO.on rfl rfl rfl (EvP.callF rfl rfl rfl rfl (EvF.mono (awake_spec (facts gt)) ?_))
          rintro _ h99 _ ⟨rfl, rfl⟩
          repeat (first | refine EvO.plain rfl rfl rfl rfl rfl rfl ?_ | refine EvO.nil ?_ | refine at_normal ?_ | refine EvC.ret ?_ | refine at_ret ?_)
          (refine ret_is (v := .bool true) rfl rfl ?_)
          rfl
        · repeat (first | refine EvO.plain rfl rfl rfl rfl rfl rfl ?_ | refine EvO.plain rfl rfl rfl rfl rfl (by assumption) ?_ | refine EvC.seq ?_ | refine EvC.region rfl ?_ | refine EvO.nil ?_ | refine at_normal ?_)
          (refine EvO.cons rfl rfl rfl (EvP.callF rfl rfl rfl rfl (EvF.mono (refValid_spec (facts gt) hw3 (C.mono hle3)) ?_)))
          rintro _ h4 _ ⟨hg4, rfl⟩
          rw [decide_eq_true hv]
          have hle4 : h.le h4 := fun i o e => hg4.le _ _ (hle3 _ _ e)
          have o4 := hg4.le _ _ o3
          have f4 := loadAgg (T := TT gt) (t := 24) (off := 0) (n := 2) (r := [.int .i64 n, cl]) o4 rfl rfl
          have f5 := load1 (T := TT gt) (t := 3) (off := 0) o4 rfl rfl rfl
          clear f3
          repeat (first | refine EvO.plain rfl rfl rfl rfl rfl rfl ?_ | refine EvO.nil ?_ | refine at_normal ?_)
          refine EvC.cond (t := false) rfl (fun e => nomatch e) (fun _ => ?_)
          repeat (first | refine EvO.plain rfl rfl rfl rfl rfl rfl ?_ | refine EvC.seq ?_ | refine EvC.region rfl ?_ | refine EvO.nil ?_ | refine at_normal ?_ | refine EvC.skip ?_)
          refine EvC.cond (t := true) rfl (fun _ => ?_) (fun e => nomatch e)
          repeat (first | refine EvO.plain rfl rfl rfl rfl rfl rfl ?_ | refine EvC.seq ?_ | refine EvC.region rfl ?_)
          refine EvO.on rfl rfl rfl (EvP.quiet (v := .bool true) rfl rfl ?_)
          repeat (first | refine EvO.plain rfl rfl rfl rfl rfl rfl ?_ | refine EvO.plainOn rfl rfl rfl rfl rfl rfl ?_ | refine EvO.plainOn rfl rfl rfl rfl rfl (by assumption) ?_)
          refine EvO.on rfl rfl rfl (EvP.quiet (v := .bool true) rfl (isB (decide_eq_true (by omega))) ?_)
          repeat (first | refine EvO.plain rfl rfl rfl rfl rfl rfl ?_ | refine EvO.plainOn rfl rfl rfl rfl rfl (by assumption) ?_)
          refine EvO.on rfl rfl rfl (EvP.callF rfl rfl rfl rfl (EvF.mono (clashes_spec hg4.wf (C.mono hle4) (ls := []) .nil (by decide) hv (fun x hx => nomatch hx)) ?_))
          rintro _ h5 _ ⟨⟨hle5, hw5⟩, q, rfl, hq⟩
          cases q with
          | true => exact absurd (hq.1 rfl) hcl
          | false =>
            repeat (first | refine EvO.plain rfl rfl rfl rfl rfl rfl ?_ | refine EvO.plainOn rfl rfl rfl rfl rfl rfl ?_)
            refine EvO.on rfl rfl rfl (EvP.quiet (v := .bool true) rfl rfl ?_)
            repeat (first | refine EvO.plain rfl rfl rfl rfl rfl rfl ?_ | refine EvO.plainOn rfl rfl rfl rfl rfl rfl ?_)
            refine EvO.on rfl rfl rfl (EvP.quiet (v := .bool true) rfl rfl ?_)
            repeat (refine EvO.plain rfl rfl rfl rfl rfl rfl ?_)
            refine EvO.on rfl rfl rfl (EvP.callF rfl rfl rfl rfl (EvF.mono (awake_spec (facts gt)) ?_))
            rintro _ h99 _ ⟨rfl, rfl⟩
            repeat (first | refine EvO.plain rfl rfl rfl rfl rfl rfl ?_ | refine EvO.nil ?_ | refine at_normal ?_ | refine EvC.ret ?_ | refine at_ret ?_)
            (refine ret_is (v := .bool true) rfl rfl ?_)
            rfl
        · have hOB := says_rup hLok hR
          obtain ⟨⟨R, hPl⟩, hno⟩ := hOB
          obtain ⟨pc, prow, pints⟩ := hP
          repeat (first | refine EvO.plain rfl rfl rfl rfl rfl rfl ?_ | refine EvO.plain rfl rfl rfl rfl rfl (by assumption) ?_ | refine EvC.seq ?_ | refine EvC.region rfl ?_ | refine EvO.nil ?_ | refine at_normal ?_)
          (refine EvO.cons rfl rfl rfl (EvP.callF rfl rfl rfl rfl (EvF.mono (refValid_spec (facts gt) hw3 (C.mono hle3)) ?_)))
          rintro _ h4 _ ⟨hg4, rfl⟩
          rw [decide_eq_true hv]
          have hle4 : h.le h4 := fun i o e => hg4.le _ _ (hle3 _ _ e)
          have o4 := hg4.le _ _ o3
          have f4 := loadAgg (T := TT gt) (t := 24) (off := 0) (n := 2) (r := [.int .i64 n, cl]) o4 rfl rfl
          clear f3
          repeat (first | refine EvO.plain rfl rfl rfl rfl rfl rfl ?_ | refine EvO.nil ?_ | refine at_normal ?_)
          refine EvC.cond (t := false) rfl (fun e => nomatch e) (fun _ => ?_)
          repeat (first | refine EvO.plain rfl rfl rfl rfl rfl rfl ?_ | refine EvC.seq ?_ | refine EvC.region rfl ?_ | refine EvO.nil ?_ | refine at_normal ?_ | refine EvC.skip ?_)
          refine EvC.cond (t := false) rfl (fun e => nomatch e) (fun _ => ?_)
          repeat (first | refine EvO.plain rfl rfl rfl rfl rfl rfl ?_ | refine EvC.seq ?_ | refine EvC.region rfl ?_ | refine EvO.nil ?_ | refine at_normal ?_ | refine EvC.skip ?_)
          refine EvC.cond (t := false) rfl (fun e => nomatch e) (fun _ => ?_)
          repeat (first | refine EvO.plain rfl rfl rfl rfl rfl rfl ?_ | refine EvC.seq ?_ | refine EvC.region rfl ?_ | refine at_normal ?_ | refine EvC.skip ?_)
          refine EvO.on rfl rfl rfl (EvP.quiet (v := .bool false) rfl rfl ?_)
          repeat (first | refine EvO.plain rfl rfl rfl rfl rfl rfl ?_ | refine EvO.plainOn rfl rfl rfl rfl rfl rfl ?_ | refine EvO.plainOn rfl rfl rfl rfl rfl (by assumption) ?_)
          refine EvO.on rfl rfl rfl (EvP.callF rfl rfl rfl rfl (EvF.mono (lawHolds_spec hg4.wf (C.mono hle4) (ls := []) .nil (RowOf.mono hle4 hM) nm hv (fun x hx => nomatch hx) (by decide)) ?_))
          rintro _ h5 _ ⟨⟨hle45, hw5⟩, q, rfl, hq⟩
          have hqf : q = false := by
            cases q with
            | false => rfl
            | true => obtain ⟨B, hB, hA, _⟩ := hq rfl; exact absurd hA (hno B hB)
          subst hqf
          have hle5 : h.le h5 := fun i o e => hle45 _ _ (hle4 _ _ e)
          have o5 := hle45 _ _ o4
          have f5 := load1 (T := TT gt) (t := 3) (off := 0) o5 rfl rfl rfl
          clear f4
          have f6 := loadAgg (T := TT gt) (t := 24) (off := 0) (n := 2) (r := [.int .i64 n, cl]) o5 rfl rfl
          repeat (first | refine EvO.plain rfl rfl rfl rfl rfl rfl ?_ | refine EvO.plainOn rfl rfl rfl rfl rfl rfl ?_ | refine EvO.plainOn rfl rfl rfl rfl rfl (by assumption) ?_)
          have hPok : ∀ l ∈ P, (∀ x ∈ l, ok n x) ∧ l.length ≤ 2 * n + 1 := fun l hl => by
            have hOB := List.getElem_of_mem hl
            obtain ⟨i, hi, rfl⟩ := hOB
            have h8 := R.2 i hi
            rw [List.getD_eq_getElem?_getD, List.getElem?_eq_getElem hi] at h8
            exact ⟨h8.2.1, oks_len h8.2.2 h8.2.1⟩
          have hRf := rup_refutes R
          have hLl := hv.2.2.1
          by_cases h10 : (n : Int) ≤ 10
          · refine EvO.on rfl rfl rfl (EvP.quiet (v := .bool true) rfl (isB (decide_eq_true h10)) ?_)
            repeat (first | refine EvO.plainOn rfl rfl rfl rfl rfl rfl ?_ | refine EvO.plainOn rfl rfl rfl rfl rfl (by assumption) ?_)
            refine EvO.on rfl rfl rfl (EvP.callF rfl rfl rfl rfl (EvF.mono (models_spec hw5 (n := n) (by omega) (C.mono hle5) hv.2.2.2.2) ?_))
            rintro _ h7 _ ⟨⟨hle57, hw7⟩, rfl⟩
            rw [none_cnt hno]
            have hle7 : h.le h7 := fun i o e => hle57 _ _ (hle5 _ _ e)
            have o7 := hle57 _ _ o5
            clear f5 f6
            skip
            refine EvO.on rfl rfl rfl (EvP.quiet (v := .bool false) rfl rfl ?_)
            repeat (first | refine EvO.plain rfl rfl rfl rfl rfl rfl ?_ | refine EvO.nil ?_ | refine at_normal ?_ | refine EvO.plainOn rfl rfl rfl rfl rfl rfl ?_)
            refine EvC.cond (t := false) rfl (fun e => nomatch e) (fun _ => ?_)
            have ln := RowOf.len_any (T := TT gt) (t := 22) prow rfl h7
            repeat (first | refine EvO.plain rfl rfl rfl rfl rfl rfl ?_ | refine EvO.plain rfl rfl rfl rfl rfl (by assumption) ?_ | refine EvC.seq ?_ | refine EvC.region rfl ?_ | refine EvO.nil ?_ | refine at_normal ?_ | refine EvC.skip ?_)
            clear ln
            by_cases h2k : (P.length : Int) > 2000
            · refine EvC.cond (t := true) (isT (decide_eq_true h2k)) (fun _ => ?_) (fun e => nomatch e)
              repeat (first | refine EvC.seq ?_ | refine EvC.region rfl ?_)
              (refine EvO.cons rfl rfl rfl (EvP.callF rfl rfl rfl rfl (EvF.mono (awake_spec (facts gt)) ?_)))
              rintro _ h99 _ ⟨rfl, rfl⟩
              repeat (first | refine EvO.plain rfl rfl rfl rfl rfl rfl ?_ | refine EvO.nil ?_ | refine at_normal ?_ | refine EvC.ret ?_ | refine at_ret ?_)
              (refine ret_is (v := .bool true) rfl rfl ?_)
              rfl
            · refine EvC.cond (t := false) (isT (decide_eq_false h2k)) (fun e => nomatch e) (fun _ => ?_)
              have f8 := load1 (T := TT gt) (t := 3) (off := 0) o7 rfl rfl rfl
              have f9 := load1 (T := TT gt) (t := 22) (off := 1) o7 rfl rfl rfl
              have D : CnfAt h7 n pv P pc := CnfAt.mono (fun i o e => hle57 _ _ (hle45 _ _ (hg4.le _ _ e))) ⟨prow, pints, fun l hl => by have := (hPok l hl).2; omega, by omega⟩
              repeat (first | refine EvO.plain rfl rfl rfl rfl rfl rfl ?_ | refine EvO.plain rfl rfl rfl rfl rfl (by assumption) ?_ | refine EvC.seq ?_ | refine EvC.region rfl ?_ | refine at_normal ?_ | refine EvC.skip ?_)
              (refine EvO.cons rfl rfl rfl (EvP.callF rfl rfl rfl rfl (EvF.mono (refutes_spec hw7 (n := n) (by omega) (C.mono hle7) D nc hLok (fun l hl => (hPok l hl).1) (fun l hl => by have := (hPok l hl).2; omega) (by omega)) ?_)))
              rintro _ h8 _ ⟨⟨hle78, hw8⟩, q, rfl, hq⟩
              rw [hq.2 hRf]
              repeat (refine EvO.plain rfl rfl rfl rfl rfl rfl ?_)
              refine EvO.on rfl rfl rfl (EvP.callF rfl rfl rfl rfl (EvF.mono (awake_spec (facts gt)) ?_))
              rintro _ h99 _ ⟨rfl, rfl⟩
              repeat (first | refine EvO.plain rfl rfl rfl rfl rfl rfl ?_ | refine EvO.nil ?_ | refine at_normal ?_ | refine EvC.ret ?_)
              (refine ret_is (v := .bool true) rfl rfl ?_)
              rfl
          · refine EvO.on rfl rfl rfl (EvP.quiet (v := .bool false) rfl (isB (decide_eq_false h10)) ?_)
            clear f5 f6
            repeat (first | refine EvO.plain rfl rfl rfl rfl rfl rfl ?_ | refine EvO.nil ?_ | refine at_normal ?_ | refine EvO.off rfl rfl rfl ?_ | refine EvO.plainOn rfl rfl rfl rfl rfl rfl ?_)
            refine EvC.cond (t := false) rfl (fun e => nomatch e) (fun _ => ?_)
            have ln := RowOf.len_any (T := TT gt) (t := 22) prow rfl h5
            repeat (first | refine EvO.plain rfl rfl rfl rfl rfl rfl ?_ | refine EvO.plain rfl rfl rfl rfl rfl (by assumption) ?_ | refine EvC.seq ?_ | refine EvC.region rfl ?_ | refine EvO.nil ?_ | refine at_normal ?_ | refine EvC.skip ?_)
            clear ln
            by_cases h2k : (P.length : Int) > 2000
            · refine EvC.cond (t := true) (isT (decide_eq_true h2k)) (fun _ => ?_) (fun e => nomatch e)
              repeat (first | refine EvC.seq ?_ | refine EvC.region rfl ?_)
              (refine EvO.cons rfl rfl rfl (EvP.callF rfl rfl rfl rfl (EvF.mono (awake_spec (facts gt)) ?_)))
              rintro _ h99 _ ⟨rfl, rfl⟩
              repeat (first | refine EvO.plain rfl rfl rfl rfl rfl rfl ?_ | refine EvO.nil ?_ | refine at_normal ?_ | refine EvC.ret ?_ | refine at_ret ?_)
              (refine ret_is (v := .bool true) rfl rfl ?_)
              rfl
            · refine EvC.cond (t := false) (isT (decide_eq_false h2k)) (fun e => nomatch e) (fun _ => ?_)
              have f8 := load1 (T := TT gt) (t := 3) (off := 0) o5 rfl rfl rfl
              have f9 := load1 (T := TT gt) (t := 22) (off := 1) o5 rfl rfl rfl
              have D : CnfAt h5 n pv P pc := CnfAt.mono (fun i o e => hle45 _ _ (hg4.le _ _ e)) ⟨prow, pints, fun l hl => by have := (hPok l hl).2; omega, by omega⟩
              repeat (first | refine EvO.plain rfl rfl rfl rfl rfl rfl ?_ | refine EvO.plain rfl rfl rfl rfl rfl (by assumption) ?_ | refine EvC.seq ?_ | refine EvC.region rfl ?_ | refine at_normal ?_ | refine EvC.skip ?_)
              (refine EvO.cons rfl rfl rfl (EvP.callF rfl rfl rfl rfl (EvF.mono (refutes_spec hw5 (n := n) (by omega) (C.mono hle5) D nc hLok (fun l hl => (hPok l hl).1) (fun l hl => by have := (hPok l hl).2; omega) (by omega)) ?_)))
              rintro _ h8 _ ⟨⟨hle78, hw8⟩, q, rfl, hq⟩
              rw [hq.2 hRf]
              repeat (refine EvO.plain rfl rfl rfl rfl rfl rfl ?_)
              refine EvO.on rfl rfl rfl (EvP.callF rfl rfl rfl rfl (EvF.mono (awake_spec (facts gt)) ?_))
              rintro _ h99 _ ⟨rfl, rfl⟩
              repeat (first | refine EvO.plain rfl rfl rfl rfl rfl rfl ?_ | refine EvO.nil ?_ | refine at_normal ?_ | refine EvC.ret ?_)
              (refine ret_is (v := .bool true) rfl rfl ?_)
              rfl
end Sa
end Pf
end Go.Proofs.YtheiionmocfleaaDoor
/- The clauses of an argument are no row of none. -/
namespace Go.Proofs.YtheiionmocfleaaDoor
namespace Pf
namespace Sa
open Go Go.AI Go.Proofs
theorem embC_agg {w : World} {v : Value} {l : List AV} (h : embC w v = .agg l) : ∃ cs, v = .agg cs := by
  unfold embC at h
  split at h
  · split at h <;> cases h
  · cases h
  · split at h <;> cases h
  · unfold toAV at h
    split at h <;> first | exact ⟨_, rfl⟩ | cases h
theorem agg_nz {w : World} {v : Value} {x cl : AV} (he : emb w v = .agg [x, cl]) : NZ cl := by
  unfold emb at he
  split at he
  · rename_i cs
    have h1 : cs.map (embC w) = [x, cl] := AV.agg.inj he
    match cs, h1 with
    | [a, b], h1 =>
      have : embC w b = cl := by simpa using (List.cons.inj (List.cons.inj h1).2).1
      rw [← this]; exact nz_emb w b
  · rename_i hne
    have hOB := embC_agg he
    obtain ⟨⟨cs⟩, rfl⟩ := hOB
    exact absurd rfl (hne cs)
end Sa
end Pf
end Go.Proofs.YtheiionmocfleaaDoor
