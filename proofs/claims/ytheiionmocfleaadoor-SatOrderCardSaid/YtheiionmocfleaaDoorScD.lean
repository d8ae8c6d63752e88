/- How many models the reference counts; what Solve answers, in short; bytes as arguments. -/
import Derived.Test.YtheiionmocfleaaDoorSbY
import Derived.Test.YtheiionmocfleaaDoorSaY
/- How many models the reference counts. -/
namespace Go.Proofs.YtheiionmocfleaaDoor
namespace Pf
namespace Sa
open Go Go.AI Go.Proofs
variable {gt : Tree (List AV)}
theorem bitsB_succ (s n : Nat) : bitsB s (n + 1) = bitsB s n ++ [s / 2 ^ n % 2 == 1] := by
  unfold bitsB; rw [List.range_succ, List.map_append]; rfl
theorem bools_spec {h : AH} (hw : WF h) {n s : Nat} (hn : n ≤ 30) (hs : s < 2 ^ 40) :
    EvF (TT gt) X 49 [.int .i64 s, .int .i64 n] h (fun r h' => (h.le h' ∧ WF h' ∧ h.next ≤ h'.next) ∧ BoolRow h' r (bitsB s n)) := by
  have S0 := HS.all hw
  refine EvF.enter rfl rfl rfl ?_
  repeat (first | refine EvO.plain rfl rfl rfl rfl rfl rfl ?_ | refine EvC.seq ?_ | refine EvC.region rfl ?_ | refine EvO.nil ?_ | refine at_normal ?_ | refine EvC.block ?_)
  refine EvC.loop (fun m σ h' => ∃ (i : Nat) (lv : AV) (cx : Nat → Nat) (E : Nat → AV), HS h h' cx ∧ h.next ≤ h'.next ∧ Vec cx 1 h' 4 1 lv (bitsB s i).length ((bitsB s i).map AV.bool) ∧ i ≤ n ∧ m = n - i ∧ σ = upds [(0, .int .i64 s), (1, .int .i64 n), (5, lv), (6, .int .i64 i)] E) (n) ?_ ?_
  · exact ⟨0, .nilSlice, _, _, S0, Nat.le_refl _, .nil, Nat.zero_le _, rfl, hold ⟨rfl, rfl, rfl, rfl, trivial⟩⟩
  · rintro m _ h3 ⟨i, lv, c3, E, S3, hnx, V3, hi, rfl, rfl⟩
    repeat (first | refine EvO.plain rfl rfl rfl rfl rfl rfl ?_ | refine EvC.seq ?_ | refine EvC.region rfl ?_ | refine EvO.nil ?_ | refine at_normal ?_)
    refine EvC.decide rfl (fun hil => ?_) (fun hil => ?_)
    · have hil : i < n := by omega
      have hbit := bit_val s i hs (by omega)
      have hsn1 := bitsB_succ s i
      have hsl := bitsB_len s i
      generalize hz : s / 2 ^ i % 2 = z at *
      repeat (first | refine EvO.plain rfl rfl rfl rfl rfl rfl ?_ | refine EvC.seq ?_ | refine EvC.region rfl ?_ | refine at_normal ?_ | refine EvC.skip ?_ | refine EvC.block ?_)
      (refine EvO.cons rfl rfl rfl (EvP.quiet rfl (shr_at s i) ?_))
      skip
      (refine EvO.cons rfl rfl rfl (EvP.quiet rfl (show some (AV.int .i64 (IntKind.i64.wrap ((BitVec.ofInt IntKind.i64.bits ((s : Int).fdiv (2 ^ min ((i : Nat) : Int).toNat IntKind.i64.bits)) &&& BitVec.ofInt IntKind.i64.bits 1).toNat : Nat))) = some (.int .i64 ((z : Nat) : Int)) by rw [hbit]) ?_))
      repeat (refine EvO.plain rfl rfl rfl rfl rfl rfl ?_)
      (refine EvO.cons rfl rfl rfl (EvP.newR (b := .cells [.bool (((z : Nat) : Int) == 1)] 4 false) (mk := .slice 1 1 true) S3 rfl rfl (fun h4 id4 A4 N4 hle4 o4 _ _ => ?_)))
      have V4 := V3.step A4 S3.wf (fun e => e)
      skip
      refine EvO.cons rfl rfl rfl (EvP.appendC N4 V4 (by decide) rfl rfl rfl rfl rfl rfl rfl rfl rfl (by decide) rfl rfl (afirst_all o4 rfl) rfl (by decide) rfl (by show ((bitsB s i).length + 1) * 1 ≤ 70368744177664; omega) (by omega) (fun lv5 h5 c5 A5 N5 X5 => ?_))
      repeat (first | refine EvO.plain rfl rfl rfl rfl rfl rfl ?_ | refine EvC.region rfl ?_ | refine EvO.nil ?_ | refine at_normal ?_ | refine be_normal ?_ | refine ro_normal ?_ | refine EvO.cons rfl rfl rfl (EvP.add64 rfl rfl (by omega) ?_))
      have ez : (((z : Nat) : Int) == 1) = (z == 1) := by rw [Bool.eq_iff_iff, beq_iff_eq, beq_iff_eq]; omega
      rw [ez] at X5
      exact ⟨n - (i + 1), by omega, i + 1, lv5, c5, _, N5.down hle4, Nat.le_trans hnx (Nat.le_trans A4.nx A5.nx), by rw [hsn1, List.length_append, List.map_append]; exact X5, by omega, rfl, hold ⟨rfl, rfl, rfl, rfl, trivial⟩⟩
    · have hend : i = n := by omega
      subst hend
      repeat (first | refine EvO.plain rfl rfl rfl rfl rfl rfl ?_ | refine EvC.seq ?_ | refine EvC.region rfl ?_ | refine EvO.nil ?_ | refine at_normal ?_ | refine EvC.ret ?_ | refine EvC.exit ?_ | refine at_exit ?_ | refine be_same rfl ?_ | refine ro_exit ?_)
      (refine ret_is (v := lv) rfl rfl ?_)
      exact ⟨⟨S3.le, S3.wf, hnx⟩, bool_row V3⟩
/-- How many of the first bools are a model. -/
def cntB (L : List (List Int)) (n m : Nat) : Nat := (List.range m).countP fun s => decide (allB L (bitsB s n))
theorem cntB_succ (L : List (List Int)) (n m : Nat) : cntB L n (m + 1) = cntB L n m + if allB L (bitsB m n) then 1 else 0 := by
  unfold cntB
  rw [List.range_succ, List.countP_append, List.countP_singleton]
  by_cases h : allB L (bitsB m n) <;> simp [h]
theorem cntB_le (L : List (List Int)) (n m : Nat) : cntB L n m ≤ m := by
  have := List.countP_le_length (p := fun s => decide (allB L (bitsB s n))) (l := List.range m)
  rwa [List.length_range] at this
set_option maxHeartbeats 4000000 in
theorem models_spec {h : AH} (hw : WF h) {n : Nat} (hn : n ≤ 30) {cl : AV} {L : List (List Int)} {cv : Nat → AV} (C : CnfAt h n cl L cv) (hall : ∀ i, i < L.length → ∀ x ∈ L.getD i [], ok n x) :
    EvF (TT gt) X 21 [.agg [.int .i64 n, cl], .nilSlice] h (fun r h' => (h.le h' ∧ WF h') ∧ r = .int .i64 (cntB L n (2 ^ n) : Nat)) := by
  have S0 := HS.all hw
  have hpw : 2 ^ n ≤ 2 ^ 30 := Nat.pow_le_pow_right (by decide) hn
  refine EvF.enter rfl rfl rfl ?_
  repeat (first | refine EvC.seq ?_ | refine EvC.region rfl ?_)
  (refine EvO.cons rfl rfl rfl (EvP.newR (b := .cells [.int .i64 n, cl] 24 false) (mk := .ptr) S0 rfl rfl (fun h1 b A1 S1 hle1 o1 _ _ => ?_)))
  repeat (first | refine EvO.plain rfl rfl rfl rfl rfl rfl ?_ | refine EvC.seq ?_ | refine EvC.region rfl ?_ | refine EvO.nil ?_ | refine at_normal ?_ | refine EvC.block ?_)
  generalize hN : 2 ^ n = N at *
  refine EvC.loop (fun m σ h' => ∃ (s : Nat) (E : Nat → AV), HS (h.add b (.cells [.int .i64 n, cl] 24 false)) h' (fun _ => 0) ∧ s ≤ N ∧ m = N - s ∧ σ = upds [(1, .nilSlice), (2, .ptr b 0), (5, .int .i64 (cntB L n s : Nat)), (6, .int .i64 s)] E) (N) ?_ ?_
  · exact ⟨0, _, S1, Nat.zero_le _, rfl, hold ⟨rfl, rfl, rfl, rfl, trivial⟩⟩
  · clear S1 A1 o1
    rintro m _ h2 ⟨s, E, S2, hs, rfl, rfl⟩
    have o2 := S2.le _ _ (AH.get_add h b (.cells [.int .i64 n, cl] 24 false))
    have f1 := load1 (T := TT gt) (t := 3) (off := 0) o2 rfl rfl rfl
    have hle2 : h.le h2 := fun i o e => S2.le _ _ (hle1 _ _ e)
    repeat (first | refine EvO.plain rfl rfl rfl rfl rfl rfl ?_ | refine EvO.plain rfl rfl rfl rfl rfl (by assumption) ?_ | refine EvC.seq ?_ | refine EvC.region rfl ?_)
    (refine EvO.cons rfl rfl rfl (EvP.quiet rfl (show some (AV.int .i64 (IntKind.i64.wrap (1 * 2 ^ min ((n : Nat) : Int).toNat IntKind.i64.bits))) = some (.int .i64 ((N : Nat) : Int)) by rw [shl1 n (by omega), hN]) ?_))
    repeat (first | refine EvO.plain rfl rfl rfl rfl rfl rfl ?_ | refine EvO.nil ?_ | refine at_normal ?_)
    refine EvC.decide rfl (fun hlt => ?_) (fun hlt => ?_)
    · have hlt : s < N := by omega
      repeat (first | refine EvO.plain rfl rfl rfl rfl rfl rfl ?_ | refine EvO.plain rfl rfl rfl rfl rfl (by assumption) ?_ | refine EvC.seq ?_ | refine EvC.region rfl ?_ | refine at_normal ?_ | refine EvC.skip ?_ | refine EvC.block ?_)
      (refine EvO.cons rfl rfl rfl (EvP.callF rfl rfl rfl rfl (EvF.mono (bools_spec S2.wf (n := n) (s := s) (by omega) (by omega)) ?_)))
      rintro bv h3 _ ⟨⟨hle3, hw3, hnx3⟩, row⟩
      clear f1
      have S3 := S2.grow hle3 hw3 hnx3
      have o3 := hle3 _ _ o2
      have f2 := load1 (T := TT gt) (t := 22) (off := 1) o3 rfl rfl rfl
      have hle03 : h.le h3 := fun i o e => hle3 _ _ (hle2 _ _ e)
      repeat (first | refine EvO.plain rfl rfl rfl rfl rfl rfl ?_ | refine EvO.plain rfl rfl rfl rfl rfl (by assumption) ?_ | refine EvC.seq ?_ | refine EvC.region rfl ?_ | refine EvO.nil ?_ | refine at_normal ?_)
      (refine EvO.cons rfl rfl rfl (EvP.callF rfl rfl rfl rfl (EvF.mono (refAll_spec (facts gt) (C.mono hle03) row (by rw [bitsB_len]; omega) (fun i hi x hx => by rw [bitsB_len]; exact hall i hi x hx)) ?_)))
      rintro _ h3 _ ⟨rfl, rfl⟩
      clear f2
      have hcs := cntB_succ L n s
      have hcl := cntB_le L n s
      repeat (first | refine EvO.plain rfl rfl rfl rfl rfl rfl ?_ | refine EvC.seq ?_ | refine EvC.region rfl ?_ | refine EvO.nil ?_ | refine at_normal ?_ | refine EvC.block ?_)
      refine EvC.loop (fun m σ h' => h' = h3 ∧ ∃ E : Nat → AV, m = 0 ∧ σ = upds [(1, .nilSlice), (2, .ptr b 0), (5, .int .i64 (cntB L n s : Nat)), (6, .int .i64 s), (8, .bool (decide (allB L (bitsB s n)))), (27, .int .i64 0), (28, .int .i64 0)] E) (0) ?_ ?_
      · exact ⟨rfl, _, rfl, hold ⟨rfl, rfl, rfl, rfl, rfl, rfl, rfl, trivial⟩⟩
      · rintro m _ h3 ⟨rfl, E, rfl, rfl⟩
        repeat (first | refine EvO.plain rfl rfl rfl rfl rfl rfl ?_ | refine EvC.seq ?_ | refine EvC.region rfl ?_ | refine EvO.nil ?_ | refine at_normal ?_)
        refine EvC.cond (t := false) rfl (fun e => nomatch e) (fun _ => ?_)
        repeat (first | refine EvO.plain rfl rfl rfl rfl rfl rfl ?_ | refine EvC.seq ?_ | refine EvC.region rfl ?_ | refine EvO.nil ?_ | refine at_normal ?_ | refine EvC.exit ?_ | refine at_exit ?_ | refine be_same rfl ?_ | refine ro_exit ?_)
        by_cases hA : allB L (bitsB s n)
        · refine EvC.cond (t := true) (isT (decide_eq_true hA)) (fun _ => ?_) (fun e => nomatch e)
          rw [if_pos hA] at hcs
          repeat (first | refine EvO.plain rfl rfl rfl rfl rfl rfl ?_ | refine EvC.region rfl ?_ | refine EvO.nil ?_ | refine at_normal ?_ | refine be_normal ?_ | refine ro_normal ?_ | refine EvO.cons rfl rfl rfl (EvP.add64 rfl rfl (by omega) ?_))
          exact ⟨N - (s + 1), by omega, s + 1, _, S3, by omega, rfl, hold ⟨rfl, rfl, congrArg (AV.int .i64) (by omega), rfl, trivial⟩⟩
        · refine EvC.cond (t := false) (isT (decide_eq_false hA)) (fun e => nomatch e) (fun _ => ?_)
          rw [if_neg hA, Nat.add_zero] at hcs
          repeat (first | refine EvO.plain rfl rfl rfl rfl rfl rfl ?_ | refine EvC.region rfl ?_ | refine EvO.nil ?_ | refine at_normal ?_ | refine EvC.skip ?_ | refine be_normal ?_ | refine ro_normal ?_ | refine EvO.cons rfl rfl rfl (EvP.add64 rfl rfl (by omega) ?_))
          exact ⟨N - (s + 1), by omega, s + 1, _, S3, by omega, rfl, hold ⟨rfl, rfl, congrArg (AV.int .i64) (by omega), rfl, trivial⟩⟩
    · have hend : s = N := by omega
      subst hend
      repeat (first | refine EvO.plain rfl rfl rfl rfl rfl rfl ?_ | refine EvC.seq ?_ | refine EvC.region rfl ?_ | refine EvO.nil ?_ | refine at_normal ?_ | refine EvC.ret ?_ | refine EvC.exit ?_ | refine at_exit ?_ | refine be_same rfl ?_ | refine ro_exit ?_)
      (refine ret_is (v := .int .i64 (cntB L n s : Nat)) rfl rfl ?_)
      exact ⟨⟨hle2, S2.wf⟩, rfl⟩
end Sa
end Pf
end Go.Proofs.YtheiionmocfleaaDoor
/- The law SatSolves. -/
namespace Go.Proofs.YtheiionmocfleaaDoor
namespace Pf
namespace Sa
open Go Go.AI Go.Proofs
variable {gt : Tree (List AV)}
theorem oks_len {n : Nat} {l : List Int} (hn : l.Nodup) (h : ∀ x ∈ l, ok n x) : l.length ≤ 2 * n + 1 := by
  have := nodup_len (m := (List.range (2 * n + 1)).map fun i : Nat => (i : Int) - n) hn fun x hx => by
    have hOB := h x hx
    obtain ⟨_, h1, h2⟩ := hOB
    exact List.mem_map.2 ⟨(x + n).toNat, List.mem_range.2 (by omega), by omega⟩
  simpa using this
theorem valid_oks {n : Nat} {L : List (List Int)} (hv : valid n L) : ∀ l ∈ L, ∀ x ∈ l, ok n x := fun l hl => by
  have hOB := List.getElem_of_mem hl
  obtain ⟨i, hi, rfl⟩ := hOB
  have := hv.2.2.2.2 i hi
  rwa [List.getD_eq_getElem?_getD, List.getElem?_eq_getElem hi] at this
theorem allB_mem {L : List (List Int)} {B : List Bool} (h : allB L B) : ∀ c ∈ L, ∃ z ∈ c, holdsB B z = true := fun c hc => by
  have hOB := List.getElem_of_mem hc
  obtain ⟨i, hi, rfl⟩ := hOB
  have := h i hi
  rw [List.getD_eq_getElem?_getD, List.getElem?_eq_getElem hi] at this
  exact List.any_eq_true.1 this
theorem none_cnt {L : List (List Int)} {n : Nat} (h : ∀ B : List Bool, B.length = n → ¬ allB L B) (m : Nat) : cntB L n m = 0 := by
  unfold cntB
  rw [List.countP_eq_zero]
  intro s _
  rw [decide_eq_false (h _ (bitsB_len s n))]
  exact Bool.false_ne_true
/-- What Solve answers, without the machine: a refutation in each case in which there is no model. -/
theorem says_rup {n : Nat} {L P : List (List Int)} (hL : ∀ l ∈ L, ∀ x ∈ l, ok n x) (h : (Rup n L P ∧ P.length ≤ 20002) ∨ (n ≤ 12 ∧ P = splitL n (n + 1) ∧ ∀ s, s < 2 ^ n → ¬ allB L (bitsB s n))) : (Rup n L P ∧ P.length ≤ 60000) ∧ ∀ B : List Bool, B.length = n → ¬ allB L B := by
  have R : Rup n L P ∧ P.length ≤ 60000 := by
    rcases h with h | ⟨hn, rfl, hno⟩
    · exact ⟨h.1, by omega⟩
    · refine ⟨split_rup hL hno, ?_⟩
      have h1 := splitL_len n (n + 1) (Nat.le_refl _)
      have h2 : 2 ^ n ≤ 2 ^ 12 := Nat.pow_le_pow_right (by decide) hn
      have h3 : (n + 1) * 2 ^ n ≤ 13 * 2 ^ 12 := Nat.mul_le_mul (by omega) h2
      omega
  exact ⟨R, fun B hB hA => rup_sound hB hL R.1 (allB_mem hA)⟩
end Sa
end Pf
end Go.Proofs.YtheiionmocfleaaDoor
/- The clauses of an argument are no row of none. -/
namespace Go.Proofs.YtheiionmocfleaaDoor
namespace Pf
namespace Sa
open Go Go.AI Go.Proofs
theorem embC_agg {w : World} {v : Value} {l : List AV} (h : embC w v = .agg l) : ∃ cs, v = .agg cs := by
  unfold embC at h
  split at h
  · split at h <;> cases h
  · cases h
  · split at h <;> cases h
  · unfold toAV at h
    split at h <;> first | exact ⟨_, rfl⟩ | cases h
theorem agg_nz {w : World} {v : Value} {x cl : AV} (he : emb w v = .agg [x, cl]) : NZ cl := by
  unfold emb at he
  split at he
  · rename_i cs
    have h1 : cs.map (embC w) = [x, cl] := AV.agg.inj he
    match cs, h1 with
    | [a, b], h1 =>
      have : embC w b = cl := by simpa using (List.cons.inj (List.cons.inj h1).2).1
      rw [← this]; exact nz_emb w b
  · rename_i hne
    have hOB := embC_agg he
    obtain ⟨⟨cs⟩, rfl⟩ := hOB
    exact absurd rfl (hne cs)
end Sa
end Pf
end Go.Proofs.YtheiionmocfleaaDoor
/- Three bytes, as an argument. -/
namespace Go.Proofs.YtheiionmocfleaaDoor
namespace Pf
namespace Sa
open Go Go.AI Go.Proofs
theorem byte_range {n : Int} (h : (Lit.int .u8 n).wf = true) : ∃ a : Nat, n = a ∧ a < 256 := by
  have h0 : (decide (IntKind.u8.min ≤ n) && decide (n ≤ IntKind.u8.max)) = true := h
  have e1 : IntKind.u8.min = 0 := rfl
  have e2 : IntKind.u8.max = 255 := rfl
  rw [e1, e2] at h0
  have h1 : 0 ≤ n ∧ n ≤ 255 := by simpa using h0
  exact ⟨n.toNat, by omega, by omega⟩
theorem tri_read {H : Type} {enc : TypeId × Value → H} {P : Program} {w : World} {t e : TypeId} {m : Nat} {v : Value} {x : DataW H × List MemPlace} (ht : P.underlying t = some (.array 3 e)) (ct : P.cellsOf t = 3) (ce : P.cellsOf e = 1) (he : P.underlying e = some (.int .u8))
    (h : DataW.trod enc P w 0 (fun _ => true) true m t v.cells.toList = some x) : ∃ a0 a1 a2 : Nat, emb w v = .agg [.int .u8 (a0 : Int), .int .u8 (a1 : Int), .int .u8 (a2 : Int)] ∧ a0 < 256 ∧ a1 < 256 ∧ a2 < 256 := by
  have hOB := DataW.trod_array ht h
  obtain ⟨xs, k, h1, h2, h3, hxl, hel⟩ := hOB
  have e0 := hel 0 (by decide)
  have e1 := hel 1 (by decide)
  have e2 := hel 2 (by decide)
  rw [ce] at e0 e1 e2
  rw [ct] at h3
  have hv : ∃ a b c, v = .agg ⟨[a, b, c]⟩ := by
    cases v
    case agg cs =>
      obtain ⟨cs⟩ := cs
      match cs, h3 with
      | [a, b, c], _ => exact ⟨a, b, c, rfl⟩
    all_goals simp [Value.cells] at h3
  obtain ⟨a, b, c, rfl⟩ := hv
  match xs, hxl with
  | [y0, y1, y2], _ =>
    have e0 : DataW.trod enc P w 0 (fun _ => true) true k e [a] = some y0 := e0
    have e1 : DataW.trod enc P w 0 (fun _ => true) true k e [b] = some y1 := e1
    have e2 : DataW.trod enc P w 0 (fun _ => true) true k e [c] = some y2 := e2
    have hOB := read_int he e0
    obtain ⟨n0, rfl, w0⟩ := hOB
    have hOB := read_int he e1
    obtain ⟨n1, rfl, w1⟩ := hOB
    have hOB := read_int he e2
    obtain ⟨n2, rfl, w2⟩ := hOB
    have hOB := byte_range w0
    obtain ⟨a0, rfl, l0⟩ := hOB
    have hOB := byte_range w1
    obtain ⟨a1, rfl, l1⟩ := hOB
    have hOB := byte_range w2
    obtain ⟨a2, rfl, l2⟩ := hOB
    exact ⟨a0, a1, a2, rfl, l0, l1, l2⟩
end Sa
end Pf
end Go.Proofs.YtheiionmocfleaaDoor
