/- The law SatOwn answers true. -/
import Derived.Test.YtheiionmocfleaaDoorSoP
import Derived.Test.YtheiionmocfleaaDoorUaU
import Derived.Test.YtheiionmocfleaaDoorSaW
/- The law SatOwn. -/
namespace Go.Proofs.YtheiionmocfleaaDoor
namespace Pf
namespace Sa
open Go Go.AI Go.Proofs
variable {gt : Tree (List AV)}
/-- All that was made since a heap may be written to. -/
noncomputable def colN (B : AH) (n : Nat) : Nat → Nat := fun i => if B.t.get i = none ∧ i < n then 1 else 0
theorem HS.sinceN {B h' : AH} (hl : B.le h') (hw' : WF h') : HS B h' (colN B h'.next) where
  wf := hw'
  le := hl
  ro := fun i o e => by unfold colN; rw [if_neg (by rw [e]; intro h; cases h.1)]
  fresh := fun i hi => by unfold colN; rw [if_neg (by omega)]
theorem colN_one {B h' : AH} (hw' : WF h') {id : Nat} {o : AObj} (h1 : B.t.get id = none) (h2 : h'.t.get id = some o) : colN B h'.next id = 1 := by
  unfold colN; rw [if_pos ⟨h1, hw'.lt h2⟩]
theorem at_slice {id len cap : Nat} {ex : Bool} {j : Nat} (hj : j < len) : aindexAddr (TT gt) 25 (.slice id 0 len cap ex) (.int .i64 j) = some (.ptr id j) := by
  have hd : descOf (TT gt) 25 = .slice 3 := rfl
  have he : (TT gt).tt.get 3 = some ti3 := rfl
  simp only [aindexAddr, hd, he]
  rw [if_pos (by omega)]
  show some (AV.ptr id (0 + (j : Int).toNat * 1)) = _
  rw [Int.toNat_natCast]; simp
theorem at_sliceL {id len cap : Nat} {ex : Bool} {j : Nat} (hj : j < len) : aindexAddr (TT gt) 22 (.slice id 0 len cap ex) (.int .i64 j) = some (.ptr id j) := by
  have hd : descOf (TT gt) 22 = .slice 25 := rfl
  have he : ∃ i, (TT gt).tt.get 25 = some i ∧ i.size = 1 := ⟨_, rfl, rfl⟩
  obtain ⟨i, he, hs⟩ := he
  simp only [aindexAddr, hd, he]
  rw [if_pos (by omega), hs]
  show some (AV.ptr id (0 + (j : Int).toNat * 1)) = _
  rw [Int.toNat_natCast]; simp
/-- How a row that was made is written to. -/
theorem OwnV.len {B h : AH} {a : AV} (o : OwnV B h a) : ∃ la : Nat, la ≤ 2 ^ 40 ∧ (∀ h', alen (TT gt) h' 25 a = some (.int .i64 la)) ∧ ∀ h', OwnV B h' a → ∀ j, j < la → ∃ id cs, aindexAddr (TT gt) 25 a (.int .i64 j) = some (.ptr id j) ∧ B.t.get id = none ∧ h'.t.get id = some (.cells cs 3 false) ∧ j < cs.length := by
  rcases o with rfl | ⟨id, len, cap, ex, cs, rfl, _, _, _, hl⟩
  · exact ⟨0, Nat.zero_le _, fun _ => rfl, fun h' _ j hj => absurd hj (Nat.not_lt_zero _)⟩
  · refine ⟨len, hl, fun _ => rfl, fun h' o' j hj => ?_⟩
    rcases o' with h1 | ⟨id', len', cap', ex', cs', h1, h2, h3, h4, _⟩
    · cases h1
    · cases h1
      exact ⟨id, cs', at_slice hj, h2, h3, by omega⟩
theorem OwnV.store {B h h1 : AH} {id off : Nat} {cs : List AV} {u a : AV} (g1 : h1.t.get id = some (.cells (lset cs off u) 3 false)) (g0 : h.t.get id = some (.cells cs 3 false)) (hoth : ∀ j, j ≠ id → h1.t.get j = h.t.get j) (o : OwnV B h a) : OwnV B h1 a := by
  rcases o with h2 | ⟨id', len, cap, ex, cs', h2, h3, h4, h5, h6⟩
  · exact .inl h2
  · by_cases e : id' = id
    · subst e
      rw [g0] at h4
      cases h4
      exact .inr ⟨_, len, cap, ex, _, h2, h3, g1, by rw [lset_eq, List.length_set]; exact h5, h6⟩
    · exact .inr ⟨id', len, cap, ex, cs', h2, h3, by rw [hoth _ e]; exact h4, h5, h6⟩
-- the law's other way out
-- once more the same
set_option maxHeartbeats 8000000 in
theorem law_own {h : AH} (hw : WF h) {vars : Int} {cl : AV} {L : List (List Int)} {cv : Nat → AV} (C : CnfAt h vars cl L cv) (nzc : ∀ i, i < L.length → NZ (cv i)) {tv : AV} {ls : List Int} (rt : IntRow h tv ls) (nt : NZ tv) :
    EvF (TT gt) X 10 [.agg [.int .i64 vars, cl], tv] h (fun r _ => r = .bool true) := by
  have S0 := HS.all hw
  refine EvF.enter rfl rfl rfl ?_
  repeat (first | refine EvC.seq ?_ | refine EvC.region rfl ?_)
  (refine EvO.cons rfl rfl rfl (EvP.newR (b := .cells [.int .i64 vars, cl] 24 false) (mk := .ptr) S0 rfl rfl (fun h1 b A1 S1 hle1 o1 _ _ => ?_)))
  have f1 := loadAgg (T := TT gt) (t := 24) (off := 0) (n := 2) (r := [.int .i64 vars, cl]) o1 rfl rfl
  have hle01 : h.le h1 := fun i o e => S1.le _ _ (hle1 _ _ e)
  repeat (first | refine EvO.plain rfl rfl rfl rfl rfl rfl ?_ | refine EvO.plain rfl rfl rfl rfl rfl (by assumption) ?_ | refine EvC.seq ?_ | refine EvC.region rfl ?_ | refine EvO.nil ?_ | refine at_normal ?_)
  (refine EvO.cons rfl rfl rfl (EvP.callF rfl rfl rfl rfl (EvF.mono (few2_spec S1.wf (C.mono hle01)) ?_)))
  rintro _ h2 _ ⟨⟨hle12, hw2⟩, q, rfl, hq⟩
  have hle2 : h.le h2 := fun i o e => hle12 _ _ (hle01 _ _ e)
  have o2 := hle12 _ _ o1
  have f2 := loadAgg (T := TT gt) (t := 24) (off := 0) (n := 2) (r := [.int .i64 vars, cl]) o2 rfl rfl
  clear f1
  cases q with
  | false =>
    repeat (first | refine EvO.plain rfl rfl rfl rfl rfl rfl ?_ | refine EvO.nil ?_ | refine at_normal ?_ | refine EvO.off rfl rfl rfl ?_)
    refine EvC.cond (t := true) rfl (fun _ => ?_) (fun e => nomatch e)
    repeat (first | refine EvC.seq ?_ | refine EvC.region rfl ?_)
    (refine EvO.cons rfl rfl rfl (EvP.callF rfl rfl rfl rfl (EvF.mono (awake_spec (facts gt)) ?_)))
    rintro _ h99 _ ⟨rfl, rfl⟩
    repeat (first | refine EvO.plain rfl rfl rfl rfl rfl rfl ?_ | refine EvO.nil ?_ | refine at_normal ?_ | refine EvC.ret ?_ | refine at_ret ?_)
    (refine ret_is (v := .bool true) rfl rfl ?_)
    rfl
  | true =>
    have hOB := hq rfl
    obtain ⟨hL120, hT500⟩ := hOB
    have ln := RowOf.len_any (T := TT gt) (t := 25) rt rfl h2
    repeat (first | refine EvO.plain rfl rfl rfl rfl rfl rfl ?_ | refine EvO.plainOn rfl rfl rfl rfl rfl rfl ?_ | refine EvO.plainOn rfl rfl rfl rfl rfl (by assumption) ?_)
    by_cases hlen : (ls.length : Int) > 60
    · refine EvO.on rfl rfl rfl (EvP.quiet rfl (isB (decide_eq_true hlen)) ?_)
      repeat (first | refine EvO.plain rfl rfl rfl rfl rfl rfl ?_ | refine EvO.nil ?_ | refine at_normal ?_)
      refine EvC.cond (t := true) rfl (fun _ => ?_) (fun e => nomatch e)
      repeat (first | refine EvC.seq ?_ | refine EvC.region rfl ?_)
      (refine EvO.cons rfl rfl rfl (EvP.callF rfl rfl rfl rfl (EvF.mono (awake_spec (facts gt)) ?_)))
      rintro _ h99 _ ⟨rfl, rfl⟩
      repeat (first | refine EvO.plain rfl rfl rfl rfl rfl rfl ?_ | refine EvO.nil ?_ | refine at_normal ?_ | refine EvC.ret ?_ | refine at_ret ?_)
      (refine ret_is (v := .bool true) rfl rfl ?_)
      rfl
    · refine EvO.on rfl rfl rfl (EvP.quiet rfl (isB (decide_eq_false hlen)) ?_)
      clear ln
      repeat (first | refine EvO.plain rfl rfl rfl rfl rfl rfl ?_ | refine EvO.nil ?_ | refine at_normal ?_)
      refine EvC.cond (t := false) rfl (fun e => nomatch e) (fun _ => ?_)
      have hbl : ∀ l ∈ L, l.length ≤ 2 ^ 36 := fun l hl => by
        have hOB := List.getElem_of_mem hl
        obtain ⟨i, hi, rfl⟩ := hOB
        have h3 := total_take hi
        have h4 := total_le L (i + 1)
        rw [List.getD_eq_getElem?_getD, List.getElem?_eq_getElem hi] at h3
        have h3 : total (L.take (i + 1)) = total (L.take i) + L[i].length := h3
        omega
      repeat (first | refine EvO.plain rfl rfl rfl rfl rfl (by assumption) ?_ | refine EvC.seq ?_ | refine EvC.region rfl ?_ | refine at_normal ?_ | refine EvC.skip ?_)
      (refine EvO.cons rfl rfl rfl (EvP.callF rfl rfl rfl rfl (EvF.mono (Own_spec hw2 (C.mono hle2) nzc hbl (by omega)) ?_)))
      rintro _ h3 _ ⟨⟨hle23, hw3⟩, w, rfl, ⟨cw, D3⟩, nzw⟩
      clear f2
      have S3 := HS.all hw3
      have hle3 : h.le h3 := fun i o e => hle23 _ _ (hle2 _ _ e)
      have o3 := hle23 _ _ o2
      skip
      (refine EvO.cons rfl rfl rfl (EvP.newC (b := .cells [] 3 false) (mk := .slice 0 0 true) S3 1 rfl rfl (by decide) (fun h4 id4 col4 A4 S4 o4 c4 _ => ?_)))
      have V4 : Vec col4 1 h4 3 1 (.slice id4 0 0 0 true) 0 [] := .mk (tail := []) o4 c4 rfl (fun _ => ⟨Nat.le_refl _, rfl⟩)
      repeat (refine EvO.plain rfl rfl rfl rfl rfl rfl ?_)
      (refine EvO.cons rfl rfl rfl (EvP.appendRow S4 V4 (by decide) (RowOf.mono (fun i o e => S4.le _ _ (hle3 _ _ e)) rt) nt (fun _ _ => rfl) rfl rfl rfl rfl rfl rfl rfl rfl rfl rfl (by show (0 + ls.length) * 8 ≤ 70368744177664; omega) (by omega) (fun v5 h5 col5 A5 S5 V5 => ?_)))
      rw [range_ints, List.nil_append, Nat.zero_add] at V5
      skip
      (refine EvO.cons rfl rfl rfl (EvP.newC (b := .cells [.int .i64 0, .nilSlice] 24 false) (mk := .ptr) S5 2 rfl rfl (by decide) (fun h6 d col6 A6 S6 o6 c6 _ => ?_)))
      have V6 := V5.step A6 S5.wf (by decide)
      have scw := D3.rows.sc
      skip
      refine EvO.cons0 rfl rfl (EvP.storeC (v := .agg [.int .i64 vars, w]) S6 2 o6 c6 (by decide) rfl rfl rfl rfl (by show ([AV.int .i64 vars, w].all Go.AI.scalar) = true; rw [List.all_cons, List.all_cons, scw.2]; rfl) (by show 0 + 2 ≤ 2; decide) (fun h7 A7 S7 o7 _ _ => ?_))
      have o7 : h7.t.get d = some (.cells [.int .i64 vars, w] 24 false) := o7
      have V7 := V6.step A7 S6.wf (by decide)
      have row7 : IntRow h7 v5 ls := Vec.ints V7
      have nz5 := V7.nz
      have hw7 := S7.wf
      have hle37 : h3.le h7 := S7.le
      have f7 := loadAgg (T := TT gt) (t := 24) (off := 0) (n := 2) (r := [.int .i64 vars, w]) o7 rfl rfl
      clear V7 V6 V5 V4 A4 A5 A6 A7 S4 S5 S6 S7 o4 o6 c4 c6
      repeat (first | refine EvO.plain rfl rfl rfl rfl rfl rfl ?_ | refine EvO.plain rfl rfl rfl rfl rfl (by assumption) ?_ | refine EvC.seq ?_ | refine EvC.region rfl ?_ | refine EvO.nil ?_ | refine at_normal ?_)
      (refine EvO.cons rfl rfl rfl (EvP.callF rfl rfl rfl rfl (EvF.mono (units_spec hw7 (D3.mono hle37) row7 (by omega)) ?_)))
      rintro r8 h8 _ ⟨⟨hle78, hw8⟩, _⟩
      clear f7
      have o8 := hle78 _ _ o7
      have f8 := loadAgg (T := TT gt) (t := 24) (off := 0) (n := 2) (r := [.int .i64 vars, w]) o8 rfl rfl
      repeat (first | refine EvO.plain rfl rfl rfl rfl rfl rfl ?_ | refine EvO.plain rfl rfl rfl rfl rfl (by assumption) ?_ | refine EvC.seq ?_ | refine EvC.region rfl ?_ | refine EvO.nil ?_ | refine at_normal ?_)
      (refine EvO.cons rfl rfl rfl (EvP.callF rfl rfl rfl rfl (EvF.mono (under_spec hw8 (D3.mono (fun i o e => hle78 _ _ (hle37 _ _ e))) (RowOf.mono hle78 row7) nz5 (by omega)) ?_)))
      rintro r9 h9 _ ⟨⟨hle89, hw9⟩, _⟩
      clear f8
      have o9 := hle89 _ _ o8
      have f9 := loadAgg (T := TT gt) (t := 24) (off := 0) (n := 2) (r := [.int .i64 vars, w]) o9 rfl rfl
      have hle39 : h3.le h9 := fun i o e => hle89 _ _ (hle78 _ _ (hle37 _ _ e))
      have row9 : IntRow h9 v5 ls := RowOf.mono hle89 (RowOf.mono hle78 row7)
      repeat (first | refine EvO.plain rfl rfl rfl rfl rfl (by assumption) ?_ | refine EvC.seq ?_ | refine EvC.region rfl ?_ | refine EvO.nil ?_ | refine at_normal ?_)
      (refine EvO.cons rfl rfl rfl (EvP.callF rfl rfl rfl rfl (EvF.mono (solveO_spec hw9 (D3.mono hle39)) ?_)))
      rintro r10 h10 _ ⟨⟨hle910, hw10⟩, hS⟩
      clear f9
      have hSO : SolveOwn h9 h10 r10 := by
        rcases hS with ⟨_, rfl⟩ | ⟨_, _, hO⟩
        · exact SolveOwn.nil ..
        · exact hO
      clear hS
      obtain ⟨s, m, pv, e, rfl, hown⟩ := hSO
      have o10 := hle910 _ _ o9
      have b9 : h9.t.get b = some (.cells [.int .i64 vars, cl] 24 false) := hle39 _ _ o3
      have fd := loadAgg (T := TT gt) (t := 24) (off := 0) (n := 2) (r := [.int .i64 vars, w]) o10 rfl rfl
      have fb := loadAgg (T := TT gt) (t := 24) (off := 0) (n := 2) (r := [.int .i64 vars, cl]) (hle910 _ _ b9) rfl rfl
      have D9 : CnfAt h9 vars w L cw := D3.mono hle39
      have C9 : CnfAt h9 vars cl L cv := C.mono (fun i o e => hle39 _ _ (hle3 _ _ e))
      have rt9 : IntRow h9 tv ls := RowOf.mono (fun i o e => hle39 _ _ (hle3 _ _ e)) rt
      repeat (first | refine EvO.plain rfl rfl rfl rfl rfl rfl ?_ | refine EvO.plain rfl rfl rfl rfl rfl (by assumption) ?_ | refine EvC.seq ?_ | refine EvC.region rfl ?_ | refine EvO.nil ?_ | refine at_normal ?_)
      (refine EvO.cons rfl rfl rfl (EvP.callF rfl rfl rfl rfl (EvF.mono (Same_spec hw10 (D9.mono hle910) (C9.mono hle910)) ?_)))
      rintro _ h11 _ ⟨⟨hle1011, hw11⟩, rfl⟩
      clear fd fb
      have hle11 : h9.le h11 := fun i o e => hle1011 _ _ (hle910 _ _ e)
      repeat (first | refine EvO.plain rfl rfl rfl rfl rfl rfl ?_ | refine EvO.plainOn rfl rfl rfl rfl rfl rfl ?_)
      refine EvO.on rfl rfl rfl (EvP.callF rfl rfl rfl rfl (EvF.mono (sameInts_spec (RowOf.mono hle11 row9) (RowOf.mono hle11 rt9) (by omega)) ?_))
      rintro _ h11 _ ⟨rfl, rfl⟩
      repeat (first | refine EvO.plain rfl rfl rfl rfl rfl rfl ?_ | refine EvO.nil ?_ | refine at_normal ?_ | refine EvO.plainOn rfl rfl rfl rfl rfl rfl ?_)
      refine EvC.cond (t := false) rfl (fun e => nomatch e) (fun _ => ?_)
      have S11 := HS.sinceN hle11 hw11
      have hown11 : pv = .nilSlice ∨ ∃ id len cap ex cs, pv = .slice id 0 len cap ex ∧ h9.t.get id = none ∧ h11.t.get id = some (.cells cs 25 false) ∧ len ≤ 2 ^ 40 ∧ ∀ i, i < len → ∃ a, cs[i]? = some a ∧ OwnV h9 h11 a := by
        rcases hown with h1 | ⟨id, len, cap, ex, cs, h1, h2, h3, h3l, h4⟩
        · exact .inl h1
        · exact .inr ⟨id, len, cap, ex, cs, h1, h2, hle1011 _ _ h3, h3l, fun i hi => by obtain ⟨a, h5, h6⟩ := h4 i hi; exact ⟨a, h5, h6.mono hle1011⟩⟩
      clear hown
      generalize hcn : colN h9 h11.next = cn at S11
      have hc1 : ∀ id o, h9.t.get id = none → h11.t.get id = some o → cn id = 1 := fun id o h1 h2 => by rw [← hcn]; exact colN_one hw11 h1 h2
      rcases hown11 with rfl | ⟨id, len, cap, ex, cs, rfl, hid0, hid, hlen40, hrows⟩
      · repeat (first | refine EvO.plain rfl rfl rfl rfl rfl rfl ?_ | refine EvC.seq ?_ | refine EvC.region rfl ?_ | refine EvO.nil ?_ | refine at_normal ?_ | refine EvC.skip ?_ | refine EvC.block ?_)
        refine EvC.loop (fun m σ h' => h' = h11 ∧ ∃ E : Nat → AV, m = 0 ∧ σ = upds [(2, .ptr b 0), (5, .ptr d 0), (51, .int .i64 0), (52, .int .i64 0)] E) (0) ?_ ?_
        · exact ⟨rfl, _, rfl, hold ⟨rfl, rfl, rfl, rfl, trivial⟩⟩
        · rintro m _ h11 ⟨rfl, E, rfl, rfl⟩
          repeat (first | refine EvO.plain rfl rfl rfl rfl rfl rfl ?_ | refine EvC.seq ?_ | refine EvC.region rfl ?_ | refine EvO.nil ?_ | refine at_normal ?_)
          refine EvC.cond (t := false) rfl (fun e => nomatch e) (fun _ => ?_)
          have fd := loadAgg (T := TT gt) (t := 24) (off := 0) (n := 2) (r := [.int .i64 vars, w]) (S11.le _ _ o9) rfl rfl
          have fb := loadAgg (T := TT gt) (t := 24) (off := 0) (n := 2) (r := [.int .i64 vars, cl]) (S11.le _ _ b9) rfl rfl
          repeat (first | refine EvO.plain rfl rfl rfl rfl rfl (by assumption) ?_ | refine EvC.seq ?_ | refine EvC.region rfl ?_ | refine at_normal ?_ | refine EvC.exit ?_ | refine at_exit ?_ | refine be_same rfl ?_ | refine ro_exit ?_)
          (refine EvO.cons rfl rfl rfl (EvP.callF rfl rfl rfl rfl (EvF.mono (Same_spec S11.wf (D9.mono S11.le) (C9.mono S11.le)) ?_)))
          rintro _ h20 _ ⟨_, rfl⟩
          clear fd fb
          repeat (refine EvO.plain rfl rfl rfl rfl rfl rfl ?_)
          refine EvO.on rfl rfl rfl (EvP.callF rfl rfl rfl rfl (EvF.mono (awake_spec (facts gt)) ?_))
          rintro _ h99 _ ⟨rfl, rfl⟩
          repeat (first | refine EvO.plain rfl rfl rfl rfl rfl rfl ?_ | refine EvO.nil ?_ | refine at_normal ?_ | refine EvC.ret ?_)
          (refine ret_is (v := .bool true) rfl rfl ?_)
          rfl
      · have ln : alen (TT gt) h11 22 (.slice id 0 len cap ex) = some (.int .i64 len) := rfl
        repeat (first | refine EvO.plain rfl rfl rfl rfl rfl rfl ?_ | refine EvC.seq ?_ | refine EvC.region rfl ?_ | refine EvO.nil ?_ | refine at_normal ?_ | refine EvC.skip ?_ | refine EvC.block ?_)
        clear ln
        refine EvC.loop (fun m σ h' => ∃ (i : Nat) (E : Nat → AV), HS h9 h' cn ∧ h'.t.get id = some (.cells cs 25 false) ∧ (∀ i, i < len → ∃ a, cs[i]? = some a ∧ OwnV h9 h' a) ∧ (∀ id o, h9.t.get id = none → h'.t.get id = some o → cn id = 1) ∧ i ≤ len ∧ m = len - i ∧ σ = upds [(2, .ptr b 0), (5, .ptr d 0), (9, .slice id 0 len cap ex), (51, .int .i64 len), (52, .int .i64 i)] E) (len) ?_ ?_
        · exact ⟨0, _, S11, hid, hrows, hc1, Nat.zero_le _, rfl, hold ⟨rfl, rfl, rfl, rfl, rfl, trivial⟩⟩
        · clear S11 hid hrows hc1
          rintro m _ h12 ⟨i, E, S12, hid, hrows, hc1, hi, rfl, rfl⟩
          repeat (first | refine EvO.plain rfl rfl rfl rfl rfl rfl ?_ | refine EvC.seq ?_ | refine EvC.region rfl ?_ | refine EvO.nil ?_ | refine at_normal ?_)
          refine EvC.decide rfl (fun hlt => ?_) (fun hlt => ?_)
          · have hlt : i < len := by omega
            have hOB := hrows i hlt
            obtain ⟨a, ha, oa⟩ := hOB
            have b1 := at_sliceL (gt := gt) (id := id) (cap := cap) (ex := ex) hlt
            have b2 := load1 (T := TT gt) (t := 25) (off := i) hid rfl rfl (show lget cs i = some a by rw [lget_eq]; exact ha)
            have hOB := oa.len (gt := gt)
            obtain ⟨la, hla40, hla1, hla2⟩ := hOB
            have ln := hla1 h12
            repeat (first | refine EvO.plain rfl rfl rfl rfl rfl rfl ?_ | refine EvO.plain rfl rfl rfl rfl rfl (by assumption) ?_ | refine EvC.seq ?_ | refine EvC.region rfl ?_ | refine EvO.nil ?_ | refine at_normal ?_ | refine EvC.skip ?_ | refine EvC.block ?_)
            clear b2 ln
            refine EvC.loop (fun m σ h' => ∃ (j : Nat) (E : Nat → AV), HS h9 h' cn ∧ h'.t.get id = some (.cells cs 25 false) ∧ (∀ i, i < len → ∃ a, cs[i]? = some a ∧ OwnV h9 h' a) ∧ (∀ id o, h9.t.get id = none → h'.t.get id = some o → cn id = 1) ∧ OwnV h9 h' a ∧ j ≤ la ∧ m = la - j ∧ σ = upds [(2, .ptr b 0), (5, .ptr d 0), (9, .slice id 0 len cap ex), (11, .int .i64 i), (51, .int .i64 len), (52, .int .i64 i), (59, .int .i64 la), (60, .int .i64 j)] E) (la) ?_ ?_
            · exact ⟨0, _, S12, hid, hrows, hc1, oa, Nat.zero_le _, rfl, hold ⟨rfl, rfl, rfl, rfl, rfl, rfl, rfl, rfl, trivial⟩⟩
            · clear S12 hid hrows hc1 oa
              rintro m _ h13 ⟨j, E, S13, hid, hrows, hc1, oa, hj, rfl, rfl⟩
              repeat (first | refine EvO.plain rfl rfl rfl rfl rfl rfl ?_ | refine EvC.seq ?_ | refine EvC.region rfl ?_ | refine EvO.nil ?_ | refine at_normal ?_)
              refine EvC.decide rfl (fun hjl => ?_) (fun hjl => ?_)
              · have hjl : j < la := by omega
                have b2 := load1 (T := TT gt) (t := 25) (off := i) hid rfl rfl (show lget cs i = some a by rw [lget_eq]; exact ha)
                have hOB := hla2 h13 oa j hjl
                obtain ⟨id', cs', d1, d2, d3, d4⟩ := hOB
                repeat (first | refine EvO.plain rfl rfl rfl rfl rfl rfl ?_ | refine EvO.plain rfl rfl rfl rfl rfl (by assumption) ?_ | refine EvC.seq ?_ | refine EvC.region rfl ?_ | refine EvO.nil ?_ | refine at_normal ?_ | refine EvC.skip ?_ | refine EvC.block ?_)
                refine EvO.cons0 rfl rfl (EvP.store1 (u := .int .i64 7) S13 1 d3 (hc1 _ _ d2 d3) (by decide) rfl rfl rfl rfl ⟨rfl, rfl⟩ d4 (fun h14 A14 S14 o14 hoth _ => ?_))
                clear b2 d1
                have hne : id ≠ id' := fun e => by
                  rw [e] at hid
                  rw [hid] at d3
                  cases d3
                repeat (first | refine EvO.plain rfl rfl rfl rfl rfl rfl ?_ | refine EvC.region rfl ?_ | refine EvO.nil ?_ | refine at_normal ?_ | refine be_normal ?_ | refine ro_normal ?_ | refine EvO.cons rfl rfl rfl (EvP.add64 rfl rfl (by omega) ?_))
                refine ⟨la - (j + 1), by omega, j + 1, _, S14, by rw [hoth _ hne]; exact hid, fun k hk => ?_, fun k o h1 h2 => ?_, oa.store o14 d3 hoth, by omega, rfl, hold ⟨rfl, rfl, rfl, rfl, rfl, rfl, rfl, rfl, trivial⟩⟩
                · have hOB := hrows k hk
                  obtain ⟨a', h1, h2⟩ := hOB
                  exact ⟨a', h1, h2.store o14 d3 hoth⟩
                · by_cases e : k = id'
                  · subst e; exact hc1 _ _ d2 d3
                  · rw [hoth _ e] at h2; exact hc1 _ _ h1 h2
              · repeat (first | refine EvO.plain rfl rfl rfl rfl rfl rfl ?_ | refine EvC.region rfl ?_ | refine EvO.nil ?_ | refine at_normal ?_ | refine EvC.exit ?_ | refine at_exit ?_ | refine be_same rfl ?_ | refine ro_exit ?_ | refine be_normal ?_ | refine ro_normal ?_ | refine EvO.cons rfl rfl rfl (EvP.add64 rfl rfl (by omega) ?_))
                exact ⟨len - (i + 1), by omega, i + 1, _, S13, hid, hrows, hc1, by omega, rfl, hold ⟨rfl, rfl, rfl, rfl, rfl, trivial⟩⟩
          · skip
            have fd := loadAgg (T := TT gt) (t := 24) (off := 0) (n := 2) (r := [.int .i64 vars, w]) (S12.le _ _ o9) rfl rfl
            have fb := loadAgg (T := TT gt) (t := 24) (off := 0) (n := 2) (r := [.int .i64 vars, cl]) (S12.le _ _ b9) rfl rfl
            repeat (first | refine EvO.plain rfl rfl rfl rfl rfl (by assumption) ?_ | refine EvC.seq ?_ | refine EvC.region rfl ?_ | refine at_normal ?_ | refine EvC.exit ?_ | refine at_exit ?_ | refine be_same rfl ?_ | refine ro_exit ?_)
            (refine EvO.cons rfl rfl rfl (EvP.callF rfl rfl rfl rfl (EvF.mono (Same_spec S12.wf (D9.mono S12.le) (C9.mono S12.le)) ?_)))
            rintro _ h20 _ ⟨_, rfl⟩
            clear fd fb
            repeat (refine EvO.plain rfl rfl rfl rfl rfl rfl ?_)
            refine EvO.on rfl rfl rfl (EvP.callF rfl rfl rfl rfl (EvF.mono (awake_spec (facts gt)) ?_))
            rintro _ h99 _ ⟨rfl, rfl⟩
            repeat (first | refine EvO.plain rfl rfl rfl rfl rfl rfl ?_ | refine EvO.nil ?_ | refine at_normal ?_ | refine EvC.ret ?_)
            (refine ret_is (v := .bool true) rfl rfl ?_)
            rfl
end Sa
end Pf
end Go.Proofs.YtheiionmocfleaaDoor
