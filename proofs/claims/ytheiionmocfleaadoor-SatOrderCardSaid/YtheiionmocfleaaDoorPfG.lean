/- The reference follows units. -/
import Derived.Test.YtheiionmocfleaaDoorPfF
namespace Go.Proofs.YtheiionmocfleaaDoor
namespace Pf
open Go Go.AI Go.Proofs
variable {gt : Tree (List AV)}
theorem getD_set1 {l : List Int} {i j : Nat} {x : Int} (hi : i < l.length) : (l.set i x).getD j 0 = if i = j then x else l.getD j 0 := by
  rw [List.getD_eq_getElem?_getD, List.getElem?_set]
  by_cases e : i = j
  · subst e; rw [if_pos rfl, if_pos hi, if_pos rfl]; rfl
  · rw [if_neg e, if_neg e, List.getD_eq_getElem?_getD]
theorem VOk.set {n : Nat} {all : List (List Int)} {taken val : List Int} (V : VOk n all taken val) {x : Int} (hx : ok n x) (hd : Der all taken x) : VOk n all taken (val.set x.natAbs x) where
  len := by rw [List.length_set]; exact V.len
  ent := fun v hv hne => by
    obtain ⟨h0, h1, h2⟩ := hx
    have hl := V.len
    rw [getD_set1 (by omega)] at hne ⊢
    split
    · rename_i e; exact e
    · rename_i e; rw [if_neg e] at hne; exact V.ent v hv hne
  der := fun y hy hne => by
    have hOB := List.mem_or_eq_of_mem_set hy
    rcases hOB with h | h
    · exact V.der y h hne
    · rw [h]; exact hd
def zeros : List Int → Nat
  | [] => 0
  | x :: l => (if x = 0 then 1 else 0) + zeros l
theorem zeros_set : ∀ {l : List Int} {i : Nat} {x : Int}, i < l.length → l.getD i 0 = 0 → x ≠ 0 → zeros (l.set i x) < zeros l
  | [], _, _, h, _, _ => absurd h (Nat.not_lt_zero _)
  | y :: l, 0, x, _, h0, hx => by
    have : y = 0 := h0
    simp only [List.set_cons_zero, zeros, this, if_true, if_neg hx]; omega
  | y :: l, i + 1, x, h, h0, hx => by
    have := zeros_set (l := l) (i := i) (x := x) (by simpa using h) (by simpa [List.getD_eq_getElem?_getD] using h0) hx
    simp only [List.set_cons_succ, zeros]; omega
theorem zeros_le : ∀ l : List Int, zeros l ≤ l.length
  | [] => Nat.le_refl _
  | x :: l => by
    have := zeros_le l
    simp only [zeros, List.length_cons]; split <;> omega
theorem tr_free {n : Nat} {all : List (List Int)} {taken val : List Int} (V : VOk n all taken val) {x : Int} (hx : ok n x) (hF : Fv val x = false) : -x ∉ tr val := fun h => by
  have h2 := ((mem_tr V).1 h).2
  rw [Int.natAbs_neg] at h2
  unfold Fv at hF
  rw [h2] at hF
  simp at hF
theorem tr_cons {n : Nat} {all : List (List Int)} {taken val : List Int} (V : VOk n all taken val) (x : Int) (h : x ∈ tr val) : -x ∉ tr val := fun h' => by
  have hOB := (mem_tr V).1 h
  obtain ⟨h1, h2⟩ := hOB
  have hOB := (mem_tr V).1 h'
  obtain ⟨h3, h4⟩ := hOB
  rw [Int.natAbs_neg, h2] at h4
  omega
theorem many_settled {n : Nat} {all : List (List Int)} {taken val c : List Int} (V : VOk n all taken val) (hc : ∀ x ∈ c, ok n x) (h : ∃ y ∈ c, ∃ z ∈ c, y ≠ z ∧ Fv val y = false ∧ Fv val z = false) : settled (tr val) c := by
  obtain ⟨y, hy, z, hz, hne, h1, h2⟩ := h
  by_cases e1 : y ∈ tr val
  · exact .inl ⟨y, hy, e1⟩
  · by_cases e2 : z ∈ tr val
    · exact .inl ⟨z, hz, e2⟩
    · exact .inr ⟨y, hy, z, hz, hne, ofT_zero.2 ⟨e1, tr_free V (hc y hy) h1⟩, ofT_zero.2 ⟨e2, tr_free V (hc z hz) h2⟩⟩
theorem vec_introw {col : Nat → Nat} {h : AH} {v : AV} {m : Nat} {l : List Int} (V : Vec col 1 h 3 1 v m (l.map (AV.int .i64))) : IntRow h v l := by
  have hc := V.count
  have : m = l.length := by simpa using hc.symm
  subst this
  exact row_ints V.row
set_option maxHeartbeats 4000000 in
theorem follow_spec {h : AH} (hw : WF h) {n : Nat} (hn : n ≤ 50000) {cl tv : AV} {L : List (List Int)} {cv : Nat → AV} {taken : List Int} (C : CnfAt h n cl L cv) (rt : IntRow h tv taken) (hL : ∀ l ∈ L, ∀ x ∈ l, ok n x) (ht : ∀ x ∈ taken, ok n x) (htl : taken.length ≤ 2 ^ 50) :
    EvF (TT gt) X 44 [.int .i64 n, cl, tv] h (fun r h' => (h.le h' ∧ WF h') ∧ ∃ a b, r = .tuple [a, .bool b] ∧ ((b = true ∧ a = .nilSlice ∧ Clash L taken) ∨ (b = false ∧ ∃ val, IntRow h' a val ∧ VOk n L taken val ∧ (∀ x ∈ taken, x ∈ tr val) ∧ ∀ c ∈ L, settled (tr val) c))) := by
  have S0 := HS.all hw
  have e1 : ((n : Int) + 1) = ((n + 1 : Nat) : Int) := by omega
  have hmany := C.many
  refine EvF.enter rfl rfl rfl ?_
  repeat (first | refine EvO.plain rfl rfl rfl rfl rfl rfl ?_ | refine EvC.seq ?_ | refine EvC.region rfl ?_ | refine EvO.nil ?_ | refine at_normal ?_ | refine EvO.cons rfl rfl rfl (EvP.add64 rfl rfl (by omega) ?_))
  (refine EvO.cons rfl rfl rfl (EvP.newC S0 1 rfl (make_vec (T := TT gt) (n := n + 1) (t := 25) rfl rfl rfl (by omega) (by show ((n + 1 : Nat) : Int) * (8 : Nat) ≤ ((70368744177664 : Nat) : Int); omega)) (by decide) (fun h1 id col1 A1 S1 g1 c1 _ => ?_)))
  have V1 : Vec col1 1 h1 3 1 (.slice id 0 (n + 1) (n + 1) true) (n + 1) ((List.replicate (n + 1) (0 : Int)).map (AV.int .i64)) := .mk (tail := []) (by rw [List.append_nil, List.map_replicate, ← rep_one]; exact g1) c1 (by simp) (fun _ => ⟨Nat.le_refl _, by simp⟩)
  have O1 : VOk n L taken (List.replicate (n + 1) 0) := ⟨by simp, fun v hv hne => by
    rw [List.getD_eq_getElem?_getD, List.getElem?_replicate] at hne
    split at hne <;> exact absurd rfl hne, fun x hx hne => absurd (List.mem_replicate.1 hx).2 hne⟩
  have ln := rt.len_any (T := TT gt) (t := 25) rfl h1
  repeat (first | refine EvO.plain rfl rfl rfl rfl rfl rfl ?_ | refine EvO.plain rfl rfl rfl rfl rfl (by assumption) ?_ | refine EvC.seq ?_ | refine EvC.region rfl ?_ | refine EvO.nil ?_ | refine at_normal ?_ | refine EvC.block ?_)
  clear ln g1
  generalize hvv : AV.slice id 0 (n + 1) (n + 1) true = vv at *
  have fin : ∀ {hx : AH} {colx : Nat → Nat}, Step (fun x => x = 1) (fun _ => 0) h colx hx → h.le hx ∧ WF hx := fun A => by
    have := HS.hide S0 A (by decide)
    exact ⟨this.le, this.wf⟩
  refine EvC.loop (fun m σ h' => ∃ (i : Nat) (val : List Int) (col : Nat → Nat) (E : Nat → AV), Step (fun x => x = 1) (fun _ => 0) h col h' ∧ HS h h' col ∧ Vec col 1 h' 3 1 vv (n + 1) (val.map (AV.int .i64)) ∧ VOk n L taken val ∧ (∀ j, j < i → taken.getD j 0 ∈ tr val) ∧ i ≤ taken.length ∧ m = taken.length - i ∧ σ = upds [(0, .int .i64 n), (1, cl), (8, vv), (21, tv), (22, .int .i64 taken.length), (23, .int .i64 i)] E) (taken.length) ?_ ?_
  · exact ⟨0, _, col1, _, A1, S1, V1, O1, fun j hj => absurd hj (Nat.not_lt_zero _), Nat.zero_le _, rfl, hold ⟨rfl, rfl, hvv, rfl, rfl, rfl, trivial⟩⟩
  · clear A1 S1 V1 O1 hvv
    rintro m _ h2 ⟨i, val, col, E, A, S, V, O, hp, hi, rfl, rfl⟩
    repeat (first | refine EvO.plain rfl rfl rfl rfl rfl rfl ?_ | refine EvC.seq ?_ | refine EvC.region rfl ?_ | refine EvO.nil ?_ | refine at_normal ?_)
    refine EvC.decide rfl (fun hc => ?_) (fun hc => ?_)
    · have hlt : i < taken.length := by omega
      have hOB := (rt.mono S.le).at1 (T := TT gt) (t := 25) (e := 3) rfl rfl rfl rfl (k := .i64) (i := i) (by omega) (by omega)
      obtain ⟨q, b1, b2⟩ := hOB
      rw [Int.toNat_natCast] at b2
      have hx := ht _ (getD_mem hlt)
      have hd : Der L taken (taken.getD i 0) := .tak (getD_mem hlt)
      generalize hgx : taken.getD i 0 = x at *
      have hr := absI_rng hx
      have hxx := hx
      obtain ⟨x0, x1, x2⟩ := hxx
      repeat (first | refine EvO.plain rfl rfl rfl rfl rfl rfl ?_ | refine EvO.plain rfl rfl rfl rfl rfl (by assumption) ?_ | refine EvC.seq ?_ | refine EvC.region rfl ?_ | refine EvO.nil ?_ | refine at_normal ?_ | refine EvC.skip ?_ | refine EvC.block ?_)
      (refine EvO.cons rfl rfl rfl (EvP.callF rfl rfl rfl rfl (EvF.mono (var_spec (facts gt) x (by omega)) ?_)))
      rintro _ h2 _ ⟨rfl, rfl⟩
      clear b1 b2
      have rv := vec_introw V
      have hOB := rv.at1 (T := TT gt) (t := 25) (e := 3) rfl rfl rfl rfl (k := .i64) (i := absI x) hr.1 (by rw [O.len]; exact hr.2)
      obtain ⟨q2, d1, d2⟩ := hOB
      rw [absI_nat] at d2
      have hent := O.ent x.natAbs (by omega)
      generalize hgv : val.getD x.natAbs 0 = v at *
      repeat (first | refine EvO.plain rfl rfl rfl rfl rfl rfl ?_ | refine EvO.plain rfl rfl rfl rfl rfl (by assumption) ?_ | refine EvC.seq ?_ | refine EvC.region rfl ?_ | refine EvO.nil ?_ | refine at_normal ?_)
      clear d2
      have hgl : x.natAbs < val.length := by rw [O.len]; omega
      have O2 := O.set hx hd
      have hp2 : (v = 0 ∨ v = x) → ∀ j, j < i + 1 → taken.getD j 0 ∈ tr (val.set x.natAbs x) := fun hv j hj => by
        rw [mem_tr O2, getD_set1 hgl]
        have hOB := Nat.lt_or_ge j i
        rcases hOB with hji | hji
        · have hOB := (mem_tr O).1 (hp j hji)
          obtain ⟨k1, k2⟩ := hOB
          refine ⟨k1, ?_⟩
          split
          · rename_i e
            rw [← e, hgv] at k2
            rcases hv with hv | hv
            · rw [hv] at k2; exact absurd k2.symm k1
            · rw [← k2]; exact hv.symm
          · exact k2
        · have hOB : j = i := by omega
          obtain rfl := hOB
          rw [hgx]
          exact ⟨x0, if_pos rfl⟩
      have clash : v = -x → Clash L taken := fun hv => .inl ⟨x, hd, O.der _ (by
        have hlv : val.getD x.natAbs 0 ∈ val := getD_mem hgl
        rw [hgv, hv] at hlv; exact hlv) (by omega)⟩
      have cs : v = 0 ∨ (v = x ∧ v ≠ 0 ∧ x > 0) ∨ (v = x ∧ v ≠ 0 ∧ ¬ x > 0) ∨ (v = -x ∧ v ≠ 0 ∧ x > 0) ∨ (v = -x ∧ v ≠ 0 ∧ ¬ x > 0) := by omega
      refine EvO.mono (fun σ h' => h' = h2 ∧ ∃ E, σ = upds [(0, .int .i64 n), (1, cl), (8, vv), (10, .int .i64 x), (21, tv), (22, .int .i64 taken.length), (23, .int .i64 i), (40, .bool (decide (v = -x)))] E) ?_ ?_
      · rcases cs with v0 | ⟨hvx, hv, hx1⟩ | ⟨hvx, hv, hx1⟩ | ⟨hvx, hv, hx1⟩ | ⟨hvx, hv, hx1⟩
        · refine EvO.cons rfl rfl rfl (EvP.quiet rfl (isB (bne_false v0)) ?_)
          repeat (first | refine EvO.plain rfl rfl rfl rfl rfl rfl ?_ | refine EvO.nil ?_ | refine EvO.off rfl rfl rfl ?_)
          exact ⟨rfl, _, hold ⟨rfl, rfl, rfl, rfl, rfl, rfl, rfl, congrArg AV.bool (decide_eq_false (by omega)).symm, trivial⟩⟩
        · refine EvO.cons rfl rfl rfl (EvP.quiet rfl (isB (bne_true hv)) ?_)
          repeat (first | refine EvO.plain rfl rfl rfl rfl rfl rfl ?_ | refine EvO.plainOn rfl rfl rfl rfl rfl rfl ?_)
          refine EvO.on rfl rfl rfl (EvP.quiet rfl (isB (decide_eq_true (by omega))) ?_)
          repeat (refine EvO.plainOn rfl rfl rfl rfl rfl rfl ?_)
          refine EvO.on rfl rfl rfl (EvP.quiet rfl (isB (decide_eq_true (by omega))) ?_)
          skip
          refine EvO.on rfl rfl rfl (EvP.quiet (v := .bool false) rfl rfl ?_)
          repeat (first | refine EvO.plain rfl rfl rfl rfl rfl rfl ?_ | refine EvO.nil ?_)
          exact ⟨rfl, _, hold ⟨rfl, rfl, rfl, rfl, rfl, rfl, rfl, congrArg AV.bool (decide_eq_false (by omega)).symm, trivial⟩⟩
        · refine EvO.cons rfl rfl rfl (EvP.quiet rfl (isB (bne_true hv)) ?_)
          repeat (first | refine EvO.plain rfl rfl rfl rfl rfl rfl ?_ | refine EvO.plainOn rfl rfl rfl rfl rfl rfl ?_)
          refine EvO.on rfl rfl rfl (EvP.quiet rfl (isB (decide_eq_false (by omega))) ?_)
          repeat (refine EvO.plainOn rfl rfl rfl rfl rfl rfl ?_)
          refine EvO.on rfl rfl rfl (EvP.quiet rfl (isB (decide_eq_false (by omega))) ?_)
          skip
          refine EvO.on rfl rfl rfl (EvP.quiet (v := .bool false) rfl rfl ?_)
          repeat (first | refine EvO.plain rfl rfl rfl rfl rfl rfl ?_ | refine EvO.nil ?_)
          exact ⟨rfl, _, hold ⟨rfl, rfl, rfl, rfl, rfl, rfl, rfl, congrArg AV.bool (decide_eq_false (by omega)).symm, trivial⟩⟩
        · refine EvO.cons rfl rfl rfl (EvP.quiet rfl (isB (bne_true hv)) ?_)
          repeat (first | refine EvO.plain rfl rfl rfl rfl rfl rfl ?_ | refine EvO.plainOn rfl rfl rfl rfl rfl rfl ?_)
          refine EvO.on rfl rfl rfl (EvP.quiet rfl (isB (decide_eq_false (by omega))) ?_)
          repeat (refine EvO.plainOn rfl rfl rfl rfl rfl rfl ?_)
          refine EvO.on rfl rfl rfl (EvP.quiet rfl (isB (decide_eq_true (by omega))) ?_)
          skip
          refine EvO.on rfl rfl rfl (EvP.quiet (v := .bool true) rfl rfl ?_)
          repeat (first | refine EvO.plain rfl rfl rfl rfl rfl rfl ?_ | refine EvO.nil ?_)
          exact ⟨rfl, _, hold ⟨rfl, rfl, rfl, rfl, rfl, rfl, rfl, congrArg AV.bool (decide_eq_true (by omega)).symm, trivial⟩⟩
        · refine EvO.cons rfl rfl rfl (EvP.quiet rfl (isB (bne_true hv)) ?_)
          repeat (first | refine EvO.plain rfl rfl rfl rfl rfl rfl ?_ | refine EvO.plainOn rfl rfl rfl rfl rfl rfl ?_)
          refine EvO.on rfl rfl rfl (EvP.quiet rfl (isB (decide_eq_true (by omega))) ?_)
          repeat (refine EvO.plainOn rfl rfl rfl rfl rfl rfl ?_)
          refine EvO.on rfl rfl rfl (EvP.quiet rfl (isB (decide_eq_false (by omega))) ?_)
          skip
          refine EvO.on rfl rfl rfl (EvP.quiet (v := .bool true) rfl rfl ?_)
          repeat (first | refine EvO.plain rfl rfl rfl rfl rfl rfl ?_ | refine EvO.nil ?_)
          exact ⟨rfl, _, hold ⟨rfl, rfl, rfl, rfl, rfl, rfl, rfl, congrArg AV.bool (decide_eq_true (by omega)).symm, trivial⟩⟩
      · clear E
        rintro _ h2 ⟨rfl, E, rfl⟩
        repeat (refine at_normal ?_)
        refine EvC.decide rfl (fun hq => ?_) (fun hq => ?_)
        · repeat (first | refine EvO.plain rfl rfl rfl rfl rfl rfl ?_ | refine EvC.seq ?_ | refine EvC.region rfl ?_ | refine EvO.nil ?_ | refine at_normal ?_ | refine EvC.ret ?_ | refine at_ret ?_ | refine be_ret ?_ | refine ro_ret ?_)
          (refine ret_are (vs := [.nilSlice, .bool true]) rfl rfl ?_)
          exact ⟨fin A, _, true, rfl, .inl ⟨rfl, rfl, clash hq⟩⟩
        · repeat (first | refine EvO.plain rfl rfl rfl rfl rfl rfl ?_ | refine EvC.region rfl ?_ | refine at_normal ?_ | refine EvC.skip ?_)
          (refine EvO.cons rfl rfl rfl (EvP.callF rfl rfl rfl rfl (EvF.mono (var_spec (facts gt) x (by omega)) ?_)))
          rintro _ h2 _ ⟨rfl, rfl⟩
          repeat (first | refine EvO.plain rfl rfl rfl rfl rfl rfl ?_ | refine EvO.plain rfl rfl rfl rfl rfl (by assumption) ?_)
          refine EvO.cons0 rfl rfl (EvP.setV (T := TT gt) (t := 25) (u := .int .i64 x) S V (by decide) rfl rfl rfl hr.1 (by have := hr.2; omega) d1 rfl rfl rfl rfl (fun h3 A3 S3 V3 _ => ?_))
          clear d1
          rw [absI_nat, ← List.map_set] at V3
          repeat (first | refine EvO.plain rfl rfl rfl rfl rfl rfl ?_ | refine EvC.region rfl ?_ | refine EvO.nil ?_ | refine at_normal ?_ | refine be_normal ?_ | refine ro_normal ?_ | refine EvO.cons rfl rfl rfl (EvP.add64 rfl rfl (by omega) ?_))
          exact ⟨taken.length - (i + 1), by omega, i + 1, _, col, _, A.trans A3, S3, V3, O2, hp2 (by omega), by omega, rfl, hold ⟨rfl, rfl, rfl, rfl, rfl, rfl, trivial⟩⟩
    · have hend : i = taken.length := by omega
      subst hend
      have hsub : ∀ x ∈ taken, x ∈ tr val := fun x hx => by
        have hOB := List.getElem_of_mem hx
        obtain ⟨j, hj, rfl⟩ := hOB
        have := hp j hj
        rwa [List.getD_eq_getElem?_getD, List.getElem?_eq_getElem hj, Option.getD_some] at this
      repeat (first | refine EvO.plain rfl rfl rfl rfl rfl rfl ?_ | refine EvC.seq ?_ | refine EvC.region rfl ?_ | refine EvO.nil ?_ | refine at_normal ?_ | refine EvC.block ?_ | refine EvC.exit ?_ | refine at_exit ?_ | refine be_same rfl ?_ | refine ro_exit ?_)
      clear hp rt
      refine EvC.loop (fun m σ h' => ∃ (ag : Bool) (val : List Int) (col : Nat → Nat) (E : Nat → AV), Step (fun x => x = 1) (fun _ => 0) h col h' ∧ HS h h' col ∧ Vec col 1 h' 3 1 vv (n + 1) (val.map (AV.int .i64)) ∧ VOk n L taken val ∧ (∀ x ∈ taken, x ∈ tr val) ∧ (ag = false → ∀ c ∈ L, settled (tr val) c) ∧ m = 2 * zeros val + ag.toNat ∧ σ = upds [(0, .int .i64 n), (1, cl), (8, vv), (12, .bool ag)] E) (2 * zeros val + 1) ?_ ?_
      · exact ⟨true, val, col, _, A, S, V, O, hsub, fun e => (nomatch e), rfl, hold ⟨rfl, rfl, rfl, rfl, trivial⟩⟩
      · clear A S V O hsub
        rintro m _ h3 ⟨ag, val, col, E, A, S, V, O, hsub, hset, rfl, rfl⟩
        repeat (first | refine EvO.plain rfl rfl rfl rfl rfl rfl ?_ | refine EvC.seq ?_ | refine EvC.region rfl ?_ | refine EvO.nil ?_ | refine at_normal ?_)
        refine EvC.cond rfl (fun hag => ?_) (fun hag => ?_)
        · have hag : ag = true := hag
          subst hag
          have l1 := C.rows.len_any (T := TT gt) (t := 22) rfl h3
          repeat (first | refine EvO.plain rfl rfl rfl rfl rfl rfl ?_ | refine EvO.plain rfl rfl rfl rfl rfl (by assumption) ?_ | refine EvC.seq ?_ | refine EvC.region rfl ?_ | refine EvO.nil ?_ | refine at_normal ?_ | refine EvC.skip ?_ | refine EvC.block ?_)
          clear l1 hset
          refine EvC.loop (fun m σ h' => ∃ (i : Nat) (ag : Bool) (val2 : List Int) (col : Nat → Nat) (E : Nat → AV), Step (fun x => x = 1) (fun _ => 0) h col h' ∧ HS h h' col ∧ Vec col 1 h' 3 1 vv (n + 1) (val2.map (AV.int .i64)) ∧ VOk n L taken val2 ∧ (∀ x ∈ taken, x ∈ tr val2) ∧ (ag = false → val2 = val ∧ ∀ j, j < i → settled (tr val2) (L.getD j [])) ∧ (ag = true → zeros val2 < zeros val) ∧ i ≤ L.length ∧ m = L.length - i ∧ σ = upds [(0, .int .i64 n), (1, cl), (8, vv), (12, .bool ag), (48, cl), (49, .int .i64 L.length), (50, .int .i64 i)] E) (L.length) ?_ ?_
          · exact ⟨0, false, val, col, _, A, S, V, O, hsub, fun _ => ⟨rfl, fun j hj => absurd hj (Nat.not_lt_zero _)⟩, fun e => (nomatch e), Nat.zero_le _, rfl, hold ⟨rfl, rfl, rfl, rfl, rfl, rfl, rfl, trivial⟩⟩
          · clear A S V O hsub
            rintro m _ h4 ⟨i, ag, val2, col, E, A, S, V, O, hsub, hf, hg, hi, rfl, rfl⟩
            repeat (first | refine EvO.plain rfl rfl rfl rfl rfl rfl ?_ | refine EvC.seq ?_ | refine EvC.region rfl ?_ | refine EvO.nil ?_ | refine at_normal ?_)
            refine EvC.decide rfl (fun hc => ?_) (fun hc => ?_)
            · have hlt : i < L.length := by omega
              have hlm := getDL_mem hlt
              have hOB := (C.rows.mono S.le).at1 (T := TT gt) (t := 22) (e := 25) rfl rfl rfl rfl (k := .i64) (i := i) (by omega) (by omega)
              obtain ⟨q, b1, b2⟩ := hOB
              rw [Int.toNat_natCast] at b2
              have hcl := hL _ hlm
              have hlens := C.lens _ hlm
              repeat (first | refine EvO.plain rfl rfl rfl rfl rfl rfl ?_ | refine EvO.plain rfl rfl rfl rfl rfl (by assumption) ?_ | refine EvC.seq ?_ | refine EvC.region rfl ?_ | refine EvO.nil ?_ | refine at_normal ?_ | refine EvC.skip ?_ | refine EvC.block ?_)
              clear b1 b2
              (refine EvO.cons rfl rfl rfl (EvP.callF rfl rfl rfl rfl (EvF.mono (left_spec (by omega) O ((C.ints i hlt).mono S.le) (vec_introw V) hcl (by omega)) ?_)))
              rintro _ h4 _ ⟨rfl, rfl⟩
              have h0 : (0 : Int) ∉ L.getD i [] := fun e => (hcl 0 e).1 rfl
              have hOB := left_three (F := Fv val2) h0
              rcases hOB with ⟨e, hm2⟩ | ⟨e, hall⟩ | ⟨l, hl0, e, hlc, hlF, hoth⟩
              · rw [e]
                repeat (first | refine EvO.plain rfl rfl rfl rfl rfl rfl ?_ | refine EvC.seq ?_ | refine EvC.region rfl ?_ | refine EvO.nil ?_ | refine at_normal ?_)
                refine EvC.cond (t := false) rfl (fun e => nomatch e) (fun _ => ?_)
                repeat (first | refine EvO.plain rfl rfl rfl rfl rfl rfl ?_ | refine EvC.seq ?_ | refine EvC.region rfl ?_ | refine EvO.nil ?_ | refine at_normal ?_ | refine EvC.skip ?_ | refine EvO.off rfl rfl rfl ?_)
                refine EvC.cond (t := false) rfl (fun e => nomatch e) (fun _ => ?_)
                repeat (first | refine EvO.plain rfl rfl rfl rfl rfl rfl ?_ | refine EvC.region rfl ?_ | refine EvO.nil ?_ | refine at_normal ?_ | refine EvC.skip ?_ | refine be_normal ?_ | refine ro_normal ?_ | refine EvO.cons rfl rfl rfl (EvP.add64 rfl rfl (by omega) ?_))
                exact ⟨L.length - (i + 1), by omega, i + 1, ag, val2, col, _, A, S, V, O, hsub, fun ha => ⟨(hf ha).1, fun j hj => (Nat.lt_succ_iff_lt_or_eq.1 hj).elim ((hf ha).2 j) (fun e => e ▸ many_settled O hcl hm2)⟩, hg, by omega, rfl, hold ⟨rfl, rfl, rfl, rfl, rfl, rfl, rfl, trivial⟩⟩
              · rw [e]
                repeat (first | refine EvO.plain rfl rfl rfl rfl rfl rfl ?_ | refine EvC.seq ?_ | refine EvC.region rfl ?_ | refine EvO.nil ?_ | refine at_normal ?_)
                refine EvC.cond (t := true) rfl (fun _ => ?_) (fun e => nomatch e)
                repeat (first | refine EvO.plain rfl rfl rfl rfl rfl rfl ?_ | refine EvC.seq ?_ | refine EvC.region rfl ?_ | refine EvO.nil ?_ | refine at_normal ?_ | refine EvC.ret ?_ | refine at_ret ?_ | refine be_ret ?_ | refine ro_ret ?_)
                (refine ret_are (vs := [.nilSlice, .bool true]) rfl rfl ?_)
                refine ⟨fin A, _, true, rfl, .inl ⟨rfl, rfl, .inr ⟨_, hlm, fun y hy => ?_⟩⟩⟩
                have hy1 := of_decide_eq_true (hall y hy)
                have hOB := hcl y hy
                obtain ⟨y0, y1, y2⟩ := hOB
                have hlv : val2.getD y.natAbs 0 ∈ val2 := getD_mem (by rw [O.len]; omega)
                rw [hy1] at hlv
                exact O.der _ hlv (by omega)
              · rw [e]
                have hlo := hcl l hlc
                have hr := absI_rng hlo
                have hlo' := hlo
                obtain ⟨y0, y1, y2⟩ := hlo'
                have hgl : l.natAbs < val2.length := by rw [O.len]; omega
                have hd : Der L taken l := .unit hlm hlc fun y hy hne => by
                  have hy1 := of_decide_eq_true (hoth y hy hne)
                  have hOB := hcl y hy
                  obtain ⟨z0, z1, z2⟩ := hOB
                  have hlv : val2.getD y.natAbs 0 ∈ val2 := getD_mem (by rw [O.len]; omega)
                  rw [hy1] at hlv
                  exact O.der _ hlv (by omega)
                have rv := vec_introw V
                have hOB := rv.at1 (T := TT gt) (t := 25) (e := 3) rfl rfl rfl rfl (k := .i64) (i := absI l) hr.1 (by rw [O.len]; exact hr.2)
                obtain ⟨q2, d1, d2⟩ := hOB
                rw [absI_nat] at d2
                repeat (first | refine EvO.plain rfl rfl rfl rfl rfl rfl ?_ | refine EvC.seq ?_ | refine EvC.region rfl ?_ | refine EvO.nil ?_ | refine at_normal ?_)
                refine EvC.cond (t := false) rfl (fun e => nomatch e) (fun _ => ?_)
                repeat (first | refine EvO.plain rfl rfl rfl rfl rfl rfl ?_ | refine EvC.seq ?_ | refine EvC.region rfl ?_ | refine at_normal ?_ | refine EvC.skip ?_ | refine EvO.plainOn rfl rfl rfl rfl rfl rfl ?_)
                refine EvO.on rfl rfl rfl (EvP.callF rfl rfl rfl rfl (EvF.mono (var_spec (facts gt) l (by omega)) ?_))
                rintro _ h4 _ ⟨rfl, rfl⟩
                repeat (refine EvO.plainOn rfl rfl rfl rfl rfl (by assumption) ?_)
                by_cases hv0 : val2.getD l.natAbs 0 = 0
                · refine EvO.on rfl rfl rfl (EvP.quiet rfl (isB (beq_true hv0)) ?_)
                  repeat (first | refine EvO.plain rfl rfl rfl rfl rfl rfl ?_ | refine EvO.nil ?_ | refine at_normal ?_)
                  refine EvC.cond (t := true) rfl (fun _ => ?_) (fun e => nomatch e)
                  repeat (first | refine EvO.plain rfl rfl rfl rfl rfl rfl ?_ | refine EvC.region rfl ?_)
                  (refine EvO.cons rfl rfl rfl (EvP.callF rfl rfl rfl rfl (EvF.mono (var_spec (facts gt) l (by omega)) ?_)))
                  rintro _ h4 _ ⟨rfl, rfl⟩
                  clear d2
                  repeat (first | refine EvO.plain rfl rfl rfl rfl rfl rfl ?_ | refine EvO.plain rfl rfl rfl rfl rfl (by assumption) ?_)
                  refine EvO.cons0 rfl rfl (EvP.setV (T := TT gt) (t := 25) (u := .int .i64 l) S V (by decide) rfl rfl rfl hr.1 (by have := hr.2; omega) d1 rfl rfl rfl rfl (fun h5 A5 S5 V5 _ => ?_))
                  clear d1
                  rw [absI_nat, ← List.map_set] at V5
                  repeat (first | refine EvO.plain rfl rfl rfl rfl rfl rfl ?_ | refine EvC.region rfl ?_ | refine EvO.nil ?_ | refine at_normal ?_ | refine be_normal ?_ | refine ro_normal ?_ | refine EvO.cons rfl rfl rfl (EvP.add64 rfl rfl (by omega) ?_))
                  refine ⟨L.length - (i + 1), by omega, i + 1, true, _, col, _, A.trans A5, S5, V5, O.set hlo hd, fun x hx => ?_, fun e => (nomatch e), fun _ => ?_, by omega, rfl, hold ⟨rfl, rfl, rfl, rfl, rfl, rfl, rfl, trivial⟩⟩
                  · rw [mem_tr (O.set hlo hd), getD_set1 hgl]
                    have hOB := (mem_tr O).1 (hsub x hx)
                    obtain ⟨k1, k2⟩ := hOB
                    refine ⟨k1, ?_⟩
                    split
                    · rename_i e'
                      rw [← e', hv0] at k2
                      exact absurd k2.symm k1
                    · exact k2
                  · have hz := zeros_set (l := val2) (x := l) hgl hv0 y0
                    cases ag with
                    | false => rw [(hf rfl).1] at hz ⊢; exact hz
                    | true => have := hg rfl; omega
                · refine EvO.on rfl rfl rfl (EvP.quiet rfl (isB (beq_false hv0)) ?_)
                  repeat (first | refine EvO.plain rfl rfl rfl rfl rfl rfl ?_ | refine EvO.nil ?_ | refine at_normal ?_)
                  refine EvC.cond (t := false) rfl (fun e => nomatch e) (fun _ => ?_)
                  clear d1 d2
                  repeat (first | refine EvO.plain rfl rfl rfl rfl rfl rfl ?_ | refine EvC.region rfl ?_ | refine EvO.nil ?_ | refine at_normal ?_ | refine EvC.skip ?_ | refine be_normal ?_ | refine ro_normal ?_ | refine EvO.cons rfl rfl rfl (EvP.add64 rfl rfl (by omega) ?_))
                  have hlt' : l ∈ tr val2 := by
                    rw [mem_tr O]
                    refine ⟨y0, ?_⟩
                    have he := O.ent l.natAbs (by omega) hv0
                    have hne : ¬ val2.getD l.natAbs 0 = -l := of_decide_eq_false hlF
                    omega
                  exact ⟨L.length - (i + 1), by omega, i + 1, ag, val2, col, _, A, S, V, O, hsub, fun ha => ⟨(hf ha).1, fun j hj => (Nat.lt_succ_iff_lt_or_eq.1 hj).elim ((hf ha).2 j) (fun e => e ▸ .inl ⟨l, hlc, hlt'⟩)⟩, hg, by omega, rfl, hold ⟨rfl, rfl, rfl, rfl, rfl, rfl, rfl, trivial⟩⟩
            · have hend : i = L.length := by omega
              subst hend
              repeat (first | refine EvC.exit ?_ | refine at_exit ?_ | refine be_same rfl ?_ | refine ro_exit ?_ | refine be_normal ?_ | refine ro_normal ?_)
              refine ⟨2 * zeros val2 + ag.toNat, ?_, ag, val2, col, _, A, S, V, O, hsub, fun ha c hc => ?_, rfl, hold ⟨rfl, rfl, rfl, rfl, trivial⟩⟩
              · cases ag with
                | false => rw [(hf rfl).1]; simp
                | true => have := hg rfl; simp; omega
              · have hOB := List.getElem_of_mem hc
                obtain ⟨j, hj, rfl⟩ := hOB
                have := (hf ha).2 j hj
                rwa [List.getD_eq_getElem?_getD, List.getElem?_eq_getElem hj, Option.getD_some] at this
        · have hag : ag = false := hag
          subst hag
          repeat (first | refine EvO.plain rfl rfl rfl rfl rfl rfl ?_ | refine EvC.seq ?_ | refine EvC.region rfl ?_ | refine EvO.nil ?_ | refine at_normal ?_ | refine EvC.ret ?_ | refine EvC.exit ?_ | refine at_exit ?_ | refine be_same rfl ?_ | refine ro_exit ?_)
          (refine ret_are (vs := [vv, .bool false]) rfl rfl ?_)
          exact ⟨fin A, _, false, rfl, .inr ⟨rfl, val, vec_introw V, O, hsub, hset rfl⟩⟩
end Pf
end Go.Proofs.YtheiionmocfleaaDoor
