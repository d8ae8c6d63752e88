/- Each clause that Follow returns is a step: the law's run. -/
import Derived.Test.YtfjloafebkjadaaGreatDoorPgH
import Derived.Test.YtfjloafebkjadaaGreatDoorPfL
namespace Go.Proofs.YtfjloafebkjadaaGreatDoor
namespace Pf
open Go Go.AI Go.Proofs
variable {gt : Tree (List AV)}
theorem cut3 {h : AH} {v : AV} {k i : Nat} {g : Nat → List AV} (Z : Cutt h v k) (hk : 0 < k) (row : RowOf h 1 v k g) (hi : i ≤ k) :
    ∃ v', aslice (TT gt) h 22 v none (some (.int .i64 i)) (some (.int .i64 i)) = some v' ∧ RowOf h 1 v' i g ∧ FZ h v' := by
  have b : ∀ c, i ≤ c → bounds k c none (some (.int .i64 i)) (some (.int .i64 i)) = some (0, i, i) := fun c hc => by
    show (match (if (0 : Int) ≤ (i : Int) ∧ (i : Int) ≤ (c : Int) then some ((i : Int)).toNat else none) with
      | none => none
      | some m => match (if (0 : Int) ≤ (i : Int) ∧ (i : Int) ≤ (m : Int) then some ((i : Int)).toNat else none) with
        | none => none
        | some h => some (0, h, m)) = _
    rw [if_pos (by omega)]
    show (match (if (0 : Int) ≤ (i : Int) ∧ (i : Int) ≤ (i : Int) then some ((i : Int)).toNat else none) with
        | none => none
        | some h => some (0, h, i)) = _
    rw [if_pos (by omega)]; rfl
  rcases Z with e | ⟨id, o, cap, ex, cs, rfl, hg, ho, hx⟩
  · omega
  · have e0 : (if i = 0 then o else o + 0 * 1) = o := by split <;> omega
    have rows : RowOf h 1 (.slice id o i i true) i g := by
      cases row with
      | mk hc hgg => exact .mk hc fun j hj => hgg j (by omega)
    refine ⟨.slice id o i i true, ?_, rows, fun id' off' cap' ex' e => ?_⟩
    · cases ex with
      | true =>
        have := hx rfl
        show cut id o 1 (bounds k cap none (some (.int .i64 i)) (some (.int .i64 i))) = _
        rw [b _ (by omega)]
        simp only [cut, e0, Nat.sub_zero]
      | false =>
        show (match some ti35, ownOf h id with
          | some ie, some (cs, el) =>
            if ie.size = 0 ∨ szOf (TT gt) el ≠ ie.size ∨ cs.length < o then none else
            match bounds k ((cs.length - o) / ie.size) none (some (.int .i64 i)) (some (.int .i64 i)) with
            | some (l, hi, mm) => if (cs.length - o) / ie.size < hi then none else some (AV.slice id (if mm = l then o else o + l * ie.size) (hi - l) (mm - l) true)
            | none => none
          | _, _ => none) = _
        have hs : szOf (TT gt) 35 = 1 := rfl
        have h1 : ti35.size = 1 := rfl
        simp only [ownOf, hg, hs, h1, Nat.div_one]
        rw [if_neg (by omega), b _ (by omega)]
        simp only
        rw [if_neg (by omega), e0, Nat.sub_zero]
    · injection e with e1 e2 e3 e4
      subst e1
      subst e2
      exact ⟨cs, by unfold cellsOf; rw [hg], by omega⟩
/-- What a resolvent adds follows by units. -/
theorem res_clash {all : List (List Int)} {A B : List Int} {v : Int} (hA : A ∈ all) (hB : B ∈ all) (h1 : v ∈ A) (h2 : -v ∈ B) : Clash all (neg (resL A B v)) := by
  have tk : ∀ x, x ∈ resL A B v → Der all (neg (resL A B v)) (-x) := fun x hx => .tak (List.mem_map.2 ⟨x, hx, rfl⟩)
  have dv : Der all (neg (resL A B v)) v := .unit hA h1 fun y hy hne => tk y ((mem_ordL _ _).2 (List.mem_append_left _ (List.mem_filter.2 ⟨hy, bne_iff_ne.2 hne⟩)))
  refine .inr ⟨B, hB, fun y hy => ?_⟩
  by_cases e : y = -v
  · rw [e, Int.neg_neg]; exact dv
  · exact tk y ((mem_ordL _ _).2 (List.mem_append_right _ (List.mem_filter.2 ⟨hy, bne_iff_ne.2 e⟩)))
theorem run_made : ∀ {ls : List (Int × Int × Int)} {all s : List (List Int)}, run all ls = some s → ∃ t, s = all ++ t ∧ ∀ i, i < t.length → ∃ A B v, A ∈ all ++ t.take i ∧ B ∈ all ++ t.take i ∧ v ∈ A ∧ -v ∈ B ∧ t.getD i [] = resL A B v
  | [], all, s, h => ⟨[], by simpa [run] using h.symm, fun i hi => absurd hi (Nat.not_lt_zero _)⟩
  | x :: ls, all, s, h => by
    unfold run at h
    split at h
    · rename_i hok
      obtain ⟨t, h1, h2⟩ := run_made h
      obtain ⟨⟨a1, a2⟩, ⟨b1, b2⟩, c1, c2, c3⟩ := hok
      refine ⟨resL (all.getD x.1.toNat []) (all.getD x.2.1.toNat []) x.2.2 :: t, by rw [h1]; unfold stepR; simp, fun i hi => ?_⟩
      cases i with
      | zero => exact ⟨_, _, _, List.mem_append_left _ (getDL_mem (by omega)), List.mem_append_left _ (getDL_mem (by omega)), c2, c3, rfl⟩
      | succ i =>
        obtain ⟨A, B, v, k1, k2, k3, k4, k5⟩ := h2 i (by simpa using hi)
        have e : stepR all x ++ t.take i = all ++ (resL (all.getD x.1.toNat []) (all.getD x.2.1.toNat []) x.2.2 :: t).take (i + 1) := by unfold stepR; simp
        rw [e] at k1 k2
        exact ⟨A, B, v, k1, k2, k3, k4, k5⟩
    · cases h
theorem total_each {B : Nat} : ∀ (L : List (List Int)), (∀ l ∈ L, l.length ≤ B) → total L ≤ L.length * B
  | [], _ => by simp [total]
  | l :: L, h => by
    have h1 := total_each L (fun x hx => h x (List.mem_cons_of_mem _ hx))
    have h2 := h l (List.mem_cons_self ..)
    simp only [total, List.map_cons, List.sum_cons, List.length_cons] at *
    rw [Nat.succ_mul]; omega
theorem CnfAt.take {h : AH} {n : Int} {v v' : AV} {t : List (List Int)} {cv : Nat → AV} (D : CnfAt h n v t cv) {i : Nat} (hi : i ≤ t.length) (rows : RowOf h 1 v' i (fun i => [cv i])) : CnfAt h n v' (t.take i) cv where
  rows := by rw [List.length_take, Nat.min_eq_left hi]; exact rows
  ints := fun j hj => by
    rw [List.length_take, Nat.min_eq_left hi] at hj
    have e : (t.take i).getD j [] = t.getD j [] := by
      rw [List.getD_eq_getElem?_getD, List.getD_eq_getElem?_getD, List.getElem?_take_of_lt hj]
    rw [e]; exact D.ints j (by omega)
  lens := fun l hl => D.lens l (List.mem_of_mem_take hl)
  many := by rw [List.length_take]; have := D.many; omega
set_option maxHeartbeats 40000000 in
theorem followed_law {h : AH} (hw : WF h) {n : Int} {cl lv : AV} {L : List (List Int)} {ls : List (Int × Int × Int)} {cv : Nat → AV} (C : CnfAt h n cl L cv) (nc : NZ cl) (row : LinesAt h lv ls) (hv : ∀ x ∈ ls, x.2.2 ≤ 9223372036854775807) (hb : total L ≤ 2 ^ 60) (hm : L.length ≤ 2 ^ 29) :
    EvF (TT gt) X 10 [.agg [.int .i64 n, cl], lv] h (fun r _ => r = .bool true) := by
  have N0 : ∀ h', CnfAt h' n .nilSlice [] (fun _ => .nilSlice) := fun h' => ⟨.nil, fun i hi => absurd hi (Nat.not_lt_zero _), fun l hl => (nomatch hl), Nat.zero_le _⟩
  have wake : ∀ {h' : AH}, EvF (TT gt) X 16 [] h' (fun r h'' => h'' = h' ∧ r = .bool true) := awake_spec
  refine EvF.enter rfl rfl rfl ?_
  repeat (first | refine EvC.seq ?_ | refine EvC.region rfl ?_)
  (refine EvO.cons rfl rfl rfl (EvP.new (b := .cells [.int .i64 n, cl] 24 false) (mk := .ptr) rfl rfl hw (fun h1 b hg1 hb1 hfr => ?_)))
  have f1 := loadAgg (T := TT gt) (t := 24) (off := 0) (n := 2) (r := [.int .i64 n, cl]) hb1 rfl rfl
  repeat (first | refine EvO.plain rfl rfl rfl rfl rfl rfl ?_ | refine EvO.plain rfl rfl rfl rfl rfl (by assumption) ?_ | refine EvC.seq ?_ | refine EvC.region rfl ?_ | refine EvO.nil ?_ | refine at_normal ?_)
  (refine EvO.cons rfl rfl rfl (EvP.callF rfl rfl rfl rfl (EvF.mono (few27_spec hg1.wf (C.mono hg1.le) (N0 h1) nc trivial (by simp [total]; exact hb) (by simp; omega)) ?_)))
  rintro _ h2 hn2 ⟨⟨hl2, hw2⟩, few, rfl, hfew⟩
  have hg2 : Grew h1 h2 := ⟨hl2, hw2, hn2⟩
  have hg := hg1.trans hg2
  clear f1
  have b2 := hg2.le _ _ hb1
  have ll := RowOf.len_any (T := TT gt) (t := 40) row rfl h2
  cases few with
  | false =>
    repeat (first | refine EvO.plain rfl rfl rfl rfl rfl rfl ?_ | refine EvO.nil ?_ | refine at_normal ?_ | refine EvO.off rfl rfl rfl ?_)
    refine EvC.cond (t := true) rfl (fun _ => ?_) (fun e => nomatch e)
    repeat (first | refine EvC.seq ?_ | refine EvC.region rfl ?_)
    (refine EvO.cons rfl rfl rfl (EvP.callF rfl rfl rfl rfl (EvF.mono (wake) ?_)))
    rintro _ h3 _ ⟨rfl, rfl⟩
    repeat (first | refine EvO.plain rfl rfl rfl rfl rfl rfl ?_ | refine EvO.nil ?_ | refine at_normal ?_ | refine EvC.ret ?_ | refine at_ret ?_)
    (refine ret_is (v := .bool true) rfl rfl ?_)
    rfl
  | true =>
    repeat (first | refine EvO.plain rfl rfl rfl rfl rfl rfl ?_ | refine EvO.plainOn rfl rfl rfl rfl rfl rfl ?_ | refine EvO.plainOn rfl rfl rfl rfl rfl (by assumption) ?_)
    (refine EvO.on rfl rfl rfl (EvP.bool rfl rfl (fun q1 => ?_) (fun q1 => ?_)))
    · repeat (first | refine EvO.plain rfl rfl rfl rfl rfl rfl ?_ | refine EvO.nil ?_ | refine at_normal ?_)
      refine EvC.cond (t := true) rfl (fun _ => ?_) (fun e => nomatch e)
      repeat (first | refine EvC.seq ?_ | refine EvC.region rfl ?_)
      (refine EvO.cons rfl rfl rfl (EvP.callF rfl rfl rfl rfl (EvF.mono (wake) ?_)))
      rintro _ h3 _ ⟨rfl, rfl⟩
      repeat (first | refine EvO.plain rfl rfl rfl rfl rfl rfl ?_ | refine EvO.nil ?_ | refine at_normal ?_ | refine EvC.ret ?_ | refine at_ret ?_)
      (refine ret_is (v := .bool true) rfl rfl ?_)
      rfl
    · have q1 := of_decide_eq_false q1
      have q1 : ls.length ≤ 40 := by omega
      have f2 := loadAgg (T := TT gt) (t := 24) (off := 0) (n := 2) (r := [.int .i64 n, cl]) b2 rfl rfl
      repeat (first | refine EvO.plain rfl rfl rfl rfl rfl rfl ?_ | refine EvO.nil ?_ | refine at_normal ?_)
      refine EvC.cond (t := false) rfl (fun e => nomatch e) (fun _ => ?_)
      repeat (first | refine EvO.plain rfl rfl rfl rfl rfl rfl ?_ | refine EvO.plain rfl rfl rfl rfl rfl (by assumption) ?_ | refine EvC.seq ?_ | refine EvC.region rfl ?_ | refine at_normal ?_ | refine EvC.skip ?_)
      (refine EvO.cons rfl rfl rfl (EvP.callF rfl rfl rfl rfl (EvF.mono (Follow_spec hg.wf (C.mono hg.le) nc (RowOf.mono hg.le row) hv) ?_)))
      rintro r h3 hn3 ⟨⟨hl3, hw3⟩, hf, hz⟩
      clear f2 ll
      rcases hf with ⟨_, rfl⟩ | ⟨_, _, _, rfl⟩ | ⟨vv, _, t, v, cv', hrun, ht, hts, rfl, D⟩
      · repeat (first | refine EvO.plain rfl rfl rfl rfl rfl rfl ?_ | refine EvC.seq ?_ | refine EvC.region rfl ?_ | refine EvO.nil ?_ | refine at_normal ?_)
        refine EvC.cond (t := true) rfl (fun _ => ?_) (fun e => nomatch e)
        repeat (first | refine EvC.seq ?_ | refine EvC.region rfl ?_)
        (refine EvO.cons rfl rfl rfl (EvP.callF rfl rfl rfl rfl (EvF.mono (wake) ?_)))
        rintro _ h4 _ ⟨rfl, rfl⟩
        repeat (first | refine EvO.plain rfl rfl rfl rfl rfl rfl ?_ | refine EvO.nil ?_ | refine at_normal ?_ | refine EvC.ret ?_ | refine at_ret ?_)
        (refine ret_is (v := .bool true) rfl rfl ?_)
        rfl
      · repeat (first | refine EvO.plain rfl rfl rfl rfl rfl rfl ?_ | refine EvC.seq ?_ | refine EvC.region rfl ?_ | refine EvO.nil ?_ | refine at_normal ?_)
        refine EvC.cond (t := true) rfl (fun _ => ?_) (fun e => nomatch e)
        repeat (first | refine EvC.seq ?_ | refine EvC.region rfl ?_)
        (refine EvO.cons rfl rfl rfl (EvP.callF rfl rfl rfl rfl (EvF.mono (wake) ?_)))
        rintro _ h4 _ ⟨rfl, rfl⟩
        repeat (first | refine EvO.plain rfl rfl rfl rfl rfl rfl ?_ | refine EvO.nil ?_ | refine at_normal ?_ | refine EvC.ret ?_ | refine at_ret ?_)
        (refine ret_is (v := .bool true) rfl rfl ?_)
        rfl
      · have hz := hz v _ rfl
        rw [← ht] at hz
        have lm := D.rows.len_any (T := TT gt) (t := 22) rfl h3
        have ll := RowOf.len_any (T := TT gt) (t := 40) row rfl h3
        obtain ⟨t2, hr1, hr2⟩ := run_made hrun
        obtain rfl := List.append_cancel_left hr1
        have vv' := vv
        obtain ⟨v0, v1, v2, v3, v4⟩ := vv'
        have b3 := hl3 _ _ b2
        have hle3 : h.le h3 := AH.le.trans' hg.le hl3
        repeat (first | refine EvO.plain rfl rfl rfl rfl rfl rfl ?_ | refine EvC.seq ?_ | refine EvC.region rfl ?_ | refine EvO.nil ?_ | refine at_normal ?_)
        refine EvC.cond (t := false) rfl (fun e => nomatch e) (fun _ => ?_)
        repeat (first | refine EvO.plain rfl rfl rfl rfl rfl rfl ?_ | refine EvO.plain rfl rfl rfl rfl rfl (by assumption) ?_ | refine EvC.seq ?_ | refine EvC.region rfl ?_ | refine EvO.nil ?_ | refine at_normal ?_ | refine EvC.skip ?_)
        refine EvC.cond (t := false) (isT (bne_eq_false_iff_eq.2 (by omega))) (fun e => nomatch e) (fun _ => ?_)
        repeat (first | refine EvO.plain rfl rfl rfl rfl rfl rfl ?_ | refine EvO.plain rfl rfl rfl rfl rfl (by assumption) ?_ | refine EvC.seq ?_ | refine EvC.region rfl ?_ | refine EvO.nil ?_ | refine at_normal ?_ | refine EvC.skip ?_ | refine EvC.block ?_)
        clear lm ll
        refine EvC.loop (fun m σ h' => ∃ (i : Nat) (E : Nat → AV), h3.le h' ∧ WF h' ∧ i ≤ t.length ∧ m = t.length - i ∧ σ = upds [(2, .ptr b 0), (5, v), (34, v), (35, .int .i64 t.length), (36, .int .i64 i)] E) (t.length) ?_ ?_
        · exact ⟨0, _, fun _ _ e => e, hw3, Nat.zero_le _, rfl, hold ⟨rfl, rfl, rfl, rfl, rfl, trivial⟩⟩
        · rintro m _ h4 ⟨i, E, hl4, hw4, hi, rfl, rfl⟩
          repeat (first | refine EvO.plain rfl rfl rfl rfl rfl rfl ?_ | refine EvC.seq ?_ | refine EvC.region rfl ?_ | refine EvO.nil ?_ | refine at_normal ?_)
          refine EvC.decide rfl (fun hc => ?_) (fun hc => ?_)
          · have hlt : i < t.length := by omega
            obtain ⟨q, b1, b5⟩ := (D.rows.mono hl4).at1 (T := TT gt) (t := 22) (e := 35) rfl rfl rfl rfl (k := .i64) (i := i) (by omega) (by omega)
            rw [Int.toNat_natCast] at b5
            have f4 := loadAgg (T := TT gt) (t := 24) (off := 0) (n := 2) (r := [.int .i64 n, cl]) (hl4 _ _ b3) rfl rfl
            have hcut : Cutt h3 v t.length := by
              rcases hz with h' | h'
              · exact h'
              · subst h'
                have := row_nil D.rows
                omega
            obtain ⟨v', c1, c2, c3⟩ := cut3 (gt := gt) (i := i) hcut (by omega) D.rows (by omega)
            have hcut4 : Cutt h4 v t.length := by
              rcases hcut with h' | ⟨id, o, cap, ex, cs, h1, h2, h3, h4⟩
              · exact .inl h'
              · exact .inr ⟨id, o, cap, ex, cs, h1, hl4 _ _ h2, h3, h4⟩
            obtain ⟨v', c1, c2, c3⟩ := cut3 (gt := gt) (i := i) hcut4 (by omega) (D.rows.mono hl4) (by omega)
            have hx := hts _ (getDL_mem hlt)
            have hxl := sortK_ok hx.2 v0 hx.1
            have htot : total (t.take i) ≤ t.length * 100002 := by
              have h1 := total_each (B := 100002) t (fun l hl => by
                have h1 := hts l hl
                have := sortK_ok h1.2 v0 h1.1
                omega)
              have h2 := total_le t i
              omega
            have D4 := (D.mono hl4).take (v' := v') (by omega) c2
            repeat (first | refine EvO.plain rfl rfl rfl rfl rfl rfl ?_ | refine EvO.plain rfl rfl rfl rfl rfl (by assumption) ?_ | refine EvC.seq ?_ | refine EvC.region rfl ?_ | refine EvO.nil ?_ | refine at_normal ?_ | refine EvC.skip ?_ | refine EvC.block ?_)
            refine EvC.drawnH 0 (h4) (p := [⟨0, false, 0, 0⟩, ⟨1, false, 0, 0⟩, ⟨2, false, 0, 0⟩, ⟨3, false, 0, 0⟩, ⟨4, false, 0, 0⟩, ⟨5, false, 0, 0⟩, ⟨6, true, 0, 1⟩, ⟨7, false, 1, 1⟩, ⟨8, false, 1, 1⟩, ⟨9, false, 1, 1⟩, ⟨10, false, 1, 1⟩, ⟨11, false, 1, 1⟩]) rfl (by kernel_rfl) (by kernel_rfl) ?_
            repeat (first | refine EvH.easy1 rfl rfl rfl rfl rfl rfl rfl rfl rfl rfl ?_ | refine EvH.easy1 rfl rfl rfl rfl rfl rfl rfl rfl rfl (by assumption) ?_)
            refine EvH.act rfl rfl rfl rfl rfl rfl rfl (EvP.callF rfl rfl rfl rfl (EvF.mono (pstep_specF hw4 (C.mono (AH.le.trans' hle3 hl4)) D4 ((D.ints i hlt).mono hl4) nc c3 (by rw [List.length_take]; omega) (by omega) (by omega)) ?_))
            rintro _ h5 hn5 ⟨⟨hl5, hw5⟩, is, e, rfl, x1, x2⟩
            refine ⟨fun e => absurd e (by decide), ?_⟩
            clear b1 b5 f4 c1
            have hok : (valid n L ∧ ∀ j, j < (t.take i).length → ∀ x ∈ (t.take i).getD j [], ok n x) ∧ ∀ x ∈ t.getD i [], ok n x := ⟨⟨vv, fun j hj x hx => (hts _ (List.mem_of_mem_take (getDL_mem hj))).1 x hx⟩, hx.1⟩
            obtain ⟨A, B, v8, k1, k2, k3, k4, k5⟩ := hr2 i hlt
            obtain ⟨rfl, x3⟩ := x2 hok
            obtain rfl : is = true := x3.2 (by rw [k5]; exact res_clash k1 k2 k3 k4)
            repeat (refine EvH.easy1 rfl rfl rfl rfl rfl rfl rfl rfl rfl rfl ?_)
            repeat (first | refine EvO.plain rfl rfl rfl rfl rfl rfl ?_ | refine EvC.seq ?_ | refine EvC.region rfl ?_ | refine at_normal ?_ | refine EvH.nil ?_ | refine EvO.plainOn rfl rfl rfl rfl rfl rfl ?_)
            refine EvO.on rfl rfl rfl (EvP.quiet rfl (isB (q := false) (by simp)) ?_)
            repeat (first | refine EvO.plain rfl rfl rfl rfl rfl rfl ?_ | refine EvO.nil ?_ | refine at_normal ?_)
            refine EvC.cond (t := false) rfl (fun e => nomatch e) (fun _ => ?_)
            repeat (first | refine EvO.plain rfl rfl rfl rfl rfl rfl ?_ | refine EvC.region rfl ?_ | refine EvO.nil ?_ | refine at_normal ?_ | refine EvC.skip ?_ | refine be_normal ?_ | refine ro_normal ?_ | refine EvO.cons rfl rfl rfl (EvP.add64 rfl rfl (by omega) ?_))
            exact ⟨t.length - (i + 1), by omega, i + 1, _, AH.le.trans' hl4 hl5, hw5, by omega, rfl, hold ⟨rfl, rfl, rfl, rfl, rfl, trivial⟩⟩
          · repeat (first | refine EvC.seq ?_ | refine EvC.region rfl ?_ | refine at_normal ?_ | refine EvC.exit ?_ | refine at_exit ?_ | refine be_same rfl ?_ | refine ro_exit ?_)
            (refine EvO.cons rfl rfl rfl (EvP.callF rfl rfl rfl rfl (EvF.mono (wake) ?_)))
            rintro _ h5 _ ⟨rfl, rfl⟩
            repeat (first | refine EvO.plain rfl rfl rfl rfl rfl rfl ?_ | refine EvO.nil ?_ | refine at_normal ?_ | refine EvC.ret ?_)
            (refine ret_is (v := .bool true) rfl rfl ?_)
            rfl
end Pf
end Go.Proofs.YtfjloafebkjadaaGreatDoor
