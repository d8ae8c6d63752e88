/- What Follow answers. -/
import Derived.Test.YtfjloafebkjadaaGreatDoorPgG
import Derived.Test.YtfjloafebkjadaaGreatDoorPfJ
namespace Go.Proofs.YtfjloafebkjadaaGreatDoor
namespace Pf
open Go Go.AI Go.Proofs
variable {gt : Tree (List AV)}
theorem len_total {L : List (List Int)} {l : List Int} (h : l ∈ L) : l.length ≤ total L := by
  have hOB := List.getElem_of_mem h
  obtain ⟨i, hi, rfl⟩ := hOB
  have h1 := total_take hi
  have h2 := total_le L (i + 1)
  rw [List.getD_eq_getElem?_getD, List.getElem?_eq_getElem hi] at h1
  simp only [Option.getD_some] at h1
  omega
/-- What Follow says, the program's and the reference's. -/
def FollowSays (n : Int) (L : List (List Int)) (ls : List (Int × Int × Int)) (r : AV) (h : AH) : Prop :=
  (¬ (valid n L ∧ ls.length ≤ 200000) ∧ r = .tuple [.nilSlice, .int .i64 2]) ∨ (valid n L ∧ ls.length ≤ 200000 ∧ run L ls = none ∧ r = .tuple [.nilSlice, .int .i64 43]) ∨
  (valid n L ∧ ls.length ≤ 200000 ∧ ∃ t v cv, run L ls = some (L ++ t) ∧ t.length = ls.length ∧ (∀ c ∈ t, (∀ x ∈ c, ok n x) ∧ SortK c) ∧ r = .tuple [v, .int .i64 0] ∧ CnfAt h n v t cv)
/-- A list of rows that were made since. -/
def OwnL (k : Nat) (h : AH) (v : AV) (m : Nat) : Prop := ∃ g : Nat → AV, RowOf h 1 v m (fun i => [g i]) ∧ ∀ i, i < m → OwnR k h (g i)
set_option maxHeartbeats 40000000 in
theorem Follow_spec {h : AH} (hw : WF h) {n : Int} {cl lv : AV} {L : List (List Int)} {ls : List (Int × Int × Int)} {cv : Nat → AV} (C : CnfAt h n cl L cv) (nc : NZ cl) (row : LinesAt h lv ls) (hv : ∀ x ∈ ls, x.2.2 ≤ 9223372036854775807) :
    EvF (TT gt) X 26 [.agg [.int .i64 n, cl], lv] h (fun r h' => (h.le h' ∧ WF h') ∧ FollowSays n L ls r h' ∧ ∀ v e, r = .tuple [v, e] → (Cutt h' v ls.length ∧ OwnL h.next h' v ls.length) ∨ v = .nilSlice) := by
  have nilc : ∀ {h' : AH} {e : AV}, ∀ v e', AV.tuple [.nilSlice, e] = .tuple [v, e'] → (Cutt h' v ls.length ∧ OwnL h.next h' v ls.length) ∨ v = .nilSlice := fun {_ _} v e' he => .inr (by injection he with he; injection he with he _; exact he.symm)
  refine EvF.enter rfl rfl rfl ?_
  repeat (first | refine EvC.seq ?_ | refine EvC.region rfl ?_)
  (refine EvO.cons rfl rfl rfl (EvP.new (b := .cells [.int .i64 n, cl] 24 false) (mk := .ptr) rfl rfl hw (fun h1 b hg1 hb1 hfr => ?_)))
  have f1 := loadAgg (T := TT gt) (t := 24) (off := 0) (n := 2) (r := [.int .i64 n, cl]) hb1 rfl rfl
  repeat (first | refine EvO.plain rfl rfl rfl rfl rfl rfl ?_ | refine EvO.plain rfl rfl rfl rfl rfl (by assumption) ?_ | refine EvC.seq ?_ | refine EvC.region rfl ?_ | refine EvO.nil ?_ | refine at_normal ?_)
  (refine EvO.cons rfl rfl rfl (EvP.callF rfl rfl rfl rfl (EvF.mono (valid_spec (facts gt) hg1.wf (C.mono hg1.le)) ?_)))
  rintro _ h2 _ ⟨hg2, rfl⟩
  have hg := hg1.trans hg2
  clear f1
  by_cases vv : valid n L
  · rw [decide_eq_true vv]
    have ll := fun h' => RowOf.len_any (T := TT gt) (t := 40) row rfl h'
    have ll2 := ll h2
    have vv' := vv
    obtain ⟨v0, v1, v2, v3, v4⟩ := vv'
    repeat (first | refine EvO.plain rfl rfl rfl rfl rfl rfl ?_ | refine EvO.plainOn rfl rfl rfl rfl rfl rfl ?_ | refine EvO.plainOn rfl rfl rfl rfl rfl (by assumption) ?_)
    (refine EvO.on rfl rfl rfl (EvP.bool rfl rfl (fun q1 => ?_) (fun q1 => ?_)))
    · have q1 := of_decide_eq_true q1
      repeat (first | refine EvO.plain rfl rfl rfl rfl rfl rfl ?_ | refine EvO.nil ?_ | refine at_normal ?_)
      refine EvC.cond (t := true) rfl (fun _ => ?_) (fun e => nomatch e)
      repeat (first | refine EvO.plain rfl rfl rfl rfl rfl rfl ?_ | refine EvC.seq ?_ | refine EvC.region rfl ?_ | refine EvO.nil ?_ | refine at_normal ?_ | refine EvC.ret ?_ | refine at_ret ?_)
      (refine ret_are (vs := [.nilSlice, .int .i64 2]) rfl rfl ?_)
      exact ⟨⟨hg.le, hg.wf⟩, .inl ⟨fun e => by omega, rfl⟩, nilc⟩
    · have q1 := of_decide_eq_false q1
      have q1 : ls.length ≤ 200000 := by omega
      have b2 := hg2.le _ _ hb1
      have f2 := load1 (T := TT gt) (t := 22) (off := 1) b2 rfl rfl rfl
      repeat (first | refine EvO.plain rfl rfl rfl rfl rfl rfl ?_ | refine EvO.nil ?_ | refine at_normal ?_)
      refine EvC.cond (t := false) rfl (fun e => nomatch e) (fun _ => ?_)
      repeat (first | refine EvO.plain rfl rfl rfl rfl rfl rfl ?_ | refine EvO.plain rfl rfl rfl rfl rfl (by assumption) ?_ | refine EvC.seq ?_ | refine EvC.region rfl ?_ | refine at_normal ?_ | refine EvC.skip ?_)
      (refine EvO.cons rfl rfl rfl (EvP.callF rfl rfl rfl rfl (EvF.mono (clone_spec (HS.all hg.wf) (C.mono hg.le) nc (by omega)) ?_)))
      rintro r h3 _ ⟨col3, A3, S3, V3⟩
      clear f2 ll2
      have ll3 := ll h3
      repeat (first | refine EvO.plain rfl rfl rfl rfl rfl rfl ?_ | refine EvO.plain rfl rfl rfl rfl rfl (by assumption) ?_ | refine EvC.seq ?_ | refine EvC.region rfl ?_ | refine EvO.nil ?_ | refine at_normal ?_ | refine EvC.block ?_)
      clear ll3
      refine EvC.loop (fun m σ h' => ∃ (i : Nat) (w : AV) (cells : List AV) (col : Nat → Nat) (G : AH) (t : List (List Int)) (E : Nat → AV), HS G h' col ∧ h2.le G ∧ h.next ≤ h'.next ∧ (∀ j, L.length ≤ j → j < (L ++ t).length → ∀ a, cells[j]? = some a → OwnR h.next G a) ∧ Vec col 1 h' 35 1 w (L ++ t).length cells ∧ (∀ j, j < (L ++ t).length → ∃ a, cells[j]? = some a ∧ IntRow G a ((L ++ t).getD j [])) ∧ t.length = i ∧ (∀ c ∈ t, (∀ x ∈ c, ok n x) ∧ SortK c) ∧ run L (ls.take i) = some (L ++ t) ∧ i ≤ ls.length ∧ m = ls.length - i ∧ σ = upds [(2, .ptr b 0), (6, w), (22, lv), (23, .int .i64 ls.length), (24, .int .i64 i)] E) (ls.length) ?_ ?_
      · exact ⟨0, r, _, col3, h2, [], _, S3, fun _ _ e => e, Nat.le_trans hg.nx A3.nx, fun j h1 h2 => by rw [List.append_nil] at h2; omega, by rw [List.append_nil]; exact V3, fun j hj => by
          rw [List.append_nil] at hj ⊢
          exact ⟨cv j, by simp [hj], (C.ints j hj).mono hg.le⟩, rfl, fun c hc => (nomatch hc), by rw [List.append_nil]; rfl, Nat.zero_le _, rfl, hold ⟨rfl, rfl, rfl, rfl, rfl, trivial⟩⟩
      · clear V3 S3 A3
        rintro m _ h3 ⟨i, w, cells, col, G, t, E, S, hG, hnx, hown, V, hel, ht, hts, hrun, hi, rfl, rfl⟩
        have hle3 : h.le h3 := AH.le.trans' hg.le (AH.le.trans' hG S.le)
        have hlen : (L ++ t).length = L.length + i := by rw [List.length_append, ht]
        repeat (first | refine EvO.plain rfl rfl rfl rfl rfl rfl ?_ | refine EvC.seq ?_ | refine EvC.region rfl ?_ | refine EvO.nil ?_ | refine at_normal ?_)
        refine EvC.decide rfl (fun hc => ?_) (fun hc => ?_)
        · have hlt : i < ls.length := by omega
          have hx0 : (ls.getD i ln0).2.2 ≤ 9223372036854775807 := hv _ (by rw [List.getD_eq_getElem?_getD, List.getElem?_eq_getElem hlt]; exact List.getElem_mem hlt)
          have hOB := (RowOf.mono hle3 row).atN (T := TT gt) (t := 40) (e := 43) rfl rfl rfl rfl (k := .i64) (i := i) (by omega) (by omega)
          obtain ⟨p, b1, b3⟩ := hOB
          rw [Int.toNat_natCast] at b3
          have hbad : ∀ {h' : AH}, h.le h' → WF h' → ¬ lineOk (L ++ t) (ls.getD i ln0) → (h.le h' ∧ WF h') ∧ FollowSays n L ls (.tuple [.nilSlice, .int .i64 43]) h' ∧ ∀ v e, AV.tuple [.nilSlice, .int .i64 43] = .tuple [v, e] → (Cutt h' v ls.length ∧ OwnL h.next h' v ls.length) ∨ v = .nilSlice := fun {_} a1 a2 a3 => ⟨⟨a1, a2⟩, .inr (.inl ⟨vv, q1, run_bad hlt hrun a3, rfl⟩), nilc⟩
          have hgood := fun (h : lineOk (L ++ t) (ls.getD i ln0)) => run_next hlt hrun h
          generalize ls.getD i ln0 = x at *
          obtain ⟨xa, xb, xv⟩ := x
          repeat (first | refine EvO.plain rfl rfl rfl rfl rfl (by assumption) ?_ | refine EvC.seq ?_ | refine EvC.region rfl ?_ | refine at_normal ?_ | refine EvC.skip ?_ | refine EvC.block ?_)
          (refine EvO.cons rfl rfl rfl (EvP.newC (b := .cells [.int .i64 0, .int .i64 0, .int .i64 0] 43 false) (mk := .ptr) S 2 rfl rfl (by decide) (fun h4 id col4 A4 S4 o4 c4 _ => ?_)))
          skip
          (refine EvO.cons0 rfl rfl (EvP.storeC (v := .agg [.int .i64 xa, .int .i64 xb, .int .i64 xv]) S4 2 o4 c4 (by decide) rfl rfl rfl rfl rfl (by show 0 + 3 ≤ 3; decide) (fun h5 A5 S5 o5 _ _ => ?_)))
          have o5 : h5.t.get id = some (.cells [.int .i64 xa, .int .i64 xb, .int .i64 xv] 43 false) := o5
          have V5 := (V.step A4 S.wf (by decide)).step A5 S4.wf (by decide)
          have e0 := load1 (T := TT gt) (t := 3) (off := 0) o5 rfl rfl rfl
          have e1 := load1 (T := TT gt) (t := 3) (off := 1) o5 rfl rfl rfl
          have e2 := load1 (T := TT gt) (t := 3) (off := 2) o5 rfl rfl rfl
          have lw := V5.row.len_any (T := TT gt) (t := 22) rfl h5
          have hle5 : h.le h5 := AH.le.trans' hg.le (AH.le.trans' hG S5.le)
          clear b1 b3
          repeat (first | refine EvO.plain rfl rfl rfl rfl rfl rfl ?_ | refine EvO.plain rfl rfl rfl rfl rfl (by assumption) ?_ | refine EvC.seq ?_ | refine EvC.region rfl ?_ | refine EvO.nil ?_ | refine at_normal ?_ | refine EvO.cons rfl rfl rfl (EvP.min rfl rfl rfl rfl ?_))
          (refine EvO.cons rfl rfl rfl (EvP.bool rfl rfl (fun q2 => ?_) (fun q2 => ?_)))
          · have q2 := of_decide_eq_true q2
            repeat (first | refine EvO.plain rfl rfl rfl rfl rfl rfl ?_ | refine EvO.nil ?_ | refine at_normal ?_ | refine EvO.off rfl rfl rfl ?_)
            refine EvC.cond (t := true) rfl (fun _ => ?_) (fun e => nomatch e)
            repeat (first | refine EvO.plain rfl rfl rfl rfl rfl rfl ?_ | refine EvC.seq ?_ | refine EvC.region rfl ?_ | refine EvO.nil ?_ | refine at_normal ?_ | refine EvC.ret ?_ | refine at_ret ?_ | refine be_ret ?_ | refine ro_ret ?_)
            (refine ret_are (vs := [.nilSlice, .int .i64 43]) rfl rfl ?_)
            exact hbad hle5 S5.wf (fun e => by have := e.1.1; have := e.2.1.1; simp only at *; omega)
          · have q2 := of_decide_eq_false q2
            repeat (first | refine EvO.plain rfl rfl rfl rfl rfl rfl ?_ | refine EvO.plainOn rfl rfl rfl rfl rfl rfl ?_ | refine EvO.plainOn rfl rfl rfl rfl rfl (by assumption) ?_ | refine EvO.on rfl rfl rfl (EvP.max rfl rfl rfl rfl ?_))
            (refine EvO.on rfl rfl rfl (EvP.bool rfl rfl (fun q3 => ?_) (fun q3 => ?_)))
            · have q3 := of_decide_eq_true q3
              repeat (first | refine EvO.plain rfl rfl rfl rfl rfl rfl ?_ | refine EvO.nil ?_ | refine at_normal ?_ | refine EvO.off rfl rfl rfl ?_)
              refine EvC.cond (t := true) rfl (fun _ => ?_) (fun e => nomatch e)
              repeat (first | refine EvO.plain rfl rfl rfl rfl rfl rfl ?_ | refine EvC.seq ?_ | refine EvC.region rfl ?_ | refine EvO.nil ?_ | refine at_normal ?_ | refine EvC.ret ?_ | refine at_ret ?_ | refine be_ret ?_ | refine ro_ret ?_)
              (refine ret_are (vs := [.nilSlice, .int .i64 43]) rfl rfl ?_)
              exact hbad hle5 S5.wf (fun e => by have := e.1.2; have := e.2.1.2; simp only at *; omega)
            · have q3 := of_decide_eq_false q3
              repeat (first | refine EvO.plain rfl rfl rfl rfl rfl rfl ?_ | refine EvO.plainOn rfl rfl rfl rfl rfl rfl ?_ | refine EvO.plainOn rfl rfl rfl rfl rfl (by assumption) ?_)
              (refine EvO.on rfl rfl rfl (EvP.bool rfl rfl (fun q4 => ?_) (fun q4 => ?_)))
              · have q4 := of_decide_eq_true q4
                repeat (first | refine EvO.plain rfl rfl rfl rfl rfl rfl ?_ | refine EvO.nil ?_ | refine at_normal ?_)
                refine EvC.cond (t := true) rfl (fun _ => ?_) (fun e => nomatch e)
                repeat (first | refine EvO.plain rfl rfl rfl rfl rfl rfl ?_ | refine EvC.seq ?_ | refine EvC.region rfl ?_ | refine EvO.nil ?_ | refine at_normal ?_ | refine EvC.ret ?_ | refine at_ret ?_ | refine be_ret ?_ | refine ro_ret ?_)
                (refine ret_are (vs := [.nilSlice, .int .i64 43]) rfl rfl ?_)
                exact hbad hle5 S5.wf (fun e => by have := e.2.2.1; simp only at *; omega)
              · have q4 := of_decide_eq_false q4
                repeat (first | refine EvO.plain rfl rfl rfl rfl rfl rfl ?_ | refine EvO.nil ?_ | refine at_normal ?_)
                refine EvC.cond (t := false) rfl (fun e => nomatch e) (fun _ => ?_)
                clear lw
                have hOB := V5.at1 (T := TT gt) (t := 22) (k := .i64) (i := xa) rfl rfl rfl rfl (by omega) (by omega)
                obtain ⟨pa, ua, i1, i2, i3⟩ := hOB
                have hOB := V5.at1 (T := TT gt) (t := 22) (k := .i64) (i := xb) rfl rfl rfl rfl (by omega) (by omega)
                obtain ⟨pb, ub, j1, j2, j3⟩ := hOB
                have hOB := hel xa.toNat (by omega)
                obtain ⟨a', k1, ra⟩ := hOB
                have hOB := hel xb.toNat (by omega)
                obtain ⟨b', k2, rb⟩ := hOB
                rw [k1] at i3
                rw [k2] at j3
                cases i3
                cases j3
                have okall : ∀ c ∈ L ++ t, (∀ x ∈ c, ok n x) ∧ c.length ≤ 2 ^ 36 := fun c hc => by
                  have hOB := List.mem_append.1 hc
                  rcases hOB with h' | h'
                  · have := len_total h'
                    exact ⟨lits_ok v4 c h', by omega⟩
                  · have h1 := (hts c h').1
                    have := sortK_ok (hts c h').2 v0 h1
                    exact ⟨h1, by omega⟩
                have oa := okall _ (getDL_mem (L := L ++ t) (j := xa.toNat) (by omega))
                have ob := okall _ (getDL_mem (L := L ++ t) (j := xb.toNat) (by omega))
                repeat (first | refine EvC.seq ?_ | refine at_normal ?_ | refine EvC.skip ?_)
                refine EvC.drawnH 0 (h5) (p := [⟨0, false, 0, 0⟩, ⟨1, false, 0, 0⟩, ⟨2, false, 0, 0⟩, ⟨3, false, 0, 0⟩, ⟨4, false, 0, 0⟩, ⟨5, false, 0, 0⟩, ⟨6, false, 0, 0⟩, ⟨7, false, 0, 0⟩, ⟨8, false, 0, 0⟩, ⟨9, false, 0, 0⟩, ⟨10, false, 0, 0⟩, ⟨11, false, 0, 0⟩, ⟨12, true, 0, 1⟩, ⟨13, false, 1, 1⟩, ⟨14, false, 1, 1⟩, ⟨15, false, 1, 1⟩, ⟨16, false, 1, 1⟩, ⟨17, false, 1, 1⟩]) rfl (by kernel_rfl) (by kernel_rfl) ?_
                repeat (first | refine EvH.easy1 rfl rfl rfl rfl rfl rfl rfl rfl rfl rfl ?_ | refine EvH.easy1 rfl rfl rfl rfl rfl rfl rfl rfl rfl (by assumption) ?_)
                refine EvH.act rfl rfl rfl rfl rfl rfl rfl (EvP.callF rfl rfl rfl rfl (EvF.mono (resolve_spec S5 ra rb oa.2 ob.2 (fun x hx => by have := oa.1 x hx; unfold ok at this; omega) (fun x hx => by have := ob.1 x hx; unfold ok at this; omega) xv (by simp only at hx0; omega)) ?_))
                rintro r h6 _ ⟨A6, G6, S6, hG6, hr⟩
                refine ⟨fun e => absurd e (by decide), ?_⟩
                clear i1 i2 j1 j2 e0 e1 e2
                rcases hr with ⟨hin, w', rfl, rw6, nz, ow6⟩ | ⟨hin, rfl⟩
                · repeat (refine EvH.easy1 rfl rfl rfl rfl rfl rfl rfl rfl rfl rfl ?_)
                  repeat (first | refine EvO.plain rfl rfl rfl rfl rfl rfl ?_ | refine EvC.seq ?_ | refine EvC.region rfl ?_ | refine EvO.nil ?_ | refine at_normal ?_ | refine EvH.nil ?_)
                  refine EvC.cond (t := false) rfl (fun e => nomatch e) (fun _ => ?_)
                  have hok : lineOk (L ++ t) (xa, xb, xv) := ⟨⟨by show 0 ≤ xa; omega, by show xa < _; omega⟩, ⟨by show 0 ≤ xb; omega, by show xb < _; omega⟩, by show 1 ≤ xv; omega, hin⟩
                  have hrun2 := hgood hok
                  have sc := RowOf.sc rw6
                  repeat (first | refine EvO.plain rfl rfl rfl rfl rfl rfl ?_ | refine EvC.region rfl ?_ | refine at_normal ?_ | refine EvC.skip ?_)
                  (refine EvO.cons rfl rfl rfl (EvP.newR (b := .cells [w'] 35 false) (mk := .slice 1 1 true) S6 rfl (show abuildSlice (TT gt) 22 1 [(0, w')] = _ from build1 rfl rfl rfl rfl sc) (fun h7 id7 A7 S7 hle7 o7 _ _ => ?_)))
                  have V7 := (V5.step A6 S5.wf (fun e => e)).step A7 S6.wf (fun e => e)
                  (refine EvO.cons rfl rfl rfl (EvP.appendC S7 V7 (by decide) rfl rfl rfl rfl rfl rfl rfl rfl rfl (by decide) rfl rfl (afirst_all o7 rfl) rfl (by decide) (by simp [sc.2]) (by show ((L ++ t).length + 1) * 24 ≤ 70368744177664; omega) (by show (L ++ t).length + 1 ≤ 1099511627776; omega) (fun w8 h8 col8 A8 S8 V8 => ?_)))
                  repeat (first | refine EvO.plain rfl rfl rfl rfl rfl rfl ?_ | refine EvC.region rfl ?_ | refine EvO.nil ?_ | refine at_normal ?_ | refine be_normal ?_ | refine ro_normal ?_ | refine EvO.cons rfl rfl rfl (EvP.add64 rfl rfl (by omega) ?_))
                  have hcl : cells.length = (L ++ t).length := by have := V.count; omega
                  have hst : stepR (L ++ t) (xa, xb, xv) = L ++ (t ++ [resL ((L ++ t).getD xa.toNat []) ((L ++ t).getD xb.toNat []) xv]) := by unfold stepR; rw [List.append_assoc]
                  rw [hst] at hrun2
                  generalize hR : resL ((L ++ t).getD xa.toNat []) ((L ++ t).getD xb.toNat []) xv = R at *
                  have hRok : (∀ x ∈ R, ok n x) ∧ SortK R := by
                    rw [← hR]
                    refine ⟨fun x hx => ?_, sortK_resL _ _ _⟩
                    have hx := (mem_ordL _ _).1 hx
                    have hOB := List.mem_append.1 hx
                    rcases hOB with h' | h'
                    · exact oa.1 x (List.mem_filter.1 h').1
                    · exact ob.1 x (List.mem_filter.1 h').1
                  refine ⟨ls.length - (i + 1), by omega, i + 1, w8, cells ++ [w'], col8, G6, t ++ [R], _, S8.down hle7, AH.le.trans' hG hG6, Nat.le_trans hnx (Nat.le_trans A4.nx (Nat.le_trans A5.nx (Nat.le_trans A6.nx (Nat.le_trans A7.nx A8.nx)))), fun j hj1 hj a ha => ?_, ?_, fun j hj => ?_, by simp [ht], fun c hc => ?_, hrun2, by omega, rfl, hold ⟨rfl, rfl, rfl, rfl, rfl, trivial⟩⟩
                  · rw [← List.append_assoc, List.length_append] at hj
                    have hOB := Nat.lt_or_ge j (L ++ t).length
                    rcases hOB with h' | h'
                    · rw [List.getElem?_append_left (by omega)] at ha
                      exact (hown j hj1 h' a ha).mono (Nat.le_refl _) hG6
                    · have : j = (L ++ t).length := by simp at hj h' ⊢; omega
                      subst this
                      rw [List.getElem?_append_right (by omega), hcl] at ha
                      have hOB : w' = a := by simpa using ha
                      obtain rfl := hOB
                      exact ow6.mono (Nat.le_trans hnx (Nat.le_trans A4.nx A5.nx)) (fun _ _ e => e)
                  · have : (L ++ (t ++ [R])).length = (L ++ t).length + 1 := by simp; omega
                    rw [this]; exact V8
                  · rw [← List.append_assoc] at hj ⊢
                    rw [List.length_append] at hj
                    rw [List.getD_eq_getElem?_getD]
                    have hOB := Nat.lt_or_ge j (L ++ t).length
                    rcases hOB with h' | h'
                    · rw [List.getElem?_append_left (by omega), List.getElem?_append_left h', ← List.getD_eq_getElem?_getD]
                      have hOB := hel j h'
                      obtain ⟨a, k1, k2⟩ := hOB
                      exact ⟨a, k1, k2.mono hG6⟩
                    · have : j = (L ++ t).length := by simp at hj h' ⊢; omega
                      subst this
                      rw [List.getElem?_append_right (by omega), List.getElem?_append_right (Nat.le_refl _), hcl]
                      exact ⟨w', by simp, by simpa using rw6⟩
                  · have hOB := List.mem_append.1 hc
                    rcases hOB with h' | h'
                    · exact hts c h'
                    · rw [List.mem_singleton.1 h']; exact hRok
                · repeat (refine EvH.easy1 rfl rfl rfl rfl rfl rfl rfl rfl rfl rfl ?_)
                  repeat (first | refine EvO.plain rfl rfl rfl rfl rfl rfl ?_ | refine EvC.seq ?_ | refine EvC.region rfl ?_ | refine EvO.nil ?_ | refine at_normal ?_ | refine EvH.nil ?_)
                  refine EvC.cond (t := true) rfl (fun _ => ?_) (fun e => nomatch e)
                  repeat (first | refine EvO.plain rfl rfl rfl rfl rfl rfl ?_ | refine EvC.seq ?_ | refine EvC.region rfl ?_ | refine EvO.nil ?_ | refine at_normal ?_ | refine EvC.ret ?_ | refine at_ret ?_ | refine be_ret ?_ | refine ro_ret ?_)
                  (refine ret_are (vs := [.nilSlice, .int .i64 43]) rfl rfl ?_)
                  exact hbad (AH.le.trans' hg.le (AH.le.trans' hG (AH.le.trans' hG6 S6.le))) S6.wf (fun e => hin e.2.2.2)
        · have hOB : i = ls.length := by omega
          obtain rfl := hOB
          have b3 := S.le _ _ (hG _ _ b2)
          have f3 := load1 (T := TT gt) (t := 22) (off := 1) b3 rfl rfl rfl
          have lc := (C.rows.mono hle3).len_any (T := TT gt) (t := 22) rfl h3
          have hOB := cut_tail (gt := gt) V (l := L.length) (by omega)
          obtain ⟨v', s1, s2, s3⟩ := hOB
          have hsub : (L ++ t).length - L.length = t.length := by omega
          rw [hsub] at s2 s3
          rw [List.take_length] at hrun
          repeat (first | refine EvO.plain rfl rfl rfl rfl rfl rfl ?_ | refine EvO.plain rfl rfl rfl rfl rfl (by assumption) ?_ | refine EvC.seq ?_ | refine EvC.region rfl ?_ | refine EvO.nil ?_ | refine at_normal ?_ | refine EvC.ret ?_ | refine EvC.exit ?_ | refine at_exit ?_ | refine be_same rfl ?_ | refine ro_exit ?_)
          (refine ret_are (vs := [v', .int .i64 0]) rfl rfl ?_)
          refine ⟨⟨hle3, S.wf⟩, .inr (.inr ⟨vv, q1, t, v', fun i => cells.getD (L.length + i) .undef, hrun, ht, hts, rfl, ⟨s2, fun j hj => ?_, fun c hc => ?_, by omega⟩⟩), fun v e he => ?_⟩
          · have hOB := hel (L.length + j) (by omega)
            obtain ⟨a, k1, k2⟩ := hOB
            have e1 : cells.getD (L.length + j) .undef = a := by rw [List.getD_eq_getElem?_getD, k1]; rfl
            have e2 : (L ++ t).getD (L.length + j) [] = t.getD j [] := by
              rw [List.getD_eq_getElem?_getD, List.getD_eq_getElem?_getD, List.getElem?_append_right (by omega)]
              congr 2; omega
            show IntRow h3 (cells.getD (L.length + j) .undef) (t.getD j [])
            rw [e1, ← e2]
            exact k2.mono S.le
          · have := sortK_ok (hts c hc).2 v0 (hts c hc).1
            omega
          · injection he with he
            injection he with he _
            rw [← he, ← ht]
            refine .inl ⟨s3, fun i => cells.getD (L.length + i) .undef, s2, fun j hj => ?_⟩
            have hOB := hel (L.length + j) (by omega)
            obtain ⟨a, k1, k2⟩ := hOB
            have e1 : cells.getD (L.length + j) .undef = a := by rw [List.getD_eq_getElem?_getD, k1]; rfl
            show OwnR h.next h3 (cells.getD (L.length + j) .undef)
            rw [e1]
            exact (hown (L.length + j) (by omega) (by omega) a k1).mono (Nat.le_refl _) S.le
  · rw [decide_eq_false vv]
    repeat (first | refine EvO.plain rfl rfl rfl rfl rfl rfl ?_ | refine EvO.nil ?_ | refine at_normal ?_ | refine EvO.off rfl rfl rfl ?_)
    refine EvC.cond (t := true) rfl (fun _ => ?_) (fun e => nomatch e)
    repeat (first | refine EvO.plain rfl rfl rfl rfl rfl rfl ?_ | refine EvC.seq ?_ | refine EvC.region rfl ?_ | refine EvO.nil ?_ | refine at_normal ?_ | refine EvC.ret ?_ | refine at_ret ?_)
    (refine ret_are (vs := [.nilSlice, .int .i64 2]) rfl rfl ?_)
    exact ⟨⟨hg.le, hg.wf⟩, .inl ⟨fun e => vv e.1, rfl⟩, nilc⟩
end Pf
end Go.Proofs.YtfjloafebkjadaaGreatDoor
