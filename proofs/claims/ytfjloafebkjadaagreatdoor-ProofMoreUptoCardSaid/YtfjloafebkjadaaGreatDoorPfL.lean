/- Lists laid end to end; what Step answers. -/
import Derived.Test.YtfjloafebkjadaaGreatDoorPfJ
namespace Go.Proofs.YtfjloafebkjadaaGreatDoor
namespace Pf
open Go Go.AI Go.Proofs
variable {gt : Tree (List AV)}
theorem EvP_appendZ {T : Tab} {X : Oracle} {σ : Nat → AV} {h G : AH} {col : Nat → Nat} {cl : Call} {s y : Operand} {ts : List TypeId} {c e : Nat} {k : Int} {t xt : TypeId} {q : IntKind} {ei : TInfo} {Q : AV → AH → Prop} (S : HS G h col) (c0 : c ≠ 0) (hcl : cl.callee = .builtin .append) (hts : cl.argTypes.toList = t :: xt :: ts) (hargs : cl.args.toList = [s, y]) (hv : evf σ s = .nilSlice) (hy : evf σ y = .int .i64 k)
    (ht : descOf T t = .slice e) (hxt : descOf T xt = .int q) (hei : T.tt.get e = some ei) (hsz : ei.size = 1) (hz : ei.zero.length = 1) (hk : 0 < k) (hq : k ≤ 2 ^ 40) (hb : k.toNat * ei.bytes ≤ maxBytes)
    (H : ∀ h1 id col1, Step (fun x => x = c) col h col1 h1 → HS G h1 col1 → Vec col1 c h1 e 1 (.slice id 0 k.toNat 0 false) k.toNat (rep k.toNat ei.zero) → Q (.slice id 0 k.toNat 0 false) h1) : EvP T X (.call cl) σ h Q := by
  have A := new_step S.wf S.fresh (.cells (rep k.toNat ei.zero) e false) c
  refine EvP.eff (v := .slice h.next 0 k.toNat 0 false) (h' := (h.new (.cells (rep k.toNat ei.zero) e false)).2) (by simp only [kindOf, hcl]) ?_ A.nx (H _ _ _ A (S.step A (fun e => c0 e.symm)) ?_)
  · simp only [feff, hcl, hts, hargs, hv, hy, aappend, ht, hxt, appendZ, hei]
    rw [if_pos ⟨hk, hq, hb, by omega, by omega⟩]; rfl
  · exact .mk (tail := []) (by rw [List.append_nil]; exact get_new ..) (recol_same ..) (by rw [rep_length, hz]) (fun e => by cases e)
theorem Vec_cut0 {col : Nat → Nat} {c : Nat} {h : AH} {m : Nat} {v : AV} {cs : List AV} (V : Vec col c h 35 1 v m cs) : ∃ v', aslice (TT gt) h 22 v none (some (.int .i64 0)) none = some v' ∧ Vec col c h 35 1 v' 0 [] := by
  have b0 : ∀ len cap : Nat, bounds len cap none (some (.int .i64 0)) none = some (0, 0, cap) := fun len cap => by
    simp [bounds, optBound, bound]
  cases V with
  | nil => exact ⟨.nilSlice, rfl, .nil⟩
  | @mk id _ cap ex _ tail hg hc hn hx =>
    cases ex with
    | true =>
      refine ⟨.slice id 0 0 cap true, ?_, .mk (cs := []) (tail := cs ++ tail) hg hc (by simp) (fun e => ⟨Nat.zero_le _, (hx rfl).2⟩)⟩
      show cut id 0 1 (bounds m cap none (some (.int .i64 0)) none) = _
      rw [b0]
      simp [cut]
    | false =>
      refine ⟨.slice id 0 0 0 false, ?_, .mk (cs := []) (tail := cs ++ tail) hg hc (by simp) (fun e => by cases e)⟩
      show (match some ti35, ownOf h id with
        | some ie, some (cs, el) =>
          if ie.size = 0 ∨ szOf (TT gt) el ≠ ie.size ∨ cs.length < 0 then none else
          match bounds m ((cs.length - 0) / ie.size) none (some (.int .i64 0)) none with
          | some (l, hi, mm) => if (cs.length - 0) / ie.size < hi then none else if l = (cs.length - 0) / ie.size ∧ 0 < l then some AV.eslice else some (AV.slice id (0 + l * ie.size) (hi - l) 0 false)
          | none => none
        | _, _ => none) = _
      have hs : szOf (TT gt) 35 = 1 := rfl
      have h1 : ti35.size = 1 := rfl
      simp only [ownOf, hg, hs, h1, b0]
      simp
theorem grow_spec {h G : AH} {col : Nat → Nat} (S : HS G h col) (n : Nat) (hn : n ≤ 2 ^ 30) :
    EvF (TT gt) X 88 [.nilSlice, .int .i64 n] h (fun r h' => ∃ col', Step (fun x => x = 1) col h col' h' ∧ HS G h' col' ∧ Vec col' 1 h' 35 1 r 0 []) := by
  refine EvF.enter rfl rfl rfl ?_
  repeat (first | refine EvO.plain rfl rfl rfl rfl rfl rfl ?_ | refine EvC.seq ?_ | refine EvC.region rfl ?_ | refine EvO.nil ?_ | refine at_normal ?_)
  refine EvC.cond (t := false) (isT (decide_eq_false (by omega))) (fun e => nomatch e) (fun _ => ?_)
  repeat (first | refine EvO.plain rfl rfl rfl rfl rfl rfl ?_ | refine EvC.seq ?_ | refine EvC.region rfl ?_ | refine EvO.nil ?_ | refine at_normal ?_ | refine EvC.skip ?_ | refine EvO.cons rfl rfl rfl (EvP.sub64 rfl rfl (by omega) ?_))
  by_cases h0 : n = 0
  · refine EvC.cond (t := false) (isT (decide_eq_false (by omega))) (fun e => nomatch e) (fun _ => ?_)
    repeat (first | refine EvO.plain rfl rfl rfl rfl rfl rfl ?_ | refine EvC.seq ?_ | refine EvC.region rfl ?_ | refine EvO.nil ?_ | refine at_normal ?_ | refine EvC.skip ?_ | refine EvC.ret ?_)
    (refine ret_is (v := .nilSlice) rfl rfl ?_)
    exact ⟨col, Step.refl S, S, .nil⟩
  · refine EvC.cond (t := true) (isT (decide_eq_true (by omega))) (fun _ => ?_) (fun e => nomatch e)
    repeat (first | refine EvO.plain rfl rfl rfl rfl rfl rfl ?_ | refine EvC.region rfl ?_)
    refine EvO.cons rfl rfl rfl (EvP_appendZ S (c := 1) (by decide) rfl rfl rfl rfl rfl rfl rfl rfl rfl rfl (by omega) (by omega) (by show (_ : Nat) * 24 ≤ 70368744177664; omega) (fun h1 id col1 A1 S1 V1 => ?_))
    obtain ⟨w, k1, k2⟩ := Vec_cut0 (gt := gt) V1
    repeat (first | refine EvO.plain rfl rfl rfl rfl rfl rfl ?_ | refine EvO.plain rfl rfl rfl rfl rfl (by assumption) ?_ | refine EvC.seq ?_ | refine EvC.region rfl ?_ | refine EvO.nil ?_ | refine at_normal ?_ | refine EvC.ret ?_)
    (refine ret_is (v := w) rfl rfl ?_)
    exact ⟨col1, A1, S1, k2⟩
def szI (a b i : Nat) : Nat := (if i = 0 then 0 else a) + (if i = 2 then b else 0)
theorem concat_spec {h : AH} (hw : WF h) {n : Int} {cl pv sv : AV} {L P : List (List Int)} {cv pc : Nat → AV} (C : CnfAt h n cl L cv) (D : CnfAt h n pv P pc) (nc : NZ cl) (np : NZ pv) (row : RowOf h 1 sv 2 (fun i => [if i = 0 then cl else pv])) (hm : L.length + P.length ≤ 2 ^ 29) :
    EvF (TT gt) X 56 [sv] h (fun r h' => ∃ col', Step (fun x => x = 1) (fun _ => 0) h col' h' ∧ Vec col' 1 h' 35 1 r (L ++ P).length ((List.range L.length).map cv ++ (List.range P.length).map pc)) := by
  have S0 := HS.all hw
  have ln := fun h' => row.len_any (T := TT gt) (t := 139) rfl h'
  have lc := fun h' => C.rows.len_any (T := TT gt) (t := 22) rfl h'
  have lp := fun h' => D.rows.len_any (T := TT gt) (t := 22) rfl h'
  have ln0 := ln h
  refine EvF.enter rfl rfl rfl ?_
  repeat (first | refine EvO.plain rfl rfl rfl rfl rfl rfl ?_ | refine EvO.plain rfl rfl rfl rfl rfl (by assumption) ?_ | refine EvC.seq ?_ | refine EvC.region rfl ?_ | refine EvO.nil ?_ | refine at_normal ?_ | refine EvC.block ?_)
  refine EvC.loop (fun m σ h' => h' = h ∧ ∃ (i : Nat) (E : Nat → AV), i ≤ 2 ∧ m = 2 - i ∧ σ = upds [(0, sv), (3, .int .i64 (szI L.length P.length i)), (9, sv), (10, .int .i64 2), (11, .int .i64 i)] E) (2) ?_ ?_
  · exact ⟨rfl, 0, _, by omega, rfl, hold ⟨rfl, rfl, rfl, rfl, rfl, trivial⟩⟩
  · rintro m _ h ⟨rfl, i, E, hi, rfl, rfl⟩
    repeat (first | refine EvO.plain rfl rfl rfl rfl rfl rfl ?_ | refine EvC.seq ?_ | refine EvC.region rfl ?_ | refine EvO.nil ?_ | refine at_normal ?_)
    refine EvC.decide rfl (fun hc => ?_) (fun hc => ?_)
    · have cs : i = 0 ∨ i = 1 := by omega
      obtain ⟨q, b1, b2⟩ := row.at1 (T := TT gt) (t := 139) (e := 22) rfl rfl rfl rfl (k := .i64) (i := i) (by omega) (by omega)
      rw [Int.toNat_natCast] at b2
      have lc0 := lc h
      have lp0 := lp h
      have s0 : szI L.length P.length 0 = 0 := rfl
      have s1 : szI L.length P.length 1 = L.length := by simp [szI]
      have s2 : szI L.length P.length 2 = L.length + P.length := by simp [szI]
      rcases cs with rfl | rfl
      · simp only [if_true] at b2
        repeat (first | refine EvO.plain rfl rfl rfl rfl rfl rfl ?_ | refine EvO.plain rfl rfl rfl rfl rfl (by assumption) ?_ | refine EvC.seq ?_ | refine EvC.region rfl ?_ | refine EvO.nil ?_ | refine at_normal ?_ | refine EvC.skip ?_ | refine EvC.block ?_ | refine EvO.cons rfl rfl rfl (EvP.add64 rfl rfl (by omega) ?_))
        refine EvC.cond (t := false) (isT (decide_eq_false (by omega))) (fun e => nomatch e) (fun _ => ?_)
        repeat (first | refine EvO.plain rfl rfl rfl rfl rfl rfl ?_ | refine EvC.region rfl ?_ | refine EvO.nil ?_ | refine at_normal ?_ | refine EvC.skip ?_ | refine be_normal ?_ | refine ro_normal ?_ | refine EvO.cons rfl rfl rfl (EvP.add64 rfl rfl (by omega) ?_))
        refine ⟨1, by omega, rfl, 1, _, by omega, rfl, hold ⟨rfl, congrArg (AV.int .i64) ?_, rfl, rfl, rfl, trivial⟩⟩
        rw [s0, s1]; simp
      · simp only [Nat.one_ne_zero, if_false] at b2
        repeat (first | refine EvO.plain rfl rfl rfl rfl rfl rfl ?_ | refine EvO.plain rfl rfl rfl rfl rfl (by assumption) ?_ | refine EvC.seq ?_ | refine EvC.region rfl ?_ | refine EvO.nil ?_ | refine at_normal ?_ | refine EvC.skip ?_ | refine EvC.block ?_ | refine EvO.cons rfl rfl rfl (EvP.add64 rfl rfl (by omega) ?_))
        refine EvC.cond (t := false) (isT (decide_eq_false (by omega))) (fun e => nomatch e) (fun _ => ?_)
        repeat (first | refine EvO.plain rfl rfl rfl rfl rfl rfl ?_ | refine EvC.region rfl ?_ | refine EvO.nil ?_ | refine at_normal ?_ | refine EvC.skip ?_ | refine be_normal ?_ | refine ro_normal ?_ | refine EvO.cons rfl rfl rfl (EvP.add64 rfl rfl (by omega) ?_))
        refine ⟨0, by omega, rfl, 2, _, by omega, rfl, hold ⟨rfl, congrArg (AV.int .i64) ?_, rfl, rfl, rfl, trivial⟩⟩
        rw [s1, s2]; simp
    · have hend : i = 2 := by omega
      subst hend
      have s2 : szI L.length P.length 2 = L.length + P.length := by simp [szI]
      repeat (first | refine EvO.plain rfl rfl rfl rfl rfl rfl ?_ | refine EvC.seq ?_ | refine EvC.region rfl ?_ | refine at_normal ?_ | refine EvC.exit ?_ | refine at_exit ?_ | refine be_same rfl ?_ | refine ro_exit ?_)
      (refine EvO.cons rfl rfl rfl (EvP.callF rfl rfl rfl rfl (EvF.mono (grow_spec S0 (szI L.length P.length 2) (by omega)) ?_)))
      rintro r h2 _ ⟨col2, A2, S2, V2⟩
      have ln2 := ln h2
      repeat (first | refine EvO.plain rfl rfl rfl rfl rfl rfl ?_ | refine EvO.plain rfl rfl rfl rfl rfl (by assumption) ?_ | refine EvC.seq ?_ | refine EvC.region rfl ?_ | refine EvO.nil ?_ | refine at_normal ?_ | refine EvC.block ?_)
      clear ln2 ln0
      refine EvC.loop (fun m σ h' => ∃ (i : Nat) (w : AV) (col' : Nat → Nat) (E : Nat → AV), Step (fun x => x = 1) (fun _ => 0) h col' h' ∧ HS h h' col' ∧ Vec col' 1 h' 35 1 w (szI L.length P.length i) ((if i = 0 then [] else (List.range L.length).map cv) ++ (if i = 2 then (List.range P.length).map pc else [])) ∧ i ≤ 2 ∧ m = 2 - i ∧ σ = upds [(6, w), (25, sv), (26, .int .i64 2), (27, .int .i64 i)] E) (2) ?_ ?_
      · exact ⟨0, r, col2, _, A2, S2, V2, by omega, rfl, hold ⟨rfl, rfl, rfl, rfl, trivial⟩⟩
      · clear A2 S2 V2
        rintro m _ h3 ⟨i, w, col3, E, A3, S3, V3, hi, rfl, rfl⟩
        repeat (first | refine EvO.plain rfl rfl rfl rfl rfl rfl ?_ | refine EvC.seq ?_ | refine EvC.region rfl ?_ | refine EvO.nil ?_ | refine at_normal ?_)
        refine EvC.decide rfl (fun hc => ?_) (fun hc => ?_)
        · have cs : i = 0 ∨ i = 1 := by omega
          obtain ⟨q, b1, b2⟩ := (row.mono S3.le).at1 (T := TT gt) (t := 139) (e := 22) rfl rfl rfl rfl (k := .i64) (i := i) (by omega) (by omega)
          rw [Int.toNat_natCast] at b2
          have s0 : szI L.length P.length 0 = 0 := rfl
          have s1 : szI L.length P.length 1 = L.length := by simp [szI]
          rcases cs with rfl | rfl
          · simp only [if_true] at b2
            rw [s0] at V3
            repeat (first | refine EvO.plain rfl rfl rfl rfl rfl rfl ?_ | refine EvO.plain rfl rfl rfl rfl rfl (by assumption) ?_ | refine EvC.seq ?_ | refine EvC.region rfl ?_ | refine EvO.nil ?_ | refine at_normal ?_ | refine EvC.skip ?_ | refine EvC.block ?_)
            (refine EvO.cons rfl rfl rfl (EvP.appendRow S3 V3 (by decide) (C.rows.mono S3.le) nc (fun i hi => (C.ints i hi).sc.2) rfl rfl rfl rfl rfl rfl rfl rfl rfl rfl (by show (0 + L.length) * 24 ≤ 70368744177664; omega) (by omega) (fun v4 h4 col4 A4 S4 V4 => ?_)))
            clear b1 b2
            repeat (first | refine EvO.plain rfl rfl rfl rfl rfl rfl ?_ | refine EvC.region rfl ?_ | refine EvO.nil ?_ | refine at_normal ?_ | refine be_normal ?_ | refine ro_normal ?_ | refine EvO.cons rfl rfl rfl (EvP.add64 rfl rfl (by omega) ?_))
            refine ⟨1, by omega, 1, v4, col4, _, A3.trans A4, S4, ?_, by omega, rfl, hold ⟨rfl, rfl, rfl, rfl, trivial⟩⟩
            rw [s1]
            simpa using V4
          · simp only [Nat.one_ne_zero, if_false] at b2
            rw [s1] at V3
            repeat (first | refine EvO.plain rfl rfl rfl rfl rfl rfl ?_ | refine EvO.plain rfl rfl rfl rfl rfl (by assumption) ?_ | refine EvC.seq ?_ | refine EvC.region rfl ?_ | refine EvO.nil ?_ | refine at_normal ?_ | refine EvC.skip ?_ | refine EvC.block ?_)
            (refine EvO.cons rfl rfl rfl (EvP.appendRow S3 V3 (by decide) (D.rows.mono S3.le) np (fun i hi => (D.ints i hi).sc.2) rfl rfl rfl rfl rfl rfl rfl rfl rfl rfl (by show (L.length + P.length) * 24 ≤ 70368744177664; omega) (by omega) (fun v4 h4 col4 A4 S4 V4 => ?_)))
            clear b1 b2
            repeat (first | refine EvO.plain rfl rfl rfl rfl rfl rfl ?_ | refine EvC.region rfl ?_ | refine EvO.nil ?_ | refine at_normal ?_ | refine be_normal ?_ | refine ro_normal ?_ | refine EvO.cons rfl rfl rfl (EvP.add64 rfl rfl (by omega) ?_))
            refine ⟨0, by omega, 2, v4, col4, _, A3.trans A4, S4, ?_, by omega, rfl, hold ⟨rfl, rfl, rfl, rfl, trivial⟩⟩
            rw [s2]
            simpa using V4
        · have hend : i = 2 := by omega
          subst hend
          rw [s2] at V3
          repeat (first | refine EvO.plain rfl rfl rfl rfl rfl rfl ?_ | refine EvC.seq ?_ | refine EvC.region rfl ?_ | refine EvO.nil ?_ | refine at_normal ?_ | refine EvC.ret ?_ | refine EvC.exit ?_ | refine at_exit ?_ | refine be_same rfl ?_ | refine ro_exit ?_)
          (refine ret_is (v := w) rfl rfl ?_)
          refine ⟨col3, A3, ?_⟩
          rw [List.length_append]
          simpa using V3
end Pf
end Go.Proofs.YtfjloafebkjadaaGreatDoor
namespace Go.Proofs.YtfjloafebkjadaaGreatDoor
namespace Pf
open Go Go.AI Go.Proofs
variable {gt : Tree (List AV)}
theorem build2 {a b : AV} (ha : a.cells = [a] ∧ scalar a = true) (hb : b.cells = [b] ∧ scalar b = true) : abuildSlice (TT gt) 139 2 [(0, a), (1, b)] = some (.cells [a, b] 22 false, .slice 2 2 true) := by
  show (if 2 * ti22.size ≤ 2 ^ 24 ∧ ti22.zero.length = ti22.size then (match afill (fun i => some (i * ti22.size, ti22.size)) (rep 2 ti22.zero) [(0, a), (1, b)] with
    | some cs => some (AObj.cells cs 22 false, Mk.slice 2 2 true)
    | none => none) else none) = _
  have h1 : ti22.size = 1 := rfl
  have h2 : ti22.zero = [.nilSlice] := rfl
  simp [h1, h2, rep, afill, ha.1, hb.1, scalar_known ha.2, scalar_known hb.2, lsetMany, lset]
theorem total_append (L P : List (List Int)) : total (L ++ P) = total L + total P := by simp [total]
theorem pstep_spec {h : AH} (hw : WF h) {n : Int} {cl pv lv : AV} {L P : List (List Int)} {l : List Int} {cv pc : Nat → AV} (C : CnfAt h n cl L cv) (D : CnfAt h n pv P pc) (row : IntRow h lv l) (nc : NZ cl) (np : NZ pv) (hm : P.length ≤ 200000) (hl : l.length ≤ 2 ^ 30) (hb : total P ≤ 2 ^ 30) :
    EvF (TT gt) X 36 [.agg [.int .i64 n, cl], pv, lv] h (fun r h' => (h.le h' ∧ WF h') ∧ StepSays n L P l r) := by
  refine EvF.enter rfl rfl rfl ?_
  repeat (first | refine EvC.seq ?_ | refine EvC.region rfl ?_)
  (refine EvO.cons rfl rfl rfl (EvP.new (b := .cells [.int .i64 n, cl] 24 false) (mk := .ptr) rfl rfl hw (fun h1 b hg1 hb1 hfr => ?_)))
  have f1 := loadAgg (T := TT gt) (t := 24) (off := 0) (n := 2) (r := [.int .i64 n, cl]) hb1 rfl rfl
  repeat (first | refine EvO.plain rfl rfl rfl rfl rfl rfl ?_ | refine EvO.plain rfl rfl rfl rfl rfl (by assumption) ?_ | refine EvC.seq ?_ | refine EvC.region rfl ?_ | refine EvO.nil ?_ | refine at_normal ?_)
  (refine EvO.cons rfl rfl rfl (EvP.callF rfl rfl rfl rfl (EvF.mono (fit_spec hg1.wf (C.mono hg1.le) (D.mono hg1.le) hm) ?_)))
  rintro _ h2 _ ⟨hg2, rfl⟩
  have hg := hg1.trans hg2
  clear f1
  have bad : ∀ {h' : AH}, Grew h h' → ¬ ((valid n L ∧ ∀ i, i < P.length → ∀ x ∈ P.getD i [], ok n x) ∧ ∀ x ∈ l, ok n x) → (h.le h' ∧ WF h') ∧ StepSays n L P l (.tuple [.bool false, .int .i64 2]) := fun hg hv => ⟨⟨hg.le, hg.wf⟩, false, 2, rfl, fun _ => ⟨rfl, rfl⟩, fun e => absurd e hv⟩
  by_cases hv : valid n L ∧ ∀ i, i < P.length → ∀ x ∈ P.getD i [], ok n x
  · rw [decide_eq_true hv]
    have f2 := loadAgg (T := TT gt) (t := 24) (off := 0) (n := 2) (r := [.int .i64 n, cl]) (hg2.le _ _ hb1) rfl rfl
    have hvv := hv
    obtain ⟨⟨v0, v1, v2, v3, v4⟩, hp⟩ := hvv
    repeat (first | refine EvO.plain rfl rfl rfl rfl rfl rfl ?_ | refine EvO.plainOn rfl rfl rfl rfl rfl rfl ?_ | refine EvO.plainOn rfl rfl rfl rfl rfl (by assumption) ?_)
    refine EvO.on rfl rfl rfl (EvP.callF rfl rfl rfl rfl (EvF.mono (pwithin_spec (facts gt) hg.wf (row.mono hg.le) (by omega) ⟨v0, by omega⟩) ?_))
    rintro _ h3 _ ⟨hg3, rfl⟩
    have hg' := hg.trans hg3
    clear f2
    by_cases hlo : ∀ x ∈ l, ok n x
    · rw [decide_eq_true hlo]
      repeat (first | refine EvO.plain rfl rfl rfl rfl rfl rfl ?_ | refine EvO.nil ?_ | refine at_normal ?_ | refine EvO.plainOn rfl rfl rfl rfl rfl rfl ?_)
      refine EvC.cond (t := false) rfl (fun e => nomatch e) (fun _ => ?_)
      have b3 := hg3.le _ _ (hg2.le _ _ hb1)
      have f3 := load1 (T := TT gt) (t := 3) (off := 0) b3 rfl rfl rfl
      obtain ⟨N, rfl⟩ : ∃ N : Nat, n = N := ⟨n.toNat, by omega⟩
      have S3 := HS.all hg'.wf
      repeat (first | refine EvO.plain rfl rfl rfl rfl rfl rfl ?_ | refine EvO.plain rfl rfl rfl rfl rfl (by assumption) ?_ | refine EvC.seq ?_ | refine EvC.region rfl ?_ | refine at_normal ?_ | refine EvC.skip ?_)
      (refine EvO.cons rfl rfl rfl (EvP.callF rfl rfl rfl rfl (EvF.mono (cs_begin S3 N (by omega)) ?_)))
      rintro _ h4 _ ⟨p, rfl, C4⟩
      clear f3
      have f4 := load1 (T := TT gt) (t := 22) (off := 1) ((cs_le C4).1 _ _ b3) rfl rfl rfl
      repeat (first | refine EvO.plain rfl rfl rfl rfl rfl rfl ?_ | refine EvO.plain rfl rfl rfl rfl rfl (by assumption) ?_ | refine EvC.seq ?_ | refine EvC.region rfl ?_ | refine EvO.nil ?_ | refine at_normal ?_)
      clear f4
      obtain ⟨V, col, S, rfl, hall, Ch, W4, U4, B4, T4, Tl4⟩ := C4
      (refine EvO.cons rfl rfl rfl (EvP.newR (b := .cells [cl, pv] 22 false) (mk := .slice 2 2 true) Ch.hs rfl (show abuildSlice (TT gt) 139 2 [(0, cl), (1, pv)] = _ from build2 C.rows.sc D.rows.sc) (fun h5 id A5 S5 hle5 o5 _ _ => ?_)))
      have Ch5 := Ch.more A5 S5 hle5
      have hle : h.le (h3.add id (.cells [cl, pv] 22 false)) := AH.le.trans' hg'.le hle5
      have row5 : RowOf h5 1 (.slice id 0 2 2 true) 2 (fun i => [if i = 0 then cl else pv]) := .mk (cs := [cl, pv]) (by unfold cellsOf; rw [o5]) fun i hi => by
        have : i = 0 ∨ i = 1 := by omega
        rcases this with rfl | rfl <;> rfl
      have hle5' : h.le h5 := AH.le.trans' hle S5.le
      skip
      (refine EvO.cons rfl rfl rfl (EvP.callF rfl rfl rfl rfl (EvF.mono (concat_spec S5.wf (C.mono hle5') (D.mono hle5') nc np row5 (by omega)) ?_)))
      rintro r h6 _ ⟨col6, A6, V6⟩
      obtain ⟨G6, S6, hle6, row6⟩ := Vec.publish Ch5.hs A6 (by decide) V6 (by decide)
      have C6 : CS G6 h6 N V.p ((L ++ P).take 0) := ⟨V, col, S, rfl, hall, Ch5.more (Step.hide Ch5.hs A6 (by decide)) S6 hle6, W4, U4, B4, T4, Tl4⟩
      have hG6 : h.le G6 := AH.le.trans' hle hle6
      have hel := two_cells C D
      generalize ((List.range L.length).map cv ++ (List.range P.length).map pc : List AV) = cells at *
      have hLP : ∀ l ∈ L ++ P, ∀ x ∈ l, ok N x := fun l hl => by
        rcases List.mem_append.1 hl with h' | h'
        · exact lits_ok v4 l h'
        · exact lits_ok hp l h'
      have htot : total (L ++ P) ≤ 2 ^ 31 := by rw [total_append]; omega
      have hlen : (L ++ P).length ≤ 400000 := by rw [List.length_append]; omega
      have row6' : RowOf G6 1 r (L ++ P).length (fun i => [cells.getD i .undef]) := row6.congr fun i hi => by
        obtain ⟨a, k1, _⟩ := hel i hi
        rw [Nat.mul_one, List.take_one, List.head?_drop, k1, List.getD_eq_getElem?_getD, k1]; rfl
      have hel6 : ∀ i, i < (L ++ P).length → IntRow G6 (cells.getD i .undef) ((L ++ P).getD i []) := fun i hi => by
        obtain ⟨a, k1, k2⟩ := hel i hi
        rw [List.getD_eq_getElem?_getD, k1]; exact k2.mono hG6
      have ln6 := row6'.len_any (T := TT gt) (t := 22) rfl h6
      have rowl : IntRow G6 lv l := row.mono hG6
      repeat (first | refine EvO.plain rfl rfl rfl rfl rfl rfl ?_ | refine EvO.plain rfl rfl rfl rfl rfl (by assumption) ?_ | refine EvO.nil ?_ | refine at_normal ?_ | refine EvC.block ?_)
      clear ln6 row5 hall Ch Ch5 W4 U4 B4 T4 Tl4 V6 A6 S6 row6 hel hle5 hle6 S5 A5 o5
      generalize V.p = p at *
      have done : ∀ {hx : AH} {k : Int}, h.le hx → WF hx → (k = -1 ↔ ¬ Clash (L ++ P) (neg l)) → (h.le hx ∧ WF hx) ∧ StepSays N L P l (.tuple [.bool (k != -1), .int .i64 0]) := fun h7 h8 hk => ⟨⟨h7, h8⟩, _, 0, rfl, fun e => absurd ⟨hv, hlo⟩ e, fun _ => ⟨rfl, by
        rw [bne_iff_ne, ne_eq, hk, Classical.not_not]⟩⟩
      refine EvC.loop (fun m σ h' => ∃ (i : Nat) (E : Nat → AV), CS G6 h' N p ((L ++ P).take i) ∧ i ≤ (L ++ P).length ∧ m = (L ++ P).length - i ∧ σ = upds [(2, lv), (8, .ptr p 0), (28, r), (29, .int .i64 (L ++ P).length), (30, .int .i64 i)] E) ((L ++ P).length) ?_ ?_
      · exact ⟨0, _, C6, Nat.zero_le _, rfl, hold ⟨rfl, rfl, rfl, rfl, rfl, trivial⟩⟩
      · clear C6
        rintro m _ h7 ⟨i, E, C7, hi, rfl, rfl⟩
        generalize hLPe : L ++ P = LP at *
        repeat (first | refine EvO.plain rfl rfl rfl rfl rfl rfl ?_ | refine EvC.seq ?_ | refine EvC.region rfl ?_ | refine EvO.nil ?_ | refine at_normal ?_)
        refine EvC.decide rfl (fun hc => ?_) (fun hc => ?_)
        · have hlt : i < LP.length := by omega
          have hlm := getDL_mem hlt
          obtain ⟨q, b1, b2⟩ := (row6'.mono (cs_le C7).1).at1 (T := TT gt) (t := 22) (e := 35) rfl rfl rfl rfl (k := .i64) (i := i) (by omega) (by omega)
          rw [Int.toNat_natCast] at b2
          have ht := total_take hlt
          have ht2 := total_le LP (i + 1)
          repeat (first | refine EvO.plain rfl rfl rfl rfl rfl rfl ?_ | refine EvO.plain rfl rfl rfl rfl rfl (by assumption) ?_ | refine EvC.seq ?_ | refine EvC.region rfl ?_ | refine EvO.nil ?_ | refine at_normal ?_ | refine EvC.skip ?_ | refine EvC.block ?_)
          (refine EvO.cons rfl rfl rfl (EvP.callF rfl rfl rfl rfl (EvF.mono (cs_add C7 (hel6 i hlt) (hLP _ hlm) (by omega) (by rw [List.length_take]; omega)) ?_)))
          rintro _ h8 _ C8
          clear b1 b2
          repeat (first | refine EvO.plain rfl rfl rfl rfl rfl rfl ?_ | refine EvC.region rfl ?_ | refine EvO.nil ?_ | refine at_normal ?_ | refine be_normal ?_ | refine ro_normal ?_ | refine EvO.cons rfl rfl rfl (EvP.add64 rfl rfl (by omega) ?_))
          refine ⟨LP.length - (i + 1), by omega, i + 1, _, ?_, by omega, rfl, hold ⟨rfl, rfl, rfl, rfl, rfl, trivial⟩⟩
          have hs : LP.take (i + 1) = LP.take i ++ [LP.getD i []] := by
            rw [List.take_add_one, List.getD_eq_getElem?_getD, List.getElem?_eq_getElem hlt]; rfl
          rw [hs]; exact C8
        · have hend : i = LP.length := by omega
          subst hend
          rw [List.take_length] at C7
          repeat (first | refine EvO.plain rfl rfl rfl rfl rfl rfl ?_ | refine EvC.seq ?_ | refine EvC.region rfl ?_ | refine at_normal ?_ | refine EvC.exit ?_ | refine at_exit ?_ | refine be_same rfl ?_ | refine ro_exit ?_)
          (refine EvO.cons rfl rfl rfl (EvP.callF rfl rfl rfl rfl (EvF.mono (cs_opp C7 rowl hlo (by omega)) ?_)))
          rintro r5 h8 _ ⟨G8, hlG8, row8, C8⟩
          skip
          (refine EvO.cons rfl rfl rfl (EvP.callF rfl rfl rfl rfl (EvF.mono (cs_clash C8 row8 (fun x hx => by obtain ⟨y, hy, rfl⟩ := List.mem_map.1 hx; exact ok_neg (hlo y hy)) (by rw [List.length_map]; omega)) ?_)))
          rintro _ h9 _ ⟨k, rfl, hk, C9⟩
          repeat (first | refine EvO.plain rfl rfl rfl rfl rfl rfl ?_ | refine EvO.nil ?_ | refine at_normal ?_ | refine EvC.ret ?_)
          (refine ret_are (vs := [.bool (k != -1), .int .i64 0]) rfl rfl ?_)
          exact done (AH.le.trans' hG6 (AH.le.trans' hlG8 (cs_le C9).1)) (cs_le C9).2 hk
    · rw [decide_eq_false hlo]
      repeat (first | refine EvO.plain rfl rfl rfl rfl rfl rfl ?_ | refine EvO.nil ?_ | refine at_normal ?_ | refine EvO.plainOn rfl rfl rfl rfl rfl rfl ?_)
      refine EvC.cond (t := true) rfl (fun _ => ?_) (fun e => nomatch e)
      repeat (first | refine EvO.plain rfl rfl rfl rfl rfl rfl ?_ | refine EvC.seq ?_ | refine EvC.region rfl ?_ | refine EvO.nil ?_ | refine at_normal ?_ | refine EvC.ret ?_ | refine at_ret ?_)
      (refine ret_are (vs := [.bool false, .int .i64 2]) rfl rfl ?_)
      exact bad hg' (fun e => hlo e.2)
  · rw [decide_eq_false hv]
    repeat (first | refine EvO.plain rfl rfl rfl rfl rfl rfl ?_ | refine EvO.nil ?_ | refine at_normal ?_ | refine EvO.off rfl rfl rfl ?_)
    refine EvC.cond (t := true) rfl (fun _ => ?_) (fun e => nomatch e)
    repeat (first | refine EvO.plain rfl rfl rfl rfl rfl rfl ?_ | refine EvC.seq ?_ | refine EvC.region rfl ?_ | refine EvO.nil ?_ | refine at_normal ?_ | refine EvC.ret ?_ | refine at_ret ?_)
    (refine ret_are (vs := [.bool false, .int .i64 2]) rfl rfl ?_)
    exact bad hg (fun e => hv e.1)
end Pf
end Go.Proofs.YtfjloafebkjadaaGreatDoor
