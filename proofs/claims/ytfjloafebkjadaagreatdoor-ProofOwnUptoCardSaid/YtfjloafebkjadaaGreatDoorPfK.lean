/- Lists laid end to end. -/
import Derived.Test.YtfjloafebkjadaaGreatDoorPfJ
namespace Go.Proofs.YtfjloafebkjadaaGreatDoor
namespace Pf
open Go Go.AI Go.Proofs
variable {gt : Tree (List AV)}
/-- No row of no elements that points beyond what lies there. -/
def FZ (h : AH) (v : AV) : Prop := ∀ id off cap ex, v = .slice id off 0 cap ex → ∃ cs, cellsOf h id = some cs ∧ off ≤ cs.length
theorem FZ.mono {h h' : AH} {v : AV} (z : FZ h v) (hl : h.le h') : FZ h' v := fun id off cap ex e => by
  obtain ⟨cs, h1, h2⟩ := z id off cap ex e
  exact ⟨cs, cellsOf_le hl h1, h2⟩
theorem FZ.of_nz {h : AH} {v : AV} {k : Nat} {g : Nat → List AV} (nz : NZ v) (row : RowOf h 1 v k g) : FZ h v := fun id off cap ex e => by
  subst e
  cases row with
  | mk hc _ =>
    have : off = 0 := nz
    exact ⟨_, hc, by omega⟩
/-- An append of a row, which may be empty. -/
theorem EvP_appendRowF {T : Tab} {X : Oracle} {σ : Nat → AV} {h G : AH} {col : Nat → Nat} {cl : Call} {s y : Operand} {ts : List TypeId} {c : Nat} {e m k : Nat} {v x : AV} {cs : List AV} {f : Nat → AV} {t xt e2 : TypeId} {ei : TInfo} {Q : AV → AH → Prop} (S : HS G h col) (V : Vec col c h e 1 v m cs) (h0 : c ≠ 0) (row : RowOf h 1 x k (fun i => [f i])) (fz : FZ h x) (hsc : ∀ i, i < k → Go.AI.scalar (f i) = true)
    (hcl : cl.callee = .builtin .append) (hts : cl.argTypes.toList = t :: xt :: ts) (hargs : cl.args.toList = [s, y]) (hv : evf σ s = v) (hy : evf σ y = x)
    (ht : descOf T t = .slice e) (hxt : descOf T xt = .slice e2) (hei : T.tt.get e = some ei) (hsz : ei.size = 1) (hz : ei.zero.length = 1) (hb : (m + k) * ei.bytes ≤ maxBytes) (hq : m + k ≤ 2 ^ 40)
    (H : ∀ v' h1 col1, Step (fun x => x = c) col h col1 h1 → HS G h1 col1 → Vec col1 c h1 e 1 v' (m + k) (cs ++ (List.range k).map f) → Q v' h1) : EvP T X (.call cl) σ h Q := by
  rcases Nat.eq_zero_or_pos k with rfl | hk
  · have V0 : Vec col c h e 1 v (m + 0) (cs ++ (List.range 0).map f) := by simpa using V
    refine EvP.eff (v := v) (h' := h) (by simp only [kindOf, hcl]) ?_ (Nat.le_refl _) (H v h col (Step.refl S) S V0)
    have hx : alenOf x = some 0 ∧ afirst h 1 0 x = some [] := by
      cases row with
      | nil => exact ⟨rfl, rfl⟩
      | empty => exact ⟨rfl, rfl⟩
      | mk hc _ =>
        obtain ⟨cs', h1, h2⟩ := fz _ _ _ _ rfl
        exact ⟨rfl, by simp [afirst, h1, sub, h2]⟩
    have hap : aappend T h t xt v x = some (v, h) := by
      cases V with
      | nil => simp [aappend, ht, hxt, hei, hsz, hx.1, hx.2]
      | @mk id _ cap ex _ tail hg hc hn hxx =>
        cases ex with
        | true => simp [aappend, ht, hxt, hei, hsz, hx.1, hx.2, (hxx rfl).1]
        | false =>
          have hs : szOf T e = 1 := by simp [szOf, hei, hsz]
          simp [aappend, ht, hxt, hei, hsz, hx.1, hx.2, ownOf, hg, hs]
          omega
    simp only [feff, hcl, hts, hargs, hv, hy, hap, rb, Option.map_some]
  · obtain ⟨h1, h2⟩ := row.first1 hk
    refine EvP.appendC S V h0 hcl hts hargs hv hy ht hxt hei hsz (by decide) hz h1 h2 (by simp) hk ?_ hb hq H
    rw [List.all_eq_true]
    intro u hu
    obtain ⟨i, hi, rfl⟩ := List.mem_map.1 hu
    exact hsc i (List.mem_range.1 hi)
theorem EvP_appendZ {T : Tab} {X : Oracle} {σ : Nat → AV} {h G : AH} {col : Nat → Nat} {cl : Call} {s y : Operand} {ts : List TypeId} {c e : Nat} {k : Int} {t xt : TypeId} {q : IntKind} {ei : TInfo} {Q : AV → AH → Prop} (S : HS G h col) (c0 : c ≠ 0) (hcl : cl.callee = .builtin .append) (hts : cl.argTypes.toList = t :: xt :: ts) (hargs : cl.args.toList = [s, y]) (hv : evf σ s = .nilSlice) (hy : evf σ y = .int .i64 k)
    (ht : descOf T t = .slice e) (hxt : descOf T xt = .int q) (hei : T.tt.get e = some ei) (hsz : ei.size = 1) (hz : ei.zero.length = 1) (hk : 0 < k) (hq : k ≤ 2 ^ 40) (hb : k.toNat * ei.bytes ≤ maxBytes)
    (H : ∀ h1 id col1, Step (fun x => x = c) col h col1 h1 → HS G h1 col1 → Vec col1 c h1 e 1 (.slice id 0 k.toNat 0 false) k.toNat (rep k.toNat ei.zero) → Q (.slice id 0 k.toNat 0 false) h1) : EvP T X (.call cl) σ h Q := by
  have A := new_step S.wf S.fresh (.cells (rep k.toNat ei.zero) e false) c
  refine EvP.eff (v := .slice h.next 0 k.toNat 0 false) (h' := (h.new (.cells (rep k.toNat ei.zero) e false)).2) (by simp only [kindOf, hcl]) ?_ A.nx (H _ _ _ A (S.step A (fun e => c0 e.symm)) ?_)
  · simp only [feff, hcl, hts, hargs, hv, hy, aappend, ht, hxt, appendZ, hei]
    rw [if_pos ⟨hk, hq, hb, by omega, by omega⟩]; rfl
  · exact .mk (tail := []) (by rw [List.append_nil]; exact get_new ..) (recol_same ..) (by rw [rep_length, hz]) (fun e => by cases e)
theorem Vec_cut0 {col : Nat → Nat} {c : Nat} {h : AH} {m : Nat} {v : AV} {cs : List AV} (V : Vec col c h 35 1 v m cs) : ∃ v', aslice (TT gt) h 22 v none (some (.int .i64 0)) none = some v' ∧ Vec col c h 35 1 v' 0 [] := by
  have b0 : ∀ len cap : Nat, bounds len cap none (some (.int .i64 0)) none = some (0, 0, cap) := fun len cap => by
    simp [bounds, optBound, bound]
  cases V with
  | nil => exact ⟨.nilSlice, rfl, .nil⟩
  | @mk id _ cap ex _ tail hg hc hn hx =>
    cases ex with
    | true =>
      refine ⟨.slice id 0 0 cap true, ?_, .mk (cs := []) (tail := cs ++ tail) hg hc (by simp) (fun e => ⟨Nat.zero_le _, (hx rfl).2⟩)⟩
      show cut id 0 1 (bounds m cap none (some (.int .i64 0)) none) = _
      rw [b0]
      simp [cut]
    | false =>
      refine ⟨.slice id 0 0 0 false, ?_, .mk (cs := []) (tail := cs ++ tail) hg hc (by simp) (fun e => by cases e)⟩
      show (match some ti35, ownOf h id with
        | some ie, some (cs, el) =>
          if ie.size = 0 ∨ szOf (TT gt) el ≠ ie.size ∨ cs.length < 0 then none else
          match bounds m ((cs.length - 0) / ie.size) none (some (.int .i64 0)) none with
          | some (l, hi, mm) => if (cs.length - 0) / ie.size < hi then none else if l = (cs.length - 0) / ie.size ∧ 0 < l then some AV.eslice else some (AV.slice id (0 + l * ie.size) (hi - l) 0 false)
          | none => none
        | _, _ => none) = _
      have hs : szOf (TT gt) 35 = 1 := rfl
      have h1 : ti35.size = 1 := rfl
      simp only [ownOf, hg, hs, h1, b0]
      simp
theorem grow_spec {h G : AH} {col : Nat → Nat} (S : HS G h col) (n : Nat) (hn : n ≤ 2 ^ 30) :
    EvF (TT gt) X 88 [.nilSlice, .int .i64 n] h (fun r h' => ∃ col', Step (fun x => x = 1) col h col' h' ∧ HS G h' col' ∧ Vec col' 1 h' 35 1 r 0 []) := by
  refine EvF.enter rfl rfl rfl ?_
  repeat (first | refine EvO.plain rfl rfl rfl rfl rfl rfl ?_ | refine EvC.seq ?_ | refine EvC.region rfl ?_ | refine EvO.nil ?_ | refine at_normal ?_)
  refine EvC.cond (t := false) (isT (decide_eq_false (by omega))) (fun e => nomatch e) (fun _ => ?_)
  repeat (first | refine EvO.plain rfl rfl rfl rfl rfl rfl ?_ | refine EvC.seq ?_ | refine EvC.region rfl ?_ | refine EvO.nil ?_ | refine at_normal ?_ | refine EvC.skip ?_ | refine EvO.cons rfl rfl rfl (EvP.sub64 rfl rfl (by omega) ?_))
  by_cases h0 : n = 0
  · refine EvC.cond (t := false) (isT (decide_eq_false (by omega))) (fun e => nomatch e) (fun _ => ?_)
    repeat (first | refine EvO.plain rfl rfl rfl rfl rfl rfl ?_ | refine EvC.seq ?_ | refine EvC.region rfl ?_ | refine EvO.nil ?_ | refine at_normal ?_ | refine EvC.skip ?_ | refine EvC.ret ?_)
    (refine ret_is (v := .nilSlice) rfl rfl ?_)
    exact ⟨col, Step.refl S, S, .nil⟩
  · refine EvC.cond (t := true) (isT (decide_eq_true (by omega))) (fun _ => ?_) (fun e => nomatch e)
    repeat (first | refine EvO.plain rfl rfl rfl rfl rfl rfl ?_ | refine EvC.region rfl ?_)
    refine EvO.cons rfl rfl rfl (EvP_appendZ S (c := 1) (by decide) rfl rfl rfl rfl rfl rfl rfl rfl rfl rfl (by omega) (by omega) (by show (_ : Nat) * 24 ≤ 70368744177664; omega) (fun h1 id col1 A1 S1 V1 => ?_))
    obtain ⟨w, k1, k2⟩ := Vec_cut0 (gt := gt) V1
    repeat (first | refine EvO.plain rfl rfl rfl rfl rfl rfl ?_ | refine EvO.plain rfl rfl rfl rfl rfl (by assumption) ?_ | refine EvC.seq ?_ | refine EvC.region rfl ?_ | refine EvO.nil ?_ | refine at_normal ?_ | refine EvC.ret ?_)
    (refine ret_is (v := w) rfl rfl ?_)
    exact ⟨col1, A1, S1, k2⟩
def szI (a b i : Nat) : Nat := (if i = 0 then 0 else a) + (if i = 2 then b else 0)
theorem concat_spec {h : AH} (hw : WF h) {n : Int} {cl pv sv : AV} {L P : List (List Int)} {cv pc : Nat → AV} (C : CnfAt h n cl L cv) (D : CnfAt h n pv P pc) (nc : NZ cl) (fz : FZ h pv) (row : RowOf h 1 sv 2 (fun i => [if i = 0 then cl else pv])) (hm : L.length + P.length ≤ 2 ^ 29) :
    EvF (TT gt) X 56 [sv] h (fun r h' => ∃ col', Step (fun x => x = 1) (fun _ => 0) h col' h' ∧ Vec col' 1 h' 35 1 r (L ++ P).length ((List.range L.length).map cv ++ (List.range P.length).map pc)) := by
  have S0 := HS.all hw
  have ln := fun h' => row.len_any (T := TT gt) (t := 139) rfl h'
  have lc := fun h' => C.rows.len_any (T := TT gt) (t := 22) rfl h'
  have lp := fun h' => D.rows.len_any (T := TT gt) (t := 22) rfl h'
  have ln0 := ln h
  refine EvF.enter rfl rfl rfl ?_
  repeat (first | refine EvO.plain rfl rfl rfl rfl rfl rfl ?_ | refine EvO.plain rfl rfl rfl rfl rfl (by assumption) ?_ | refine EvC.seq ?_ | refine EvC.region rfl ?_ | refine EvO.nil ?_ | refine at_normal ?_ | refine EvC.block ?_)
  refine EvC.loop (fun m σ h' => h' = h ∧ ∃ (i : Nat) (E : Nat → AV), i ≤ 2 ∧ m = 2 - i ∧ σ = upds [(0, sv), (3, .int .i64 (szI L.length P.length i)), (9, sv), (10, .int .i64 2), (11, .int .i64 i)] E) (2) ?_ ?_
  · exact ⟨rfl, 0, _, by omega, rfl, hold ⟨rfl, rfl, rfl, rfl, rfl, trivial⟩⟩
  · rintro m _ h ⟨rfl, i, E, hi, rfl, rfl⟩
    repeat (first | refine EvO.plain rfl rfl rfl rfl rfl rfl ?_ | refine EvC.seq ?_ | refine EvC.region rfl ?_ | refine EvO.nil ?_ | refine at_normal ?_)
    refine EvC.decide rfl (fun hc => ?_) (fun hc => ?_)
    · have cs : i = 0 ∨ i = 1 := by omega
      obtain ⟨q, b1, b2⟩ := row.at1 (T := TT gt) (t := 139) (e := 22) rfl rfl rfl rfl (k := .i64) (i := i) (by omega) (by omega)
      rw [Int.toNat_natCast] at b2
      have lc0 := lc h
      have lp0 := lp h
      have s0 : szI L.length P.length 0 = 0 := rfl
      have s1 : szI L.length P.length 1 = L.length := by simp [szI]
      have s2 : szI L.length P.length 2 = L.length + P.length := by simp [szI]
      rcases cs with rfl | rfl
      · simp only [if_true] at b2
        repeat (first | refine EvO.plain rfl rfl rfl rfl rfl rfl ?_ | refine EvO.plain rfl rfl rfl rfl rfl (by assumption) ?_ | refine EvC.seq ?_ | refine EvC.region rfl ?_ | refine EvO.nil ?_ | refine at_normal ?_ | refine EvC.skip ?_ | refine EvC.block ?_ | refine EvO.cons rfl rfl rfl (EvP.add64 rfl rfl (by omega) ?_))
        refine EvC.cond (t := false) (isT (decide_eq_false (by omega))) (fun e => nomatch e) (fun _ => ?_)
        repeat (first | refine EvO.plain rfl rfl rfl rfl rfl rfl ?_ | refine EvC.region rfl ?_ | refine EvO.nil ?_ | refine at_normal ?_ | refine EvC.skip ?_ | refine be_normal ?_ | refine ro_normal ?_ | refine EvO.cons rfl rfl rfl (EvP.add64 rfl rfl (by omega) ?_))
        refine ⟨1, by omega, rfl, 1, _, by omega, rfl, hold ⟨rfl, congrArg (AV.int .i64) ?_, rfl, rfl, rfl, trivial⟩⟩
        rw [s0, s1]; simp
      · simp only [Nat.one_ne_zero, if_false] at b2
        repeat (first | refine EvO.plain rfl rfl rfl rfl rfl rfl ?_ | refine EvO.plain rfl rfl rfl rfl rfl (by assumption) ?_ | refine EvC.seq ?_ | refine EvC.region rfl ?_ | refine EvO.nil ?_ | refine at_normal ?_ | refine EvC.skip ?_ | refine EvC.block ?_ | refine EvO.cons rfl rfl rfl (EvP.add64 rfl rfl (by omega) ?_))
        refine EvC.cond (t := false) (isT (decide_eq_false (by omega))) (fun e => nomatch e) (fun _ => ?_)
        repeat (first | refine EvO.plain rfl rfl rfl rfl rfl rfl ?_ | refine EvC.region rfl ?_ | refine EvO.nil ?_ | refine at_normal ?_ | refine EvC.skip ?_ | refine be_normal ?_ | refine ro_normal ?_ | refine EvO.cons rfl rfl rfl (EvP.add64 rfl rfl (by omega) ?_))
        refine ⟨0, by omega, rfl, 2, _, by omega, rfl, hold ⟨rfl, congrArg (AV.int .i64) ?_, rfl, rfl, rfl, trivial⟩⟩
        rw [s1, s2]; simp
    · have hend : i = 2 := by omega
      subst hend
      have s2 : szI L.length P.length 2 = L.length + P.length := by simp [szI]
      repeat (first | refine EvO.plain rfl rfl rfl rfl rfl rfl ?_ | refine EvC.seq ?_ | refine EvC.region rfl ?_ | refine at_normal ?_ | refine EvC.exit ?_ | refine at_exit ?_ | refine be_same rfl ?_ | refine ro_exit ?_)
      (refine EvO.cons rfl rfl rfl (EvP.callF rfl rfl rfl rfl (EvF.mono (grow_spec S0 (szI L.length P.length 2) (by omega)) ?_)))
      rintro r h2 _ ⟨col2, A2, S2, V2⟩
      have ln2 := ln h2
      repeat (first | refine EvO.plain rfl rfl rfl rfl rfl rfl ?_ | refine EvO.plain rfl rfl rfl rfl rfl (by assumption) ?_ | refine EvC.seq ?_ | refine EvC.region rfl ?_ | refine EvO.nil ?_ | refine at_normal ?_ | refine EvC.block ?_)
      clear ln2 ln0
      refine EvC.loop (fun m σ h' => ∃ (i : Nat) (w : AV) (col' : Nat → Nat) (E : Nat → AV), Step (fun x => x = 1) (fun _ => 0) h col' h' ∧ HS h h' col' ∧ Vec col' 1 h' 35 1 w (szI L.length P.length i) ((if i = 0 then [] else (List.range L.length).map cv) ++ (if i = 2 then (List.range P.length).map pc else [])) ∧ i ≤ 2 ∧ m = 2 - i ∧ σ = upds [(6, w), (25, sv), (26, .int .i64 2), (27, .int .i64 i)] E) (2) ?_ ?_
      · exact ⟨0, r, col2, _, A2, S2, V2, by omega, rfl, hold ⟨rfl, rfl, rfl, rfl, trivial⟩⟩
      · clear A2 S2 V2
        rintro m _ h3 ⟨i, w, col3, E, A3, S3, V3, hi, rfl, rfl⟩
        repeat (first | refine EvO.plain rfl rfl rfl rfl rfl rfl ?_ | refine EvC.seq ?_ | refine EvC.region rfl ?_ | refine EvO.nil ?_ | refine at_normal ?_)
        refine EvC.decide rfl (fun hc => ?_) (fun hc => ?_)
        · have cs : i = 0 ∨ i = 1 := by omega
          obtain ⟨q, b1, b2⟩ := (row.mono S3.le).at1 (T := TT gt) (t := 139) (e := 22) rfl rfl rfl rfl (k := .i64) (i := i) (by omega) (by omega)
          rw [Int.toNat_natCast] at b2
          have s0 : szI L.length P.length 0 = 0 := rfl
          have s1 : szI L.length P.length 1 = L.length := by simp [szI]
          rcases cs with rfl | rfl
          · simp only [if_true] at b2
            rw [s0] at V3
            repeat (first | refine EvO.plain rfl rfl rfl rfl rfl rfl ?_ | refine EvO.plain rfl rfl rfl rfl rfl (by assumption) ?_ | refine EvC.seq ?_ | refine EvC.region rfl ?_ | refine EvO.nil ?_ | refine at_normal ?_ | refine EvC.skip ?_ | refine EvC.block ?_)
            (refine EvO.cons rfl rfl rfl (EvP.appendRow S3 V3 (by decide) (C.rows.mono S3.le) nc (fun i hi => (C.ints i hi).sc.2) rfl rfl rfl rfl rfl rfl rfl rfl rfl rfl (by show (0 + L.length) * 24 ≤ 70368744177664; omega) (by omega) (fun v4 h4 col4 A4 S4 V4 => ?_)))
            clear b1 b2
            repeat (first | refine EvO.plain rfl rfl rfl rfl rfl rfl ?_ | refine EvC.region rfl ?_ | refine EvO.nil ?_ | refine at_normal ?_ | refine be_normal ?_ | refine ro_normal ?_ | refine EvO.cons rfl rfl rfl (EvP.add64 rfl rfl (by omega) ?_))
            refine ⟨1, by omega, 1, v4, col4, _, A3.trans A4, S4, ?_, by omega, rfl, hold ⟨rfl, rfl, rfl, rfl, trivial⟩⟩
            rw [s1]
            simpa using V4
          · simp only [Nat.one_ne_zero, if_false] at b2
            rw [s1] at V3
            repeat (first | refine EvO.plain rfl rfl rfl rfl rfl rfl ?_ | refine EvO.plain rfl rfl rfl rfl rfl (by assumption) ?_ | refine EvC.seq ?_ | refine EvC.region rfl ?_ | refine EvO.nil ?_ | refine at_normal ?_ | refine EvC.skip ?_ | refine EvC.block ?_)
            (refine EvO.cons rfl rfl rfl (EvP_appendRowF S3 V3 (by decide) (D.rows.mono S3.le) (fz.mono S3.le) (fun i hi => (D.ints i hi).sc.2) rfl rfl rfl rfl rfl rfl rfl rfl rfl rfl (by show (L.length + P.length) * 24 ≤ 70368744177664; omega) (by omega) (fun v4 h4 col4 A4 S4 V4 => ?_)))
            clear b1 b2
            repeat (first | refine EvO.plain rfl rfl rfl rfl rfl rfl ?_ | refine EvC.region rfl ?_ | refine EvO.nil ?_ | refine at_normal ?_ | refine be_normal ?_ | refine ro_normal ?_ | refine EvO.cons rfl rfl rfl (EvP.add64 rfl rfl (by omega) ?_))
            refine ⟨0, by omega, 2, v4, col4, _, A3.trans A4, S4, ?_, by omega, rfl, hold ⟨rfl, rfl, rfl, rfl, trivial⟩⟩
            rw [s2]
            simpa using V4
        · have hend : i = 2 := by omega
          subst hend
          rw [s2] at V3
          repeat (first | refine EvO.plain rfl rfl rfl rfl rfl rfl ?_ | refine EvC.seq ?_ | refine EvC.region rfl ?_ | refine EvO.nil ?_ | refine at_normal ?_ | refine EvC.ret ?_ | refine EvC.exit ?_ | refine at_exit ?_ | refine be_same rfl ?_ | refine ro_exit ?_)
          (refine ret_is (v := w) rfl rfl ?_)
          refine ⟨col3, A3, ?_⟩
          rw [List.length_append]
          simpa using V3
end Pf
end Go.Proofs.YtfjloafebkjadaaGreatDoor
