/- What a clause asks; the propagation goes on until a clause clashes, just if one does. -/
import Derived.Test.YtfjloafebkjadaaGreatDoorPfM
namespace Go.Proofs.YtfjloafebkjadaaGreatDoor
namespace Pf
open Go Go.AI Go.Proofs
variable {gt : Tree (List AV)}
theorem getD_drop {l : List Int} {i : Nat} (hi : i < l.length) : l.drop i = l.getD i 0 :: l.drop (i + 1) := by
  rw [List.drop_eq_getElem_cons hi, List.getD_eq_getElem?_getD, List.getElem?_eq_getElem hi, Option.getD_some]
theorem look_spec {G h : AH} {col : Nat → Nat} {n : Nat} {V : Lay} {S : Ch} (C : ChAt G h col n V S) (k : Nat) (hk : k < S.all.length) (hok : ∀ l ∈ S.all.getD k [], ok n l) (hc' : ∀ x, x ∈ S.trail → -x ∉ S.trail) (hlen : (S.all.getD k []).length ≤ 2 ^ 50) :
    EvF (TT gt) X 91 [.ptr V.p 0, .int .i64 k] h (fun r h' => h' = h ∧ r = .tuple [.int .i64 (lookG S.trail 0 (S.all.getD k [])).1, .bool (lookG S.trail 0 (S.all.getD k [])).2]) := by
  have hs := C.sml
  have hOB := C.alls k hk
  obtain ⟨a, ha, row⟩ := hOB
  have row := row.mono C.hs.le
  generalize hcl : S.all.getD k [] = c at *
  have f0 := C.fld (gt := gt) (t := 22) (off := 0) rfl rfl rfl
  have hOB := C.all.at1 (T := TT gt) (t := 22) (k := .i64) (i := k) rfl rfl rfl rfl (by omega) (by omega)
  obtain ⟨p, u, a1, a2, a3⟩ := hOB
  rw [Int.toNat_natCast, ha] at a3
  cases a3
  have ln := row.len (T := TT gt) (t := 35) rfl
  refine EvF.enter rfl rfl rfl ?_
  repeat (first | refine EvO.plain rfl rfl rfl rfl rfl rfl ?_ | refine EvO.plain rfl rfl rfl rfl rfl (by assumption) ?_ | refine EvC.seq ?_ | refine EvC.region rfl ?_ | refine EvO.nil ?_ | refine at_normal ?_ | refine EvC.block ?_)
  clear a1 a2 f0 ln
  refine EvC.loop (fun m σ h' => h' = h ∧ ∃ (i : Nat) (left : Int) (E : Nat → AV), i ≤ c.length ∧ m = c.length - i ∧ lookG S.trail 0 c = lookG S.trail left (c.drop i) ∧ σ = upds [(0, .ptr V.p 0), (6, .int .i64 left), (15, a), (16, .int .i64 c.length), (17, .int .i64 i)] E) (c.length) ?_ ?_
  · exact ⟨rfl, 0, 0, _, Nat.zero_le _, rfl, rfl, hold ⟨rfl, rfl, rfl, rfl, rfl, trivial⟩⟩
  · rintro m _ _ ⟨rfl, i, left, E, hi, rfl, hL, rfl⟩
    repeat (first | refine EvO.plain rfl rfl rfl rfl rfl rfl ?_ | refine EvC.seq ?_ | refine EvC.region rfl ?_ | refine EvO.nil ?_ | refine at_normal ?_)
    refine EvC.decide rfl (fun hc => ?_) (fun hc => ?_)
    · have hlt : i < c.length := by omega
      have hOB := row.at1 (T := TT gt) (t := 35) (e := 3) rfl rfl rfl rfl (k := .i64) (i := i) (by omega) (by omega)
      obtain ⟨q, b1, b2⟩ := hOB
      rw [Int.toNat_natCast] at b2
      have hoki := hok _ (getD_mem hlt)
      rw [getD_drop hlt, lookG] at hL
      generalize c.getD i 0 = x at *
      repeat (first | refine EvO.plain rfl rfl rfl rfl rfl rfl ?_ | refine EvO.plain rfl rfl rfl rfl rfl (by assumption) ?_ | refine EvC.seq ?_ | refine EvC.region rfl ?_ | refine EvO.nil ?_ | refine at_normal ?_ | refine EvC.skip ?_ | refine EvC.block ?_)
      clear b1 b2
      (refine EvO.cons rfl rfl rfl (EvP.callF rfl rfl rfl rfl (EvF.mono (of_spec C x hoki hc') ?_)))
      rintro _ _ hn ⟨rfl, rfl⟩
      repeat (first | refine EvO.plain rfl rfl rfl rfl rfl rfl ?_ | refine EvC.seq ?_ | refine EvC.region rfl ?_ | refine EvO.nil ?_ | refine at_normal ?_ | refine EvC.block ?_)
      have hOB := ofT_rng S.trail x
      rcases hOB with h3 | h3 | h3
      · rw [if_pos h3] at hL
        refine EvC.cond (t := true) (isT (beq_true h3)) (fun _ => ?_) (fun e => nomatch e)
        repeat (first | refine EvO.plain rfl rfl rfl rfl rfl rfl ?_ | refine EvC.seq ?_ | refine EvC.region rfl ?_ | refine EvO.nil ?_ | refine at_normal ?_ | refine EvC.ret ?_ | refine at_ret ?_ | refine be_ret ?_ | refine ro_ret ?_)
        (refine ret_are (vs := [.int .i64 0, .bool false]) rfl rfl ?_)
        exact ⟨rfl, by rw [hL]; rfl⟩
      · have h4 : ¬ ofT S.trail x = 1 := by rw [h3]; decide
        have h5 : ¬ ofT S.trail x = 0 := by rw [h3]; decide
        rw [if_neg h4, if_neg h5] at hL
        refine EvC.cond (t := false) (isT (beq_false h4)) (fun e => nomatch e) (fun _ => ?_)
        repeat (first | refine EvO.plain rfl rfl rfl rfl rfl rfl ?_ | refine EvC.seq ?_ | refine EvC.region rfl ?_ | refine EvO.nil ?_ | refine at_normal ?_)
        refine EvC.cond (t := false) (isT (beq_false h5)) (fun e => nomatch e) (fun _ => ?_)
        repeat (first | refine EvO.plain rfl rfl rfl rfl rfl rfl ?_ | refine EvC.region rfl ?_ | refine EvO.nil ?_ | refine at_normal ?_ | refine EvC.skip ?_ | refine be_normal ?_ | refine ro_normal ?_ | refine EvO.cons rfl rfl rfl (EvP.add64 rfl rfl (by omega) ?_))
        exact ⟨c.length - (i + 1), by omega, rfl, i + 1, left, _, by omega, rfl, hL, hold ⟨rfl, rfl, rfl, rfl, rfl, trivial⟩⟩
      · have h4 : ¬ ofT S.trail x = 1 := by rw [h3]; decide
        rw [if_neg h4, if_pos h3] at hL
        refine EvC.cond (t := false) (isT (beq_false h4)) (fun e => nomatch e) (fun _ => ?_)
        repeat (first | refine EvO.plain rfl rfl rfl rfl rfl rfl ?_ | refine EvC.seq ?_ | refine EvC.region rfl ?_ | refine EvO.nil ?_ | refine at_normal ?_)
        refine EvC.cond (t := true) (isT (beq_true h3)) (fun _ => ?_) (fun e => nomatch e)
        repeat (first | refine EvO.plain rfl rfl rfl rfl rfl rfl ?_ | refine EvC.seq ?_ | refine EvC.region rfl ?_)
        (refine EvO.cons rfl rfl rfl (EvP.bool rfl rfl (fun hb => ?_) (fun hb => ?_)))
        · have hb := bne_iff_ne.1 hb
          repeat (first | refine EvO.plain rfl rfl rfl rfl rfl rfl ?_ | refine EvO.plainOn rfl rfl rfl rfl rfl rfl ?_)
          (refine EvO.on rfl rfl rfl (EvP.quiet rfl (isB (q := decide (left ≠ x)) (by by_cases e : left = x <;> simp [e])) ?_))
          repeat (first | refine EvO.plain rfl rfl rfl rfl rfl rfl ?_ | refine EvO.nil ?_ | refine at_normal ?_)
          refine EvC.decide rfl (fun hne => ?_) (fun hne => ?_)
          · rw [if_pos ⟨hb, hne⟩] at hL
            repeat (first | refine EvO.plain rfl rfl rfl rfl rfl rfl ?_ | refine EvC.seq ?_ | refine EvC.region rfl ?_ | refine EvO.nil ?_ | refine at_normal ?_ | refine EvC.ret ?_ | refine at_ret ?_ | refine be_ret ?_ | refine ro_ret ?_)
            (refine ret_are (vs := [.int .i64 0, .bool false]) rfl rfl ?_)
            exact ⟨rfl, by rw [hL]; rfl⟩
          · rw [if_neg (fun e => hne e.2)] at hL
            repeat (first | refine EvO.plain rfl rfl rfl rfl rfl rfl ?_ | refine EvC.region rfl ?_ | refine EvO.nil ?_ | refine at_normal ?_ | refine EvC.skip ?_ | refine be_normal ?_ | refine ro_normal ?_ | refine EvO.cons rfl rfl rfl (EvP.add64 rfl rfl (by omega) ?_))
            exact ⟨c.length - (i + 1), by omega, rfl, i + 1, x, _, by omega, rfl, hL, hold ⟨rfl, rfl, rfl, rfl, rfl, trivial⟩⟩
        · have hb : left = 0 := by simpa using hb
          rw [if_neg (fun e => e.1 hb)] at hL
          repeat (first | refine EvO.plain rfl rfl rfl rfl rfl rfl ?_ | refine EvO.nil ?_ | refine at_normal ?_ | refine EvO.off rfl rfl rfl ?_)
          refine EvC.cond (t := false) rfl (fun e => nomatch e) (fun _ => ?_)
          repeat (first | refine EvO.plain rfl rfl rfl rfl rfl rfl ?_ | refine EvC.region rfl ?_ | refine EvO.nil ?_ | refine at_normal ?_ | refine EvC.skip ?_ | refine be_normal ?_ | refine ro_normal ?_ | refine EvO.cons rfl rfl rfl (EvP.add64 rfl rfl (by omega) ?_))
          exact ⟨c.length - (i + 1), by omega, rfl, i + 1, x, _, by omega, rfl, hL, hold ⟨rfl, rfl, rfl, rfl, rfl, trivial⟩⟩
    · have hend : i = c.length := by omega
      rw [hend, List.drop_length, lookG] at hL
      repeat (first | refine EvO.plain rfl rfl rfl rfl rfl rfl ?_ | refine EvC.seq ?_ | refine EvC.region rfl ?_ | refine EvO.nil ?_ | refine at_normal ?_ | refine EvC.ret ?_ | refine EvC.exit ?_ | refine at_exit ?_ | refine be_same rfl ?_ | refine ro_exit ?_)
      (refine ret_are (vs := [.int .i64 left, .bool (left == 0)]) rfl rfl ?_)
      exact ⟨rfl, by rw [hL]; rfl⟩
end Pf
end Go.Proofs.YtfjloafebkjadaaGreatDoor
namespace Go.Proofs.YtfjloafebkjadaaGreatDoor
namespace Pf
open Go Go.AI Go.Proofs
variable {gt : Tree (List AV)}
def valI (n : Nat) (tr : List Int) (i : Nat) : List AV := (List.range (n + 1)).map fun v : Nat => AV.int .i8 (if (tr.take i).any (fun x => max x (-x) == (v : Int)) then 0 else ofT tr v)
theorem valI_zero (n : Nat) (tr : List Int) : valI n tr 0 = valT n tr := by simp [valI, valT]
theorem valI_at {n : Nat} {tr : List Int} {i v : Nat} (hv : v < n + 1) : (valI n tr i)[v]? = some (.int .i8 (if (tr.take i).any (fun x => max x (-x) == (v : Int)) then 0 else ofT tr v)) := by simp [valI, hv]
theorem valI_succ {n : Nat} {tr : List Int} {i : Nat} (hi : i < tr.length) (ho : ok n (tr.getD i 0)) : (valI n tr i).set (max (tr.getD i 0) (-tr.getD i 0)).toNat (.int .i8 0) = valI n tr (i + 1) := by
  obtain ⟨h0, h1, h2⟩ := ho
  apply List.ext_getElem?
  intro v
  rw [List.getElem?_set]
  by_cases hv : v < n + 1
  · rw [valI_at hv, valI_at hv]
    have ht : tr.take (i + 1) = tr.take i ++ [tr.getD i 0] := by
      rw [List.take_add_one, List.getD_eq_getElem?_getD, List.getElem?_eq_getElem hi]; rfl
    by_cases e : (max (tr.getD i 0) (-tr.getD i 0)).toNat = v
    · rw [if_pos e, if_pos (by show _ < (List.map _ (List.range (n + 1))).length; rw [List.length_map, List.length_range]; omega), ht]
      have : (max (tr.getD i 0) (-tr.getD i 0)) = (v : Int) := by omega
      simp only [List.any_append, List.any_cons, List.any_nil, Bool.or_false, this, beq_self_eq_true, Bool.or_true, if_true]
    · rw [if_neg e, ht]
      have : ¬ (max (tr.getD i 0) (-tr.getD i 0)) = (v : Int) := by omega
      simp only [List.any_append, List.any_cons, List.any_nil, Bool.or_false, beq_eq_false_iff_ne.2 this]
  · have : ∀ j, (valI n tr j)[v]? = none := fun j => by rw [List.getElem?_eq_none]; simp [valI]; omega
    rw [this, this]
    split
    · rw [if_neg (by show ¬ _ < (List.map _ (List.range (n + 1))).length; rw [List.length_map, List.length_range]; omega)]
    · rfl
theorem valI_end {n : Nat} {tr : List Int} : valI n tr tr.length = valT n [] := by
  apply List.ext_getElem?
  intro v
  by_cases hv : v < n + 1
  · rw [valI_at hv, valT_at hv, List.take_length]
    congr 2
    split
    · rfl
    · rename_i h
      rw [List.any_eq_true] at h
      have h0 : ofT [] (v : Int) = 0 := rfl
      rw [h0, ofT_zero]
      refine ⟨fun hm => h ⟨v, hm, ?_⟩, fun hm => h ⟨-v, hm, ?_⟩⟩
      · rw [beq_iff_eq]; omega
      · rw [beq_iff_eq]; omega
  · rw [List.getElem?_eq_none (by simp [valI]; omega), List.getElem?_eq_none (by simp [valT]; omega)]
theorem Vec.cut0 {col : Nat → Nat} {c : Nat} {h : AH} {m : Nat} {v : AV} {cs : List AV} (V : Vec col c h 3 1 v m cs) : ∃ v', aslice (TT gt) h 35 v none (some (.int .i64 0)) none = some v' ∧ Vec col c h 3 1 v' 0 [] := by
  have b0 : ∀ len cap : Nat, bounds len cap none (some (.int .i64 0)) none = some (0, 0, cap) := fun len cap => by
    simp [bounds, optBound, bound]
  cases V with
  | nil => exact ⟨.nilSlice, rfl, .nil⟩
  | @mk id _ cap ex _ tail hg hc hn hx =>
    cases ex with
    | true =>
      refine ⟨.slice id 0 0 cap true, ?_, .mk (cs := []) (tail := cs ++ tail) hg hc (by simp) (fun e => ⟨Nat.zero_le _, (hx rfl).2⟩)⟩
      show cut id 0 1 (bounds m cap none (some (.int .i64 0)) none) = _
      rw [b0]
      simp [cut]
    | false =>
      refine ⟨.slice id 0 0 0 false, ?_, .mk (cs := []) (tail := cs ++ tail) hg hc (by simp) (fun e => by cases e)⟩
      show (match some ti3, ownOf h id with
        | some ie, some (cs, el) =>
          if ie.size = 0 ∨ szOf (TT gt) el ≠ ie.size ∨ cs.length < 0 then none else
          match bounds m ((cs.length - 0) / ie.size) none (some (.int .i64 0)) none with
          | some (l, hi, mm) => if (cs.length - 0) / ie.size < hi then none else if l = (cs.length - 0) / ie.size ∧ 0 < l then some AV.eslice else some (AV.slice id (0 + l * ie.size) (hi - l) 0 false)
          | none => none
        | _, _ => none) = _
      have hs : szOf (TT gt) 3 = 1 := rfl
      have h1 : ti3.size = 1 := rfl
      simp only [ownOf, hg, hs, h1, b0]
      simp
/-- What the clauses and their uses are like. -/
structure WFc (n : Nat) (S : Ch) : Prop where
  oks : ∀ c ∈ S.all, ∀ l ∈ c, ok n l
  short : ∀ c ∈ S.all, c.length ≤ 2 ^ 50
  many : S.all.length ≤ 2 ^ 30
  use1 : ∀ l, ok n l → ∀ k, k < S.all.length → l ∈ S.all.getD k [] → (k : Int) ∈ S.uses.getD (ix l).toNat []
  use2 : ∀ j, ∀ u ∈ S.uses.getD j [], ∃ k : Nat, u = k ∧ k < S.all.length
  ulen : ∀ j, (S.uses.getD j []).length ≤ 2 ^ 50
theorem ix_rng {n : Nat} {l : Int} (h : ok n l) : 0 ≤ ix l ∧ ix l < 2 * (n : Int) + 2 := by
  obtain ⟨h0, h1, h2⟩ := h
  unfold ix; split <;> omega
theorem ok_neg {n : Nat} {l : Int} (h : ok n l) : ok n (-l) := ⟨by have := h.1; omega, by have := h.2.2; omega, by have := h.2.1; omega⟩
/-- Is settled, or a literal from a place on speaks against it. -/
def pend (tr : List Int) (head : Nat) (c : List Int) : Prop := settled tr c ∨ ∃ j, head ≤ j ∧ j < tr.length ∧ -(tr.getD j 0) ∈ c
theorem getD_push {tr : List Int} {x : Int} {j : Nat} (hj : j < tr.length) : (tr ++ [x]).getD j 0 = tr.getD j 0 := by
  rw [List.getD_eq_getElem?_getD, List.getD_eq_getElem?_getD, List.getElem?_append_left hj]
theorem pend_push {tr : List Int} {head : Nat} {c : List Int} (h : pend tr head c) (hh : head ≤ tr.length) (x : Int) : pend (tr ++ [x]) head c := by
  rcases h with h | ⟨j, h1, h2, h3⟩
  · by_cases hx : -x ∈ c
    · refine .inr ⟨tr.length, hh, by simp, ?_⟩
      rw [List.getD_eq_getElem?_getD, List.getElem?_append_right (Nat.le_refl _)]
      simpa using hx
    · exact .inl (settled_push h hx)
  · exact .inr ⟨j, h1, by simp; omega, by rw [getD_push h2]; exact h3⟩
theorem good_nil {n : Nat} {all : List (List Int)} {taken : List Int} : Good n all taken [] where
  oks := fun x hx => by cases hx
  cons := fun x hx => by cases hx
  nodup := List.nodup_nil
  der := fun x hx => by cases hx
/-- Why a literal was taken, when so many were. -/
def Rsn (all : List (List Int)) (taken tr : List Int) (l w : Int) : Prop := (w = -1 ∧ l ∈ taken) ∨ ∃ k : Nat, w = k ∧ k < all.length ∧ l ∈ all.getD k [] ∧ ∀ y ∈ all.getD k [], y ≠ l → -y ∈ tr
def Why (n : Nat) (all : List (List Int)) (taken tr w : List Int) : Prop := w.length = n + 1 ∧ ∀ i, i < tr.length → Rsn all taken (tr.take i) (tr.getD i 0) (w.getD (max (tr.getD i 0) (-tr.getD i 0)).toNat 0)
theorem Why.push {n : Nat} {all : List (List Int)} {taken tr w : List Int} (y : Why n all taken tr w) {l v : Int} (hl : ok n l) (hf : ofT tr l = 0) (hr : Rsn all taken tr l v) : Why n all taken (tr ++ [l]) (w.set (max l (-l)).toNat v) := by
  obtain ⟨y1, y2⟩ := y
  have hOB := ofT_zero.1 hf
  obtain ⟨f1, f2⟩ := hOB
  have hl' := hl
  obtain ⟨o0, o1, o2⟩ := hl'
  refine ⟨by simp [y1], fun i hi => ?_⟩
  have hOB := Nat.lt_or_ge i tr.length
  rcases hOB with h | h
  · have e1 : (tr ++ [l]).take i = tr.take i := List.take_append_of_le_length (by omega)
    have hm : tr.getD i 0 ∈ tr := getD_mem h
    have hne1 : tr.getD i 0 ≠ l := fun e => f1 (e ▸ hm)
    have hne2 : tr.getD i 0 ≠ -l := fun e => f2 (e ▸ hm)
    rw [e1, getD_push h]
    have h3 := y2 i h
    generalize tr.getD i 0 = z at *
    have hj : (max l (-l)).toNat ≠ (max z (-z)).toNat := by omega
    generalize (max z (-z)).toNat = a at *
    have e2 : (w.set (max l (-l)).toNat v).getD a 0 = w.getD a 0 := by
      rw [List.getD_eq_getElem?_getD, List.getD_eq_getElem?_getD, List.getElem?_set_ne hj]
    rw [e2]
    exact h3
  · have hOB : i = tr.length := by simp at hi; omega
    obtain rfl := hOB
    have e1 : (tr ++ [l]).take tr.length = tr := by rw [List.take_append_of_le_length (Nat.le_refl _), List.take_length]
    have e2 : (tr ++ [l]).getD tr.length 0 = l := by simp
    rw [e1, e2]
    have e3 : (w.set (max l (-l)).toNat v).getD (max l (-l)).toNat 0 = v := by
      rw [List.getD_eq_getElem?_getD, List.getElem?_set_self (by rw [y1]; omega)]; rfl
    rw [e3]; exact hr
/-- What holds at any time: where it lies, and what the trail is like. -/
def St (G h : AH) (n : Nat) (V : Lay) (S : Ch) (taken tr : List Int) : Prop := ∃ col tv w, ChAt G h col n { V with tv := tv } { S with trail := tr, why := w } ∧ Good n S.all taken tr ∧ Why n S.all taken tr w
theorem take_st {G h : AH} {n : Nat} {V : Lay} {S : Ch} {taken tr : List Int} (C : St G h n V S taken tr) (l w : Int) (hl : ok n l) :
    EvF (TT gt) X 90 [.ptr V.p 0, .int .i64 l, .int .i64 w] h (fun r h' => (l ∈ tr ∧ r = .bool true ∧ St G h' n V S taken tr) ∨ (-l ∈ tr ∧ r = .bool false ∧ St G h' n V S taken tr) ∨
      (ofT tr l = 0 ∧ r = .bool true ∧ (Der S.all taken l → Rsn S.all taken tr l w → St G h' n V S taken (tr ++ [l])))) := by
  obtain ⟨col, tv, w0, C, g, y⟩ := C
  have hlen := g.len
  have hs := C.sml
  refine EvF.mono (take_spec C l w hl g.cons (by show tr.length ≤ 2000000; omega)) ?_
  rintro r h' _ (⟨h1, rfl, rfl⟩ | ⟨h1, rfl, col', tv', C'⟩)
  · have hOB := ofT_rng tr l
    rcases hOB with h3 | h3 | h3
    · exact .inl ⟨ofT_one.1 h3, by show AV.bool (decide (ofT tr l > 0)) = _; rw [h3]; rfl, col, tv, w0, C, g, y⟩
    · exact .inr (.inl ⟨ofT_neg1 h3, by show AV.bool (decide (ofT tr l > 0)) = _; rw [h3]; rfl, col, tv, w0, C, g, y⟩)
    · exact absurd h3 h1
  · exact .inr (.inr ⟨h1, rfl, fun hd hr => ⟨col', tv', _, C', g.push hl h1 hd, y.push hl h1 hr⟩⟩)
set_option maxHeartbeats 4000000 in
theorem clash_specW {G h : AH} {col : Nat → Nat} {n : Nat} {V : Lay} {S : Ch} (C : ChAt G h col n V S) (W : WFc n S) (hok : ∀ x ∈ S.trail, ok n x) (hlen : S.trail.length ≤ n) {taken : List Int} {tk : AV} (row : IntRow G tk taken) (htk : ∀ x ∈ taken, ok n x) (htl : taken.length ≤ 2 ^ 50) :
    EvF (TT gt) X 59 [.ptr V.p 0, tk] h (fun r h' => ∃ k col' tv tr' why', r = .int .i64 k ∧ (k = -1 ↔ ¬ Clash S.all taken) ∧ ChAt G h' col' n { V with tv := tv } { S with trail := tr', why := why' } ∧ Good n S.all taken tr' ∧ Why n S.all taken tr' why' ∧ (k = -2 → ∃ x ∈ taken, -x ∈ taken) ∧ (k ≠ -1 → k ≠ -2 → ∃ j : Nat, k = j ∧ j < S.all.length ∧ ∀ y ∈ S.all.getD j [], -y ∈ tr')) := by
  have hs := C.sml
  have f0 := C.fld (gt := gt) (t := 35) (off := 3) rfl rfl rfl
  have ln := C.trail.row.len (T := TT gt) (t := 35) rfl
  refine EvF.enter rfl rfl rfl ?_
  repeat (first | refine EvO.plain rfl rfl rfl rfl rfl rfl ?_ | refine EvO.plain rfl rfl rfl rfl rfl (by assumption) ?_ | refine EvC.seq ?_ | refine EvC.region rfl ?_ | refine EvO.nil ?_ | refine at_normal ?_ | refine EvC.block ?_)
  clear f0 ln
  refine EvC.loop (fun m σ h' => ∃ (i : Nat) (E : Nat → AV), ChM G h' col n V S (valI n S.trail i) ∧ i ≤ S.trail.length ∧ m = S.trail.length - i ∧ σ = upds [(0, .ptr V.p 0), (1, tk), (20, V.tv), (21, .int .i64 S.trail.length), (22, .int .i64 i)] E) (S.trail.length) ?_ ?_
  · exact ⟨0, _, by rw [valI_zero]; exact C, Nat.zero_le _, rfl, hold ⟨rfl, rfl, rfl, rfl, rfl, trivial⟩⟩
  · rintro m _ h1 ⟨i, E, C1, hi, rfl, rfl⟩
    repeat (first | refine EvO.plain rfl rfl rfl rfl rfl rfl ?_ | refine EvC.seq ?_ | refine EvC.region rfl ?_ | refine EvO.nil ?_ | refine at_normal ?_)
    refine EvC.decide rfl (fun hc => ?_) (fun hc => ?_)
    · have hlt : i < S.trail.length := by omega
      have hoi := hok _ (getD_mem hlt)
      obtain ⟨o0, o1, o2⟩ := hoi
      have hOB := C1.trail.at1 (T := TT gt) (t := 35) (k := .i64) (i := i) rfl rfl rfl rfl (by omega) (by omega)
      obtain ⟨p, u, a1, a2, a3⟩ := hOB
      have hu : u = .int .i64 (S.trail.getD i 0) := by
        rw [Int.toNat_natCast, List.getElem?_map, List.getElem?_eq_getElem hlt] at a3
        rw [List.getD_eq_getElem?_getD, List.getElem?_eq_getElem hlt]
        simpa using a3.symm
      subst hu
      have f1 := C1.fld (gt := gt) (t := 107) (off := 1) rfl rfl rfl
      have hOB := C1.val.at1 (T := TT gt) (t := 107) (k := .i64) (i := max (S.trail.getD i 0) (-S.trail.getD i 0)) rfl rfl rfl rfl (by omega) (by omega)
      obtain ⟨q, u', b1, b2, b3⟩ := hOB
      clear b2 b3 a3
      repeat (first | refine EvO.plain rfl rfl rfl rfl rfl rfl ?_ | refine EvO.plain rfl rfl rfl rfl rfl (by assumption) ?_ | refine EvC.seq ?_ | refine EvC.region rfl ?_ | refine EvO.nil ?_ | refine at_normal ?_ | refine EvC.skip ?_ | refine EvC.block ?_ | refine EvO.cons rfl rfl rfl (EvP.neg64 rfl (by omega) ?_) | refine EvO.cons rfl rfl rfl (EvP.max rfl rfl rfl rfl ?_))
      refine EvO.cons0 rfl rfl (EvP.setV (T := TT gt) (t := 107) (u := .int .i8 0) C1.hs C1.val (by decide) rfl rfl rfl (by omega) (by omega) b1 rfl rfl rfl rfl (fun h2 A2 S2 V2 _ => ?_))
      rw [valI_succ hlt ⟨o0, o1, o2⟩] at V2
      have C2 := C1.setVal A2 S2 V2
      clear a1 a2 b1 f1
      repeat (first | refine EvO.plain rfl rfl rfl rfl rfl rfl ?_ | refine EvC.region rfl ?_ | refine EvO.nil ?_ | refine at_normal ?_ | refine be_normal ?_ | refine ro_normal ?_ | refine EvO.cons rfl rfl rfl (EvP.add64 rfl rfl (by omega) ?_))
      exact ⟨S.trail.length - (i + 1), by omega, i + 1, _, C2, by omega, rfl, hold ⟨rfl, rfl, rfl, rfl, rfl, trivial⟩⟩
    · have hend : i = S.trail.length := by omega
      subst hend
      rw [valI_end] at C1
      have C2 := C1
      clear C C1
      have f3 := C2.fld (gt := gt) (t := 35) (off := 3) rfl rfl rfl
      have hOB := Vec.cut0 (gt := gt) C2.trail
      obtain ⟨tv, c1, V3⟩ := hOB
      repeat (first | refine EvO.plain rfl rfl rfl rfl rfl rfl ?_ | refine EvO.plain rfl rfl rfl rfl rfl (by assumption) ?_ | refine EvC.seq ?_ | refine EvC.region rfl ?_ | refine at_normal ?_ | refine EvC.exit ?_ | refine at_exit ?_ | refine be_same rfl ?_ | refine ro_exit ?_)
      refine EvO.cons0 rfl rfl (EvP.store1 (u := tv) C2.hs 1 C2.obj C2.cp (by decide) rfl rfl rfl rfl V3.sc (by show 3 < 5; decide) (fun h3 A3 S3 o3 _ _ => ?_))
      have C3 := C2.setTrail (tr := []) (tv := tv) (Step.refl C2.hs) V3 A3 S3 o3
      have ln := (row.mono C3.hs.le).len (T := TT gt) (t := 35) rfl
      clear f3 c1 C2
      repeat (first | refine EvO.plain rfl rfl rfl rfl rfl rfl ?_ | refine EvO.plain rfl rfl rfl rfl rfl (by assumption) ?_ | refine EvC.seq ?_ | refine EvC.region rfl ?_ | refine EvO.nil ?_ | refine at_normal ?_ | refine EvC.block ?_)
      have T0 : St G h3 n V S taken [] := ⟨_, tv, _, C3, good_nil, by have := C3.why.count; simpa using this, fun i hi => absurd hi (Nat.not_lt_zero _)⟩
      clear C3 o3 A3 S3 V3 ln
      refine EvC.loop (fun m σ h' => ∃ (i : Nat) (tr : List Int) (E : Nat → AV), St G h' n V S taken tr ∧ (∀ j, j < i → taken.getD j 0 ∈ tr) ∧ (∀ x ∈ tr, x ∈ taken) ∧ i ≤ taken.length ∧ m = taken.length - i ∧ σ = upds [(0, .ptr V.p 0), (1, tk), (44, tk), (45, .int .i64 taken.length), (46, .int .i64 i)] E) (taken.length) ?_ ?_
      · exact ⟨0, [], _, T0, fun j hj => by omega, fun x hx => (nomatch hx), Nat.zero_le _, rfl, hold ⟨rfl, rfl, rfl, rfl, rfl, trivial⟩⟩
      · rintro m _ h4 ⟨i, tr, E, T1, hin, hback, hi, rfl, rfl⟩
        clear T0
        repeat (first | refine EvO.plain rfl rfl rfl rfl rfl rfl ?_ | refine EvC.seq ?_ | refine EvC.region rfl ?_ | refine EvO.nil ?_ | refine at_normal ?_)
        refine EvC.decide rfl (fun hc => ?_) (fun hc => ?_)
        · have hlt : i < taken.length := by omega
          have row4 : IntRow h4 tk taken := by obtain ⟨_, _, _, C, _⟩ := T1; exact row.mono C.hs.le
          have hOB := row4.at1 (T := TT gt) (t := 35) (e := 3) rfl rfl rfl rfl (k := .i64) (i := i) (by omega) (by omega)
          obtain ⟨q, b1, b2⟩ := hOB
          rw [Int.toNat_natCast] at b2
          repeat (first | refine EvO.plain rfl rfl rfl rfl rfl rfl ?_ | refine EvO.plain rfl rfl rfl rfl rfl (by assumption) ?_ | refine EvC.seq ?_ | refine EvC.region rfl ?_ | refine EvO.nil ?_ | refine at_normal ?_ | refine EvC.skip ?_ | refine EvC.block ?_)
          (refine EvO.cons rfl rfl rfl (EvP.callF rfl rfl rfl rfl (EvF.mono (take_st T1 (taken.getD i 0) (-1) (htk _ (getD_mem hlt))) ?_)))
          rintro _ h5 _ (⟨e1, rfl, T2⟩ | ⟨e1, rfl, T2⟩ | ⟨e1, rfl, T2⟩)
          · repeat (first | refine EvO.plain rfl rfl rfl rfl rfl rfl ?_ | refine EvO.nil ?_ | refine at_normal ?_)
            refine EvC.cond (t := false) rfl (fun e => nomatch e) (fun _ => ?_)
            repeat (first | refine EvO.plain rfl rfl rfl rfl rfl rfl ?_ | refine EvC.region rfl ?_ | refine EvO.nil ?_ | refine at_normal ?_ | refine EvC.skip ?_ | refine be_normal ?_ | refine ro_normal ?_ | refine EvO.cons rfl rfl rfl (EvP.add64 rfl rfl (by omega) ?_))
            exact ⟨taken.length - (i + 1), by omega, i + 1, tr, _, T2, fun j hj => by
              have hOB := Nat.lt_or_ge j i
              rcases hOB with h | h
              · exact hin j h
              · have hOB : j = i := by omega
                obtain rfl := hOB
                exact e1, hback, by omega, rfl, hold ⟨rfl, rfl, rfl, rfl, rfl, trivial⟩⟩
          · repeat (first | refine EvO.plain rfl rfl rfl rfl rfl rfl ?_ | refine EvO.nil ?_ | refine at_normal ?_)
            refine EvC.cond (t := true) rfl (fun _ => ?_) (fun e => nomatch e)
            repeat (first | refine EvO.plain rfl rfl rfl rfl rfl rfl ?_ | refine EvC.seq ?_ | refine EvC.region rfl ?_ | refine EvO.nil ?_ | refine at_normal ?_ | refine EvC.ret ?_ | refine at_ret ?_ | refine be_ret ?_ | refine ro_ret ?_)
            (refine ret_is (v := .int .i64 (-2)) rfl rfl ?_)
            obtain ⟨col2, tv2, w2, C2, g2, y2⟩ := T2
            exact ⟨-2, col2, tv2, tr, w2, rfl, ⟨fun e => (by cases e), fun e => (e (.inl ⟨_, .tak (getD_mem hlt), g2.der _ e1⟩)).elim⟩, C2, g2, y2, fun _ => ⟨_, getD_mem hlt, hback _ e1⟩, fun _ e => absurd rfl e⟩
          · repeat (first | refine EvO.plain rfl rfl rfl rfl rfl rfl ?_ | refine EvO.nil ?_ | refine at_normal ?_)
            refine EvC.cond (t := false) rfl (fun e => nomatch e) (fun _ => ?_)
            repeat (first | refine EvO.plain rfl rfl rfl rfl rfl rfl ?_ | refine EvC.region rfl ?_ | refine EvO.nil ?_ | refine at_normal ?_ | refine EvC.skip ?_ | refine be_normal ?_ | refine ro_normal ?_ | refine EvO.cons rfl rfl rfl (EvP.add64 rfl rfl (by omega) ?_))
            exact ⟨taken.length - (i + 1), by omega, i + 1, tr ++ [taken.getD i 0], _, T2 (.tak (getD_mem hlt)) (.inl ⟨rfl, getD_mem hlt⟩), fun j hj => by
              have hOB := Nat.lt_or_ge j i
              rcases hOB with h | h
              · exact List.mem_append_left _ (hin j h)
              · have hOB : j = i := by omega
                obtain rfl := hOB
                simp, fun x hx => (List.mem_append.1 hx).elim (hback x) (fun h => by rw [List.mem_singleton.1 h]; exact getD_mem hlt), by omega, rfl, hold ⟨rfl, rfl, rfl, rfl, rfl, trivial⟩⟩
        · have hend : i = taken.length := by omega
          subst hend
          have hsub : ∀ x ∈ taken, x ∈ tr := fun x hx => by
            have hOB := List.getElem_of_mem hx
            obtain ⟨j, hj, rfl⟩ := hOB
            have := hin j hj
            rwa [List.getD_eq_getElem?_getD, List.getElem?_eq_getElem hj, Option.getD_some] at this
          clear hin row
          have fl : aload (TT gt) h4 22 (.ptr V.p 0) = some V.av ∧ alen (TT gt) h4 22 V.av = some (.int .i64 S.all.length) := by
            obtain ⟨_, _, _, C, _⟩ := T1
            exact ⟨C.fld (gt := gt) (t := 22) (off := 0) rfl rfl rfl, C.all.row.len (T := TT gt) (t := 22) rfl⟩
          obtain ⟨f5, f6⟩ := fl
          repeat (first | refine EvO.plain rfl rfl rfl rfl rfl rfl ?_ | refine EvO.plain rfl rfl rfl rfl rfl (by assumption) ?_ | refine EvC.seq ?_ | refine EvC.region rfl ?_ | refine EvO.nil ?_ | refine at_normal ?_ | refine EvC.block ?_ | refine EvC.exit ?_ | refine at_exit ?_ | refine be_same rfl ?_ | refine ro_exit ?_)
          clear f5 f6
          have hm := W.many
          refine EvC.loop (fun m σ h' => ∃ (k : Nat) (tr : List Int) (E : Nat → AV), St G h' n V S taken tr ∧ (∀ x ∈ taken, x ∈ tr) ∧ (∀ j, j < k → pend tr 0 (S.all.getD j [])) ∧ k ≤ S.all.length ∧ m = S.all.length - k ∧ σ = upds [(0, .ptr V.p 0), (59, .int .i64 S.all.length), (60, .int .i64 k)] E) (S.all.length) ?_ ?_
          · exact ⟨0, tr, _, T1, hsub, fun j hj => by omega, Nat.zero_le _, rfl, hold ⟨rfl, rfl, rfl, trivial⟩⟩
          · rintro m _ h5 ⟨k, tr, E, T2, hsub, hp, hk, rfl, rfl⟩
            clear T1
            repeat (first | refine EvO.plain rfl rfl rfl rfl rfl rfl ?_ | refine EvC.seq ?_ | refine EvC.region rfl ?_ | refine EvO.nil ?_ | refine at_normal ?_)
            refine EvC.decide rfl (fun hc => ?_) (fun hc => ?_)
            · have hlt : k < S.all.length := by omega
              have hcm := getDL_mem hlt
              have hL : EvF (TT gt) X 91 [.ptr V.p 0, .int .i64 k] h5 (fun r h' => h' = h5 ∧ r = .tuple [.int .i64 (lookG tr 0 (S.all.getD k [])).1, .bool (lookG tr 0 (S.all.getD k [])).2]) := by
                obtain ⟨_, _, _, C, g, _⟩ := T2
                exact look_spec C k hlt (W.oks _ hcm) g.cons (W.short _ hcm)
              repeat (first | refine EvO.plain rfl rfl rfl rfl rfl rfl ?_ | refine EvC.seq ?_ | refine EvC.region rfl ?_ | refine EvO.nil ?_ | refine at_normal ?_ | refine EvC.skip ?_ | refine EvC.block ?_)
              (refine EvO.cons rfl rfl rfl (EvP.callF rfl rfl rfl rfl (EvF.mono (hL) ?_)))
              rintro _ _ _ ⟨rfl, rfl⟩
              have h0 : (0 : Int) ∉ S.all.getD k [] := fun e => (W.oks _ hcm 0 e).1 rfl
              have hOB := look_three (tr := tr) h0
              rcases hOB with ⟨e, hset⟩ | ⟨e, hall⟩ | ⟨l, hl0, e, hlc, hl1, hl2⟩
              · rw [e]
                repeat (first | refine EvO.plain rfl rfl rfl rfl rfl rfl ?_ | refine EvC.seq ?_ | refine EvC.region rfl ?_ | refine EvO.nil ?_ | refine at_normal ?_)
                refine EvC.cond (t := false) rfl (fun e => nomatch e) (fun _ => ?_)
                repeat (first | refine EvO.plain rfl rfl rfl rfl rfl rfl ?_ | refine EvC.seq ?_ | refine EvC.region rfl ?_ | refine EvO.nil ?_ | refine at_normal ?_)
                refine EvC.cond (t := false) rfl (fun e => nomatch e) (fun _ => ?_)
                repeat (first | refine EvO.plain rfl rfl rfl rfl rfl rfl ?_ | refine EvC.region rfl ?_ | refine EvO.nil ?_ | refine at_normal ?_ | refine EvC.skip ?_ | refine be_normal ?_ | refine ro_normal ?_ | refine EvO.cons rfl rfl rfl (EvP.add64 rfl rfl (by omega) ?_))
                exact ⟨S.all.length - (k + 1), by omega, k + 1, tr, _, T2, hsub, fun j hj => by
                  have hOB := Nat.lt_or_ge j k
                  rcases hOB with h | h
                  · exact hp j h
                  · have hOB : j = k := by omega
                    obtain rfl := hOB
                    exact .inl hset, by omega, rfl, hold ⟨rfl, rfl, rfl, trivial⟩⟩
              · rw [e]
                repeat (first | refine EvO.plain rfl rfl rfl rfl rfl rfl ?_ | refine EvC.seq ?_ | refine EvC.region rfl ?_ | refine EvO.nil ?_ | refine at_normal ?_)
                refine EvC.cond (t := true) rfl (fun _ => ?_) (fun e => nomatch e)
                repeat (first | refine EvO.plain rfl rfl rfl rfl rfl rfl ?_ | refine EvC.seq ?_ | refine EvC.region rfl ?_ | refine EvO.nil ?_ | refine at_normal ?_ | refine EvC.ret ?_ | refine at_ret ?_ | refine be_ret ?_ | refine ro_ret ?_)
                (refine ret_is (v := .int .i64 k) rfl rfl ?_)
                obtain ⟨col2, tv2, w2, C2, g2, y2⟩ := T2
                exact ⟨k, col2, tv2, tr, w2, rfl, ⟨fun e => (by omega), fun e => (e (.inr ⟨_, hcm, fun y hy => g2.der _ (hall y hy)⟩)).elim⟩, C2, g2, y2, fun e => by omega, fun _ _ => ⟨k, rfl, hlt, hall⟩⟩
              · rw [e]
                repeat (first | refine EvO.plain rfl rfl rfl rfl rfl rfl ?_ | refine EvC.seq ?_ | refine EvC.region rfl ?_ | refine EvO.nil ?_ | refine at_normal ?_)
                refine EvC.cond (t := false) rfl (fun e => nomatch e) (fun _ => ?_)
                repeat (first | refine EvO.plain rfl rfl rfl rfl rfl rfl ?_ | refine EvC.seq ?_ | refine EvC.region rfl ?_ | refine EvO.nil ?_ | refine at_normal ?_)
                refine EvC.cond (t := true) (isT (bne_true hl0)) (fun _ => ?_) (fun e => nomatch e)
                have hd : Der S.all taken l := by
                  obtain ⟨_, _, _, C, g, _⟩ := T2
                  exact .unit hcm hlc fun y hy hne => g.der _ (hl2 y hy hne)
                repeat (first | refine EvO.plain rfl rfl rfl rfl rfl rfl ?_ | refine EvC.region rfl ?_)
                (refine EvO.cons rfl rfl rfl (EvP.callF rfl rfl rfl rfl (EvF.mono (take_st T2 l k (W.oks _ hcm l hlc)) ?_)))
                rintro _ h6 _ (⟨e1, _, T3⟩ | ⟨e1, _, T3⟩ | ⟨e1, rfl, T3⟩)
                · exact absurd e1 (ofT_zero.1 hl1).1
                · exact absurd e1 (ofT_zero.1 hl1).2
                · repeat (first | refine EvO.plain rfl rfl rfl rfl rfl rfl ?_ | refine EvC.region rfl ?_ | refine EvO.nil ?_ | refine at_normal ?_ | refine be_normal ?_ | refine ro_normal ?_ | refine EvO.cons rfl rfl rfl (EvP.add64 rfl rfl (by omega) ?_))
                  exact ⟨S.all.length - (k + 1), by omega, k + 1, tr ++ [l], _, T3 hd (.inr ⟨k, rfl, hlt, hlc, hl2⟩), fun x hx => List.mem_append_left _ (hsub x hx), fun j hj => by
                    have hOB := Nat.lt_or_ge j k
                    rcases hOB with h | h
                    · exact pend_push (hp j h) (Nat.zero_le _) l
                    · have hOB : j = k := by omega
                      obtain rfl := hOB
                      exact .inl (.inl ⟨l, hlc, by simp⟩), by omega, rfl, hold ⟨rfl, rfl, rfl, trivial⟩⟩
            · have hend : k = S.all.length := by omega
              subst hend
              have hp : ∀ c ∈ S.all, pend tr 0 c := fun c hc => by
                have hOB := List.getElem_of_mem hc
                obtain ⟨j, hj, rfl⟩ := hOB
                have := hp j hj
                rwa [List.getD_eq_getElem?_getD, List.getElem?_eq_getElem hj, Option.getD_some] at this
              repeat (first | refine EvO.plain rfl rfl rfl rfl rfl rfl ?_ | refine EvC.seq ?_ | refine EvC.region rfl ?_ | refine EvO.nil ?_ | refine at_normal ?_ | refine EvC.block ?_ | refine EvC.exit ?_ | refine at_exit ?_ | refine be_same rfl ?_ | refine ro_exit ?_)
              refine EvC.loop (fun m σ h' => ∃ (head : Nat) (tr : List Int) (E : Nat → AV), St G h' n V S taken tr ∧ (∀ x ∈ taken, x ∈ tr) ∧ (∀ c ∈ S.all, pend tr head c) ∧ head ≤ n ∧ m = n - head ∧ σ = upds [(0, .ptr V.p 0), (12, .int .i64 head)] E) (n) ?_ ?_
              · exact ⟨0, tr, _, T2, hsub, hp, Nat.zero_le _, rfl, hold ⟨rfl, rfl, trivial⟩⟩
              · clear T2 hsub hp
                rintro m _ h6 ⟨head, tr, E, T3, hsub, hp, hh, rfl, rfl⟩
                have T3' := T3
                obtain ⟨col3, tv3, w3, C3, g3, y3⟩ := T3'
                have f7 := C3.fld (gt := gt) (t := 35) (off := 3) rfl rfl rfl
                have f8 := C3.trail.row.len (T := TT gt) (t := 35) rfl
                have hlen3 := g3.len
                repeat (first | refine EvO.plain rfl rfl rfl rfl rfl rfl ?_ | refine EvO.plain rfl rfl rfl rfl rfl (by assumption) ?_ | refine EvC.seq ?_ | refine EvC.region rfl ?_ | refine EvO.nil ?_ | refine at_normal ?_)
                refine EvC.decide rfl (fun hc => ?_) (fun hc => ?_)
                · have hc : head < tr.length := by
                    have : (head : Int) < (tr.length : Nat) := hc
                    omega
                  have hoi := g3.oks _ (getD_mem hc)
                  have hni := ok_neg hoi
                  have hix := ix_rng hni
                  obtain ⟨o0, o1, o2⟩ := hoi
                  have hOB := C3.trail.at1 (T := TT gt) (t := 35) (k := .i64) (i := head) rfl rfl rfl rfl (by omega) (by show (head : Int) < (tr.length : Nat); omega)
                  obtain ⟨p, u, a1, a2, a3⟩ := hOB
                  have hu : u = .int .i64 (tr.getD head 0) := by
                    have a3 : (tr.map (AV.int .i64))[head]? = some u := a3
                    rw [List.getElem?_map, List.getElem?_eq_getElem hc] at a3
                    rw [List.getD_eq_getElem?_getD, List.getElem?_eq_getElem hc]
                    simpa using a3.symm
                  subst hu
                  clear a3
                  have f9 := C3.fld (gt := gt) (t := 22) (off := 4) rfl rfl rfl
                  have hOB := C3.use (ix (-tr.getD head 0)).toNat (by omega)
                  obtain ⟨U, hU, VU⟩ := hOB
                  have hOB := C3.uses.at1 (T := TT gt) (t := 22) (k := .i64) (i := ix (-tr.getD head 0)) rfl rfl rfl rfl (by omega) (by omega)
                  obtain ⟨p2, u2, c1, c2, c3⟩ := hOB
                  have hu2 : u2 = U := by
                    have c3 : V.ru[(ix (-tr.getD head 0)).toNat]? = some u2 := c3
                    have hU : V.ru[(ix (-tr.getD head 0)).toNat]? = some U := hU
                    rw [hU] at c3; simpa using c3.symm
                  subst hu2
                  have f10 := VU.row.len (T := TT gt) (t := 35) rfl
                  have hle : h6.le h6 := fun _ _ e => e
                  have q1 := C3.uses.veq
                  have q2 := C3.trail.veq
                  repeat (first | refine EvC.seq ?_ | refine at_normal ?_ | refine EvC.skip ?_ | refine EvC.block ?_)
                  refine EvC.drawnH 9 (h6) (p := [⟨0, false, 0, 1⟩, ⟨1, false, 0, 1⟩, ⟨2, false, 0, 1⟩, ⟨3, false, 0, 1⟩, ⟨4, false, 0, 0⟩, ⟨5, false, 0, 0⟩, ⟨6, false, 0, 0⟩, ⟨7, false, 0, 0⟩, ⟨8, false, 0, 0⟩, ⟨9, false, 0, 0⟩, ⟨10, false, 0, 0⟩, ⟨11, false, 0, 0⟩, ⟨16, false, 0, 1⟩, ⟨12, true, 0, 1⟩, ⟨13, false, 1, 1⟩, ⟨14, false, 1, 1⟩, ⟨15, false, 1, 1⟩]) rfl (by kernel_rfl) (by kernel_rfl) ?_
                  repeat (first | refine EvH.easy1 rfl rfl rfl rfl rfl rfl rfl rfl rfl rfl ?_ | refine EvH.easy1 rfl rfl rfl rfl rfl rfl rfl rfl rfl (by assumption) ?_ | refine EvH.easyG (by assumption) rfl rfl rfl rfl rfl rfl rfl rfl rfl rfl (by first | exact veq_s rfl | assumption) ?_ | refine EvH.easyG (by assumption) rfl rfl rfl rfl rfl rfl rfl rfl rfl (by assumption) (by first | exact veq_s rfl | assumption) ?_)
                  (refine EvH.quiet1 rfl rfl rfl rfl rfl rfl rfl rfl (neg64 (a := tr.getD head 0) (by omega)) ?_)
                  repeat (refine EvH.easyG (by assumption) rfl rfl rfl rfl rfl rfl rfl rfl rfl rfl (by first | exact veq_s rfl | assumption) ?_)
                  refine EvH.act rfl rfl rfl rfl rfl rfl rfl (EvP.callF rfl rfl rfl rfl (EvF.mono (index_spec (-tr.getD head 0) (by omega)) ?_))
                  rintro _ _ _ ⟨rfl, rfl⟩
                  refine ⟨fun _ => hle, ?_⟩
                  repeat (refine EvH.easy1 rfl rfl rfl rfl rfl rfl rfl rfl rfl (by assumption) ?_)
                  repeat (first | refine at_normal ?_ | refine EvC.block ?_ | refine EvH.nil ?_)
                  clear f7 f8 f9 f10 a1 a2 c1 c2 q1 q2
                  have hul := W.ulen (ix (-tr.getD head 0)).toNat
                  have hpq : ∀ k, k < S.all.length → pend tr (head + 1) (S.all.getD k []) ∨ (k : Int) ∈ (S.uses.getD (ix (-tr.getD head 0)).toNat []).drop 0 := fun k hk => by
                    have hOB := hp _ (getDL_mem hk)
                    rcases hOB with h | ⟨j, h1, h2, h3⟩
                    · exact .inl (.inl h)
                    · have hOB := Nat.lt_or_ge head j
                      rcases hOB with h4 | h4
                      · exact .inl (.inr ⟨j, h4, h2, h3⟩)
                      · have hOB : j = head := by omega
                        obtain rfl := hOB
                        exact .inr (W.use1 _ hni k hk h3)
                  have huse := W.use2 (ix (-tr.getD head 0)).toNat
                  have hVU : ∀ {h7 : AH} {tr7 : List Int}, St G h7 n V S taken tr7 → ∃ col7, Vec col7 (7 + (ix (-tr.getD head 0)).toNat) h7 3 1 u2 (S.uses.getD (ix (-tr.getD head 0)).toNat []).length ((S.uses.getD (ix (-tr.getD head 0)).toNat []).map (AV.int .i64)) := fun T7 => by
                    obtain ⟨col7, tv7, w7, C7, _⟩ := T7
                    have hOB := C7.use (ix (-tr.getD head 0)).toNat (by omega)
                    obtain ⟨U7, hU7, VU7⟩ := hOB
                    have hU7 : V.ru[(ix (-tr.getD head 0)).toNat]? = some U7 := hU7
                    have hU : V.ru[(ix (-tr.getD head 0)).toNat]? = some u2 := hU
                    rw [hU] at hU7
                    cases hU7
                    exact ⟨col7, VU7⟩
                  clear C3 VU hU
                  generalize S.uses.getD (ix (-tr.getD head 0)).toNat [] = us at *
                  clear hp
                  refine EvC.loop (fun m σ h' => ∃ (q : Nat) (tr : List Int) (E : Nat → AV), St G h' n V S taken tr ∧ (∀ x ∈ taken, x ∈ tr) ∧ (∀ k, k < S.all.length → pend tr (head + 1) (S.all.getD k []) ∨ (k : Int) ∈ us.drop q) ∧ head + 1 ≤ tr.length ∧ q ≤ us.length ∧ m = us.length - q ∧ σ = upds [(0, .ptr V.p 0), (12, .int .i64 head), (101, u2), (102, .int .i64 us.length), (103, .int .i64 q)] E) (us.length) ?_ ?_
                  · exact ⟨0, tr, _, T3, hsub, hpq, hc, Nat.zero_le _, rfl, hold ⟨rfl, rfl, rfl, rfl, rfl, trivial⟩⟩
                  · clear T3 hsub hpq hc g3 hlen3 o0 o1 o2 hni hix hle
                    rintro m _ h7 ⟨q, tr2, E, T4, hsub, hpq, hh2, hq, rfl, rfl⟩
                    repeat (first | refine EvO.plain rfl rfl rfl rfl rfl rfl ?_ | refine EvC.seq ?_ | refine EvC.region rfl ?_ | refine EvO.nil ?_ | refine at_normal ?_)
                    refine EvC.decide rfl (fun hcq => ?_) (fun hcq => ?_)
                    · have hlt : q < us.length := by omega
                      have hOB := hVU T4
                      obtain ⟨col7, VU7⟩ := hOB
                      have hOB := VU7.at1 (T := TT gt) (t := 35) (k := .i64) (i := q) rfl rfl rfl rfl (by omega) (by omega)
                      obtain ⟨p, u, a1, a2, a3⟩ := hOB
                      have hOB := huse _ (getD_mem hlt)
                      obtain ⟨k, hk1, hk2⟩ := hOB
                      have hu : u = .int .i64 k := by
                        rw [Int.toNat_natCast, List.getElem?_map, List.getElem?_eq_getElem hlt] at a3
                        rw [← hk1, List.getD_eq_getElem?_getD, List.getElem?_eq_getElem hlt]
                        simpa using a3.symm
                      subst hu
                      rw [getD_drop hlt, hk1] at hpq
                      clear a3
                      have hcm := getDL_mem hk2
                      have hL : EvF (TT gt) X 91 [.ptr V.p 0, .int .i64 k] h7 (fun r h' => h' = h7 ∧ r = .tuple [.int .i64 (lookG tr2 0 (S.all.getD k [])).1, .bool (lookG tr2 0 (S.all.getD k [])).2]) := by
                        obtain ⟨_, _, _, C, g, _⟩ := T4
                        exact look_spec C k hk2 (W.oks _ hcm) g.cons (W.short _ hcm)
                      repeat (first | refine EvO.plain rfl rfl rfl rfl rfl rfl ?_ | refine EvO.plain rfl rfl rfl rfl rfl (by assumption) ?_ | refine EvC.seq ?_ | refine EvC.region rfl ?_ | refine EvO.nil ?_ | refine at_normal ?_ | refine EvC.skip ?_ | refine EvC.block ?_)
                      (refine EvO.cons rfl rfl rfl (EvP.callF rfl rfl rfl rfl (EvF.mono (hL) ?_)))
                      rintro _ _ _ ⟨rfl, rfl⟩
                      have h0 : (0 : Int) ∉ S.all.getD k [] := fun e => (W.oks _ hcm 0 e).1 rfl
                      have next : ∀ {tr3 : List Int}, settled tr3 (S.all.getD k []) → (∀ k', k' < S.all.length → pend tr2 (head + 1) (S.all.getD k' []) → pend tr3 (head + 1) (S.all.getD k' [])) → ∀ k', k' < S.all.length → pend tr3 (head + 1) (S.all.getD k' []) ∨ (k' : Int) ∈ us.drop (q + 1) := fun hset hmono k' hk' => by
                        have hOB := hpq k' hk'
                        rcases hOB with h | h
                        · exact .inl (hmono k' hk' h)
                        · have hOB := List.mem_cons.1 h
                          rcases hOB with h | h
                          · have : k' = k := by omega
                            subst this
                            exact .inl (.inl hset)
                          · exact .inr h
                      have hOB := look_three (tr := tr2) h0
                      rcases hOB with ⟨e, hset⟩ | ⟨e, hall⟩ | ⟨l, hl0, e, hlc, hl1, hl2⟩
                      · rw [e]
                        repeat (first | refine EvO.plain rfl rfl rfl rfl rfl rfl ?_ | refine EvC.seq ?_ | refine EvC.region rfl ?_ | refine EvO.nil ?_ | refine at_normal ?_)
                        refine EvC.cond (t := false) rfl (fun e => nomatch e) (fun _ => ?_)
                        repeat (first | refine EvO.plain rfl rfl rfl rfl rfl rfl ?_ | refine EvC.seq ?_ | refine EvC.region rfl ?_ | refine EvO.nil ?_ | refine at_normal ?_)
                        refine EvC.cond (t := false) rfl (fun e => nomatch e) (fun _ => ?_)
                        repeat (first | refine EvO.plain rfl rfl rfl rfl rfl rfl ?_ | refine EvC.region rfl ?_ | refine EvO.nil ?_ | refine at_normal ?_ | refine EvC.skip ?_ | refine be_normal ?_ | refine ro_normal ?_ | refine EvO.cons rfl rfl rfl (EvP.add64 rfl rfl (by omega) ?_))
                        exact ⟨us.length - (q + 1), by omega, q + 1, tr2, _, T4, hsub, next hset (fun _ _ h => h), hh2, by omega, rfl, hold ⟨rfl, rfl, rfl, rfl, rfl, trivial⟩⟩
                      · rw [e]
                        repeat (first | refine EvO.plain rfl rfl rfl rfl rfl rfl ?_ | refine EvC.seq ?_ | refine EvC.region rfl ?_ | refine EvO.nil ?_ | refine at_normal ?_)
                        refine EvC.cond (t := true) rfl (fun _ => ?_) (fun e => nomatch e)
                        repeat (first | refine EvO.plain rfl rfl rfl rfl rfl rfl ?_ | refine EvC.seq ?_ | refine EvC.region rfl ?_ | refine EvO.nil ?_ | refine at_normal ?_ | refine EvC.ret ?_ | refine at_ret ?_ | refine be_ret ?_ | refine ro_ret ?_)
                        (refine ret_is (v := .int .i64 k) rfl rfl ?_)
                        obtain ⟨col2, tv2, w2, C2, g2, y2⟩ := T4
                        exact ⟨k, col2, tv2, tr2, w2, rfl, ⟨fun e => (by omega), fun e => (e (.inr ⟨_, hcm, fun y hy => g2.der _ (hall y hy)⟩)).elim⟩, C2, g2, y2, fun e => by omega, fun _ _ => ⟨k, rfl, hk2, hall⟩⟩
                      · rw [e]
                        repeat (first | refine EvO.plain rfl rfl rfl rfl rfl rfl ?_ | refine EvC.seq ?_ | refine EvC.region rfl ?_ | refine EvO.nil ?_ | refine at_normal ?_)
                        refine EvC.cond (t := false) rfl (fun e => nomatch e) (fun _ => ?_)
                        repeat (first | refine EvO.plain rfl rfl rfl rfl rfl rfl ?_ | refine EvC.seq ?_ | refine EvC.region rfl ?_ | refine EvO.nil ?_ | refine at_normal ?_)
                        refine EvC.cond (t := true) (isT (bne_true hl0)) (fun _ => ?_) (fun e => nomatch e)
                        have hd : Der S.all taken l := by
                          obtain ⟨_, _, _, C, g, _⟩ := T4
                          exact .unit hcm hlc fun y hy hne => g.der _ (hl2 y hy hne)
                        repeat (first | refine EvO.plain rfl rfl rfl rfl rfl rfl ?_ | refine EvC.region rfl ?_)
                        (refine EvO.cons rfl rfl rfl (EvP.callF rfl rfl rfl rfl (EvF.mono (take_st T4 l k (W.oks _ hcm l hlc)) ?_)))
                        rintro _ h8 _ (⟨e1, _, T5⟩ | ⟨e1, _, T5⟩ | ⟨e1, rfl, T5⟩)
                        · exact absurd e1 (ofT_zero.1 hl1).1
                        · exact absurd e1 (ofT_zero.1 hl1).2
                        · repeat (first | refine EvO.plain rfl rfl rfl rfl rfl rfl ?_ | refine EvC.region rfl ?_ | refine EvO.nil ?_ | refine at_normal ?_ | refine be_normal ?_ | refine ro_normal ?_ | refine EvO.cons rfl rfl rfl (EvP.add64 rfl rfl (by omega) ?_))
                          exact ⟨us.length - (q + 1), by omega, q + 1, tr2 ++ [l], _, T5 hd (.inr ⟨k, rfl, hk2, hlc, hl2⟩), fun x hx => List.mem_append_left _ (hsub x hx), next (.inl ⟨l, hlc, by simp⟩) (fun k' _ h => pend_push h hh2 l), by simp; omega, by omega, rfl, hold ⟨rfl, rfl, rfl, rfl, rfl, trivial⟩⟩
                    · have hend : q = us.length := by omega
                      subst hend
                      have hlen4 : tr2.length ≤ n := by obtain ⟨_, _, _, _, g, _⟩ := T4; exact g.len
                      repeat (first | refine EvO.plain rfl rfl rfl rfl rfl rfl ?_ | refine EvC.region rfl ?_ | refine EvO.nil ?_ | refine at_normal ?_ | refine EvC.exit ?_ | refine at_exit ?_ | refine be_same rfl ?_ | refine ro_exit ?_ | refine be_normal ?_ | refine ro_normal ?_ | refine EvO.cons rfl rfl rfl (EvP.add64 rfl rfl (by omega) ?_))
                      have hfin : ∀ c ∈ S.all, pend tr2 (head + 1) c := fun c hc => by
                        have hOB := List.getElem_of_mem hc
                        obtain ⟨k, hk, rfl⟩ := hOB
                        have hOB := hpq k hk
                        rcases hOB with h | h
                        · rwa [List.getD_eq_getElem?_getD, List.getElem?_eq_getElem hk, Option.getD_some] at h
                        · rw [List.drop_length] at h; cases h
                      exact ⟨n - (head + 1), by omega, head + 1, tr2, _, T4, hsub, hfin, by omega, rfl, hold ⟨rfl, rfl, trivial⟩⟩
                · have hend : tr.length ≤ head := by
                    have : ¬ (head : Int) < (tr.length : Nat) := hc
                    omega
                  clear f7 f8
                  repeat (first | refine EvO.plain rfl rfl rfl rfl rfl rfl ?_ | refine EvC.seq ?_ | refine EvC.region rfl ?_ | refine EvO.nil ?_ | refine at_normal ?_ | refine EvC.ret ?_ | refine EvC.exit ?_ | refine at_exit ?_ | refine be_same rfl ?_ | refine ro_exit ?_)
                  (refine ret_is (v := .int .i64 (-1)) rfl rfl ?_)
                  refine ⟨-1, col3, tv3, tr, w3, rfl, ⟨fun _ => no_clash g3 hsub fun c hc => ?_, fun _ => rfl⟩, C3, g3, y3, fun e => absurd e (by decide), fun e => absurd rfl e⟩
                  have hOB := hp c hc
                  rcases hOB with h | ⟨j, h1, h2, _⟩
                  · exact h
                  · omega
theorem clash_spec {G h : AH} {col : Nat → Nat} {n : Nat} {V : Lay} {S : Ch} (C : ChAt G h col n V S) (W : WFc n S) (hok : ∀ x ∈ S.trail, ok n x) (hlen : S.trail.length ≤ n) {taken : List Int} {tk : AV} (row : IntRow G tk taken) (htk : ∀ x ∈ taken, ok n x) (htl : taken.length ≤ 2 ^ 50) :
    EvF (TT gt) X 59 [.ptr V.p 0, tk] h (fun r h' => ∃ k col' tv tr' why', r = .int .i64 k ∧ (k = -1 ↔ ¬ Clash S.all taken) ∧ ChAt G h' col' n { V with tv := tv } { S with trail := tr', why := why' } ∧ Good n S.all taken tr') :=
  EvF.mono (clash_specW C W hok hlen row htk htl) fun _ _ _ ⟨k, col', tv, tr', why', a, b, c, d, _⟩ => ⟨k, col', tv, tr', why', a, b, c, d⟩
end Pf
end Go.Proofs.YtfjloafebkjadaaGreatDoor
