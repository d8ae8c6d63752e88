/- What Units answers. -/
import Derived.Test.YtheiionmocfleaaDoorSaQ
import Derived.Test.YtheiionmocfleaaDoorSaB
/- What follows by units is one list alone. -/
namespace Go.Proofs.YtheiionmocfleaaDoor
namespace Pf
open Go Go.AI Go.Proofs
theorem closed_mem {all : List (List Int)} {taken tr : List Int} (hcons : ∀ x, x ∈ tr → -x ∉ tr) (ht : ∀ x ∈ taken, x ∈ tr) (hs : ∀ c ∈ all, settled tr c) {x : Int} (hx : Der all taken x) : x ∈ tr := by
  induction hx with
  | tak h => exact ht _ h
  | @unit x c hc hx _ ih =>
    have hOB := hs c hc
    rcases hOB with ⟨z, h1, h2⟩ | ⟨y, h1, z, h2, h3, h4, h5⟩
    · by_cases e : z = x
      · rw [← e]; exact h2
      · exact absurd (ih z h1 e) (hcons z h2)
    · rw [ofT_zero] at h4 h5
      by_cases e : y = x
      · exact absurd (ih z h2 (fun e' => h3 (e.trans e'.symm))) h5.2
      · exact absurd (ih y h1 e) h4.2
theorem eq_of_sorted {R : Int → Int → Prop} (asy : ∀ a b, R a b → ¬ R b a) : ∀ {l m : List Int}, l.Pairwise R → m.Pairwise R → (∀ x, x ∈ l ↔ x ∈ m) → l = m
  | [], [], _, _, _ => rfl
  | [], b :: m, _, _, h => absurd ((h b).2 (List.mem_cons_self ..)) (fun h => nomatch h)
  | a :: l, [], _, _, h => absurd ((h a).1 (List.mem_cons_self ..)) (fun h => nomatch h)
  | a :: l, b :: m, h1, h2, h => by
    rw [List.pairwise_cons] at h1 h2
    have e : a = b := by
      have hOB := List.mem_cons.1 ((h a).1 (List.mem_cons_self ..))
      rcases hOB with e | e
      · exact e
      · have hOB := List.mem_cons.1 ((h b).2 (List.mem_cons_self ..))
        rcases hOB with e' | e'
        · exact e'.symm
        · exact absurd (h1.1 b e') (asy _ _ (h2.1 a e))
    subst e
    have := eq_of_sorted asy h1.2 h2.2 fun x => by
      constructor
      · intro hx
        have hOB := List.mem_cons.1 ((h x).1 (List.mem_cons_of_mem _ hx))
        rcases hOB with e | e
        · subst e; exact absurd (h1.1 x hx) (asy _ _ (h1.1 x hx))
        · exact e
      · intro hx
        have hOB := List.mem_cons.1 ((h x).2 (List.mem_cons_of_mem _ hx))
        rcases hOB with e | e
        · subst e; exact absurd (h2.1 x hx) (asy _ _ (h2.1 x hx))
        · exact e
    rw [this]
theorem tr_sorted {n : Nat} {all : List (List Int)} {taken val : List Int} (V : VOk n all taken val) : (tr val).Pairwise fun a b => a.natAbs < b.natAbs := by
  unfold tr
  rw [List.pairwise_filter, List.pairwise_iff_getElem]
  intro i j hi hj hij h1 h2
  have key : ∀ i (hi : i < val.length), val[i] ≠ 0 → val[i].natAbs = i := fun i hi h => by
    have e : val.getD i 0 = val[i] := by rw [List.getD_eq_getElem?_getD, List.getElem?_eq_getElem hi]; rfl
    have := V.ent i (by rw [V.len] at hi; omega) (by rw [e]; exact h)
    rw [e] at this; exact this
  rw [key i hi (by simpa using h1), key j hj (by simpa using h2)]; exact hij
theorem sortA_sorted {T : List Int} (nd : T.Nodup) (hc : ∀ x, x ∈ T → -x ∉ T) (h0 : ∀ x ∈ T, x ≠ 0) : (T.mergeSort (leOf cfA)).Pairwise fun a b => a.natAbs < b.natAbs := by
  have hle : ∀ a b, leOf cfA a b = true ↔ a.natAbs ≤ b.natAbs := fun a b => by
    unfold leOf cfA; simp; omega
  have h1 := List.pairwise_mergeSort (le := leOf cfA) (fun a b c h1 h2 => by rw [hle] at *; omega) (fun a b => by rw [Bool.or_eq_true, hle, hle]; omega) T
  have h2 : (T.mergeSort (leOf cfA)).Nodup := (List.mergeSort_perm T _).nodup_iff.2 nd
  refine List.Pairwise.imp_of_mem ?_ (List.pairwise_and_iff.2 ⟨h1, List.nodup_iff_pairwise_ne.1 h2⟩)
  rintro a b ha hb ⟨h3, h4⟩
  rw [hle] at h3
  rw [(List.mergeSort_perm T _).mem_iff] at ha hb
  have := hc a ha
  have n1 : a ≠ -b := fun e => hc b hb (e ▸ ha)
  omega
/-- Both answers are one. -/
theorem units_eq {n : Nat} {L : List (List Int)} {lits val T : List Int} (V : VOk n L lits val) (v1 : ∀ x ∈ lits, x ∈ tr val) (v2 : ∀ c ∈ L, settled (tr val) c) (vc : ∀ x, x ∈ tr val → -x ∉ tr val)
    (ho : ∀ x ∈ T, x ≠ 0) (nd : T.Nodup) (hc : ∀ x, x ∈ T → -x ∉ T) (hd : ∀ x ∈ T, Der L lits x) (hl : ∀ x ∈ lits, x ∈ T) (hs : ∀ c ∈ L, settled T c) : T.mergeSort (leOf cfA) = tr val := by
  refine eq_of_sorted (R := fun a b => a.natAbs < b.natAbs) (fun a b h => by omega) (sortA_sorted nd hc ho) (tr_sorted V) fun x => ?_
  rw [(List.mergeSort_perm T _).mem_iff]
  constructor
  · exact fun h => closed_mem vc v1 v2 (hd x h)
  · exact fun h => closed_mem hc hl hs (V.der x (by unfold tr at h; exact (List.mem_filter.1 h).1) ((mem_tr V).1 h).1)
end Pf
end Go.Proofs.YtheiionmocfleaaDoor
/- What follows by units: sat.Units. -/
namespace Go.Proofs.YtheiionmocfleaaDoor
namespace Pf
namespace Sa
open Go Go.AI Go.Proofs
variable {gt : Tree (List AV)}
/-- What is known while literals are taken. -/
structure UI (n : Nat) (L : List (List Int)) (ls : List Int) (S : Sr) : Prop where
  W : WI n S.s
  T : TI n S.s
  hd : S.s.head = 0
  en : S.s.ends = []
  sub : ∀ k, k < S.s.cls.length → ∃ l ∈ L, ∀ x, x ∈ S.s.c k ↔ x ∈ l
  der : ∀ x ∈ S.s.tr, Der L ls x
  brk : S.broken = true → Clash L ls
  cov : S.broken = false → ∀ l ∈ L, (∃ x ∈ l, -x ∈ l) ∨ (∃ x ∈ l, x ∈ S.s.tr) ∨ ∃ k, k < S.s.cls.length ∧ ∀ x, x ∈ S.s.c k ↔ x ∈ l
theorem BI.ui {n : Nat} {L : List (List Int)} {S : Sr} (B : BI n L S) (ls : List Int) : UI n L ls S := ⟨B.W, B.T, B.hd, B.en, B.sub, fun x hx => Der.mono (t := []) (fun _ h => h) (fun _ h => (nomatch h)) (B.der x hx), fun e => Clash.mono (t := []) (fun _ h => h) (fun _ h => (nomatch h)) (B.brk e), B.cov⟩
theorem UI.ci {n : Nat} {L : List (List Int)} {ls : List Int} {S : Sr} (U : UI n L ls S) : CI S.s where
  ch := fun k hk i hi h => by rw [U.hd, List.take_zero] at h; cases h
  ce := fun e he => by rw [U.en] at he; cases he
theorem UI.take {n : Nat} {L : List (List Int)} {ls : List Int} {S : Sr} (U : UI n L ls S) {x : Int} (hx : x ∈ ls) (ho : ok n x) (hf : ofT S.s.tr x = 0) : UI n L ls (S.take x none) := by
  have hf' := ofT_zero.1 hf
  refine ⟨U.W.push x, U.T.push ho hf'.1 hf'.2, U.hd, U.en, U.sub, fun y hy => ?_, U.brk, fun e l hl => ?_⟩
  · have hOB := List.mem_append.1 hy
    rcases hOB with h | h
    · exact U.der y h
    · rw [List.mem_singleton.1 h]; exact .tak hx
  · have hOB := U.cov e l hl
    rcases hOB with h | ⟨y, h1, h2⟩ | h
    · exact .inl h
    · exact .inr (.inl ⟨y, h1, List.mem_append_left _ h2⟩)
    · exact .inr (.inr h)
/-- All that follows by units. -/
structure Ut (n : Nat) (L : List (List Int)) (ls T : List Int) : Prop where
  oks : ∀ x ∈ T, ok n x
  nodup : T.Nodup
  cons : ∀ x, x ∈ T → -x ∉ T
  der : ∀ x ∈ T, Der L ls x
  tak : ∀ x ∈ ls, x ∈ T
  set : ∀ c ∈ L, settled T c
theorem settled_taut {T c : List Int} {x : Int} (hx : x ∈ c) (hn : -x ∈ c) (h0 : x ≠ 0) : settled T c := by
  by_cases h1 : x ∈ T
  · exact .inl ⟨x, hx, h1⟩
  · by_cases h2 : -x ∈ T
    · exact .inl ⟨-x, hn, h2⟩
    · exact .inr ⟨x, hx, -x, hn, by omega, ofT_zero.2 ⟨h1, h2⟩, ofT_zero.2 ⟨h2, by rw [Int.neg_neg]; exact h1⟩⟩
theorem settled_same {T c d : List Int} (h : ∀ x, x ∈ c ↔ x ∈ d) (s : settled T c) : settled T d := by
  rcases s with ⟨z, h1, h2⟩ | ⟨y, h1, z, h2, h3⟩
  · exact .inl ⟨z, (h z).1 h1, h2⟩
  · exact .inr ⟨y, (h y).1 h1, z, (h z).1 h2, h3⟩
/-- Once units have spread. -/
theorem UI.done {n : Nat} {L : List (List Int)} {ls : List Int} {S S' : Sr} (U : UI n L ls S) (hL : ∀ l ∈ L, ∀ x ∈ l, ok n x) (hb : S.broken = false) (htak : ∀ x ∈ ls, x ∈ S.s.tr) (P : Spr n S S') (W : WI n S'.s) (T : TI n S'.s) (I : CI S'.s) (hh : S'.s.head = S'.s.tr.length) : Ut n L ls S'.s.tr := by
  have K := P.kept U.W.two
  have hOB := K.pre
  obtain ⟨t, ht⟩ := hOB
  have hin : ∀ x ∈ S.s.tr, x ∈ S'.s.tr := fun x hx => by rw [ht]; exact List.mem_append_left _ hx
  refine ⟨T.oks, T.nodup, T.cons, P.der U.W.two U.sub U.der, fun x hx => hin x (htak x hx), fun c hc => ?_⟩
  have hOB := U.cov hb c hc
  rcases hOB with ⟨x, h1, h2⟩ | ⟨x, h1, h2⟩ | ⟨k, h1, h2⟩
  · exact settled_taut h1 h2 (hL c hc x h1).1
  · exact .inl ⟨x, h1, hin x h2⟩
  · exact settled_same (fun x => (K.mem k x).trans (h2 x)) (settled_all W T I hh (k := k) (by rw [K.len]; exact h1))
theorem UI.clash {n : Nat} {L : List (List Int)} {ls : List Int} {S S' : Sr} (U : UI n L ls S) (P : Spr n S S') {k : Nat} (hk : k < S'.s.cls.length) (h : ∀ y ∈ S'.s.c k, -y ∈ S'.s.tr) : Clash L ls := by
  have K := P.kept U.W.two
  have hOB := U.sub k (by rw [← K.len]; exact hk)
  obtain ⟨l, h1, h2⟩ := hOB
  exact .inr ⟨l, h1, fun y hy => P.der U.W.two U.sub U.der _ (h y ((K.mem k y).2 ((h2 y).2 hy)))⟩
theorem Ut.tells {n : Nat} {L : List (List Int)} {ls T : List Int} (u : Ut n L ls T) : TellsN cfA T := fun x hx y hy h1 h2 => by
  unfold cfA at h1 h2
  have := u.cons y hy
  have h3 : x ≠ -y := fun e => this (e ▸ hx)
  omega
/-- What Units answers. -/
def UnitsSays (h' : AH) (vars : Int) (L : List (List Int)) (ls : List Int) (r : AV) : Prop :=
  (¬ (valid vars L ∧ ∀ x ∈ ls, ok vars x) ∧ r = .tuple [.nilSlice, .bool false, .int .i64 2]) ∨
  ((valid vars L ∧ ∀ x ∈ ls, ok vars x) ∧ ((Clash L ls ∧ r = .tuple [.nilSlice, .bool true, .int .i64 0]) ∨ ∃ a T, r = .tuple [a, .bool false, .int .i64 0] ∧ Ut vars.toNat L ls T ∧ IntRow h' a (T.mergeSort (leOf cfA))))
set_option maxHeartbeats 8000000 in
theorem units_spec {h : AH} (hw : WF h) {vars : Int} {cl : AV} {L : List (List Int)} {cv : Nat → AV} (C : CnfAt h vars cl L cv) {tv : AV} {ls : List Int} (rt : IntRow h tv ls) (htl : ls.length ≤ 2 ^ 50) :
    EvF (TT gt) X 13 [.agg [.int .i64 vars, cl], tv] h (fun r h' => (h.le h' ∧ WF h') ∧ UnitsSays h' vars L ls r) := by
  have S0 := HS.all hw
  refine EvF.enter rfl rfl rfl ?_
  repeat (first | refine EvC.seq ?_ | refine EvC.region rfl ?_)
  (refine EvO.cons rfl rfl rfl (EvP.newR (b := .cells [.int .i64 vars, cl] 24 false) (mk := .ptr) S0 rfl rfl (fun h1 b A1 S1 hle1 o1 _ _ => ?_)))
  have f1 := loadAgg (T := TT gt) (t := 24) (off := 0) (n := 2) (r := [.int .i64 vars, cl]) o1 rfl rfl
  repeat (first | refine EvO.plain rfl rfl rfl rfl rfl rfl ?_ | refine EvO.plain rfl rfl rfl rfl rfl (by assumption) ?_ | refine EvC.seq ?_ | refine EvC.region rfl ?_ | refine EvO.nil ?_ | refine at_normal ?_)
  (refine EvO.cons rfl rfl rfl (EvP.callF rfl rfl rfl rfl (EvF.mono (valid_spec (facts gt) S1.wf (C.mono (fun i o e => S1.le _ _ (hle1 _ _ e)))) ?_)))
  rintro _ h2 _ ⟨hg2, rfl⟩
  have hle2 : h.le h2 := fun i o e => hg2.le _ _ (S1.le _ _ (hle1 _ _ e))
  have f2 := loadAgg (T := TT gt) (t := 24) (off := 0) (n := 2) (r := [.int .i64 vars, cl]) (hg2.le _ _ o1) rfl rfl
  clear f1
  by_cases hv : valid vars L
  · rw [decide_eq_true hv]
    have hvars : 0 ≤ vars ∧ vars ≤ 1000000 := ⟨hv.1, by have := hv.2.1; omega⟩
    repeat (first | refine EvO.plain rfl rfl rfl rfl rfl rfl ?_ | refine EvO.plainOn rfl rfl rfl rfl rfl rfl ?_ | refine EvO.plainOn rfl rfl rfl rfl rfl (by assumption) ?_)
    refine EvO.on rfl rfl rfl (EvP.callF rfl rfl rfl rfl (EvF.mono (within_spec (facts gt) hg2.wf (RowOf.mono hle2 rt) htl hvars) ?_))
    rintro _ h3 _ ⟨hg3, rfl⟩
    have hle3 : h.le h3 := fun i o e => hg3.le _ _ (hle2 _ _ e)
    clear f2
    by_cases hok : ∀ x ∈ ls, ok vars x
    · rw [decide_eq_true hok]
      have f3 := loadAgg (T := TT gt) (t := 24) (off := 0) (n := 2) (r := [.int .i64 vars, cl]) (hg3.le _ _ (hg2.le _ _ o1)) rfl rfl
      repeat (first | refine EvO.plain rfl rfl rfl rfl rfl rfl ?_ | refine EvO.nil ?_ | refine at_normal ?_ | refine EvO.plainOn rfl rfl rfl rfl rfl rfl ?_)
      refine EvC.cond (t := false) rfl (fun e => nomatch e) (fun _ => ?_)
      have hOB : ∃ n : Nat, vars = n := ⟨vars.toNat, by have := hv.1; omega⟩
      obtain ⟨n, rfl⟩ := hOB
      have S3 : HS h h3 (fun _ => 0) := (HS.all hg3.wf).down hle3
      have hLok : ∀ l ∈ L, ∀ x ∈ l, ok n x := fun l hl => by
        have hOB := List.getElem_of_mem hl
        obtain ⟨i, hi, rfl⟩ := hOB
        have := hv.2.2.2.2 i hi
        rwa [List.getD_eq_getElem?_getD, List.getElem?_eq_getElem hi] at this
      repeat (first | refine EvO.plain rfl rfl rfl rfl rfl (by assumption) ?_ | refine EvC.seq ?_ | refine EvC.region rfl ?_ | refine at_normal ?_ | refine EvC.skip ?_)
      (refine EvO.cons rfl rfl rfl (EvP.callF rfl rfl rfl rfl (EvF.mono (begin_spec S3 (fun _ e => nomatch e) C hv) ?_)))
      rintro _ h4 _ ⟨col4, V4, Z4, rfl, A4, C4, B4⟩
      have U4 := (B4.inv hLok).ui ls
      clear f3
      have ln := RowOf.len_any (T := TT gt) (t := 25) rt rfl h4
      generalize hp4 : V4.p = p
      repeat (first | refine EvO.plain rfl rfl rfl rfl rfl rfl ?_ | refine EvO.plain rfl rfl rfl rfl rfl (by assumption) ?_ | refine EvC.seq ?_ | refine EvC.region rfl ?_ | refine EvO.nil ?_ | refine at_normal ?_ | refine EvC.block ?_)
      clear ln
      refine EvC.loop (fun m σ h' => ∃ (i : Nat) (cx : Nat → Nat) (V : Lay) (S : Sr) (E : Nat → AV), V.p = p ∧ At h h' cx n V S ∧ UI n L ls S ∧ (∀ j, j < i → ls.getD j 0 ∈ S.s.tr) ∧ i ≤ ls.length ∧ m = ls.length - i ∧ σ = upds [(7, .ptr p 0), (21, tv), (22, .int .i64 ls.length), (23, .int .i64 i)] E) (ls.length) ?_ ?_
      · exact ⟨0, col4, V4, Z4, _, hp4, C4, U4, fun j hj => absurd hj (Nat.not_lt_zero _), Nat.zero_le _, rfl, hold ⟨rfl, rfl, rfl, rfl, trivial⟩⟩
      · clear C4 U4 B4 A4
        rintro m _ h5 ⟨i, c5, V5, Z5, E, hp5, C5, U5, hin, hi, rfl, rfl⟩
        have htl5 := U5.T.len
        have hsml := C5.sml
        subst hp5
        repeat (first | refine EvO.plain rfl rfl rfl rfl rfl rfl ?_ | refine EvC.seq ?_ | refine EvC.region rfl ?_ | refine EvO.nil ?_ | refine at_normal ?_)
        refine EvC.decide rfl (fun hlt => ?_) (fun hlt => ?_)
        · have hlt : i < ls.length := by omega
          have hOB := (RowOf.mono C5.hs.le rt).at1 (T := TT gt) (t := 25) (e := 3) rfl rfl rfl rfl (k := .i64) (i := i) (by omega) (by omega)
          obtain ⟨q, b1, b2⟩ := hOB
          rw [Int.toNat_natCast] at b2
          have hxm := getD_mem hlt
          have hx := hok _ hxm
          generalize hlj : ls.getD i 0 = x at *
          repeat (first | refine EvO.plain rfl rfl rfl rfl rfl rfl ?_ | refine EvO.plain rfl rfl rfl rfl rfl (by assumption) ?_ | refine EvC.seq ?_ | refine EvC.region rfl ?_ | refine EvO.nil ?_ | refine at_normal ?_ | refine EvC.skip ?_ | refine EvC.block ?_)
          clear b1 b2
          (refine EvO.cons rfl rfl rfl (EvP.callF rfl rfl rfl rfl (EvF.mono (of_spec C5 x hx U5.T.cons) ?_)))
          rintro _ h5 _ ⟨rfl, rfl⟩
          repeat (first | refine EvO.plain rfl rfl rfl rfl rfl rfl ?_ | refine EvC.seq ?_ | refine EvC.region rfl ?_ | refine EvO.nil ?_ | refine at_normal ?_ | refine EvC.block ?_)
          have hnext : ∀ S' : Sr, (∀ y ∈ Z5.s.tr, y ∈ S'.s.tr) → x ∈ S'.s.tr → ∀ j, j < i + 1 → ls.getD j 0 ∈ S'.s.tr := fun S' h1 h2 j hj => by
            have hOB := Nat.lt_or_ge j i
            rcases hOB with h3 | h3
            · exact h1 _ (hin j h3)
            · have hOB : j = i := by omega
              obtain rfl := hOB
              rw [hlj]; exact h2
          have hOB := ofT_rng Z5.s.tr x
          rcases hOB with h3 | h3 | h3
          · refine EvC.cond (t := false) (isT (p := (ofT Z5.s.tr x == -1)) (by rw [h3]; rfl)) (fun e => nomatch e) (fun _ => ?_)
            repeat (first | refine EvO.plain rfl rfl rfl rfl rfl rfl ?_ | refine EvC.seq ?_ | refine EvC.region rfl ?_ | refine EvO.nil ?_ | refine at_normal ?_)
            refine EvC.cond (t := false) (isT (p := (ofT Z5.s.tr x == 0)) (by rw [h3]; rfl)) (fun e => nomatch e) (fun _ => ?_)
            repeat (first | refine EvO.plain rfl rfl rfl rfl rfl rfl ?_ | refine EvC.region rfl ?_ | refine EvO.nil ?_ | refine at_normal ?_ | refine EvC.skip ?_ | refine be_normal ?_ | refine ro_normal ?_ | refine EvO.cons rfl rfl rfl (EvP.add64 rfl rfl (by omega) ?_))
            exact ⟨ls.length - (i + 1), by omega, i + 1, c5, V5, Z5, _, rfl, C5, U5, hnext Z5 (fun _ h => h) (ofT_one.1 h3), by omega, rfl, hold ⟨rfl, rfl, rfl, rfl, trivial⟩⟩
          · refine EvC.cond (t := true) (isT (p := (ofT Z5.s.tr x == -1)) (by rw [h3]; rfl)) (fun _ => ?_) (fun e => nomatch e)
            repeat (first | refine EvO.plain rfl rfl rfl rfl rfl rfl ?_ | refine EvC.seq ?_ | refine EvC.region rfl ?_ | refine EvO.nil ?_ | refine at_normal ?_ | refine EvC.ret ?_ | refine at_ret ?_ | refine be_ret ?_ | refine ro_ret ?_)
            (refine ret_are (vs := [.nilSlice, .bool true, .int .i64 0]) rfl rfl ?_)
            exact ⟨⟨C5.hs.le, C5.hs.wf⟩, .inr ⟨⟨hv, hok⟩, .inl ⟨.inl ⟨x, .tak hxm, U5.der _ (ofT_neg1 h3)⟩, rfl⟩⟩⟩
          · refine EvC.cond (t := false) (isT (p := (ofT Z5.s.tr x == -1)) (by rw [h3]; rfl)) (fun e => nomatch e) (fun _ => ?_)
            repeat (first | refine EvO.plain rfl rfl rfl rfl rfl rfl ?_ | refine EvC.seq ?_ | refine EvC.region rfl ?_ | refine EvO.nil ?_ | refine at_normal ?_)
            refine EvC.cond (t := true) (isT (p := (ofT Z5.s.tr x == 0)) (by rw [h3]; rfl)) (fun _ => ?_) (fun e => nomatch e)
            repeat (first | refine EvO.plain rfl rfl rfl rfl rfl rfl ?_ | refine EvC.region rfl ?_)
            (refine EvO.cons rfl rfl rfl (EvP.callF rfl rfl rfl rfl (EvF.mono (take_spec C5 x none hx h3 (fun k e => nomatch e) (by omega) (by rw [U5.en]; decide)) ?_)))
            rintro _ h6 _ ⟨rfl, c6, tv6, A6, C6⟩
            repeat (first | refine EvO.plain rfl rfl rfl rfl rfl rfl ?_ | refine EvC.region rfl ?_ | refine EvO.nil ?_ | refine at_normal ?_ | refine be_normal ?_ | refine ro_normal ?_ | refine EvO.cons rfl rfl rfl (EvP.add64 rfl rfl (by omega) ?_))
            exact ⟨ls.length - (i + 1), by omega, i + 1, c6, { V5 with tv := tv6 }, Z5.take x none, _, rfl, C6, U5.take hxm hx h3, hnext (Z5.take x none) (fun y h => List.mem_append_left _ h) (List.mem_append_right _ (List.mem_singleton.2 rfl)), by omega, rfl, hold ⟨rfl, rfl, rfl, rfl, trivial⟩⟩
        · have hend : i = ls.length := by omega
          subst hend
          have htak : ∀ x ∈ ls, x ∈ Z5.s.tr := fun x hx => by
            have hOB := List.getElem_of_mem hx
            obtain ⟨j, hj, rfl⟩ := hOB
            have := hin j hj
            rwa [List.getD_eq_getElem?_getD, List.getElem?_eq_getElem hj, Option.getD_some] at this
          have f5 := C5.fld (gt := gt) (t := 4) (off := 12) rfl rfl rfl
          cases hbr : Z5.broken with
          | true =>
            have f5 : aload (TT gt) h5 4 (.ptr V5.p 12) = some (.bool true) := hbr ▸ f5
            repeat (first | refine EvO.plain rfl rfl rfl rfl rfl rfl ?_ | refine EvO.plain rfl rfl rfl rfl rfl (by assumption) ?_ | refine EvC.seq ?_ | refine EvC.region rfl ?_ | refine EvO.nil ?_ | refine at_normal ?_ | refine EvC.exit ?_ | refine at_exit ?_ | refine be_same rfl ?_ | refine ro_exit ?_ | refine EvO.off rfl rfl rfl ?_)
            refine EvC.cond (t := true) rfl (fun _ => ?_) (fun e => nomatch e)
            repeat (first | refine EvO.plain rfl rfl rfl rfl rfl rfl ?_ | refine EvC.seq ?_ | refine EvC.region rfl ?_ | refine EvO.nil ?_ | refine at_normal ?_ | refine EvC.ret ?_ | refine at_ret ?_)
            (refine ret_are (vs := [.nilSlice, .bool true, .int .i64 0]) rfl rfl ?_)
            exact ⟨⟨C5.hs.le, C5.hs.wf⟩, .inr ⟨⟨hv, hok⟩, .inl ⟨U5.brk hbr, rfl⟩⟩⟩
          | false =>
            have f5 : aload (TT gt) h5 4 (.ptr V5.p 12) = some (.bool false) := hbr ▸ f5
            repeat (first | refine EvO.plain rfl rfl rfl rfl rfl rfl ?_ | refine EvO.plain rfl rfl rfl rfl rfl (by assumption) ?_ | refine EvC.seq ?_ | refine EvC.region rfl ?_ | refine at_normal ?_ | refine EvC.exit ?_ | refine at_exit ?_ | refine be_same rfl ?_ | refine ro_exit ?_ | refine EvO.plainOn rfl rfl rfl rfl rfl rfl ?_)
            clear f5
            refine EvO.on rfl rfl rfl (EvP.callF rfl rfl rfl rfl (EvF.mono (spread_spec C5 U5.W U5.T U5.ci (by rw [U5.en]; decide)) ?_))
            rintro r6 h6 _ ⟨c6, V6, Z6, hp6, ⟨hc6, _⟩, A6, C6, P6, W6, T6, I6, hres⟩
            rcases hres with ⟨rfl, hh⟩ | ⟨k, hk, rfl, hall⟩
            · have ut := U5.done hLok hbr htak P6 W6 T6 I6 hh
              have htl6 := T6.len
              have hsml6 := C6.sml
              skip
              refine EvO.on rfl rfl rfl (EvP.quiet (v := .bool false) rfl rfl ?_)
              repeat (first | refine EvO.plain rfl rfl rfl rfl rfl rfl ?_ | refine EvO.nil ?_ | refine at_normal ?_)
              refine EvC.cond (t := false) rfl (fun e => nomatch e) (fun _ => ?_)
              have f6 := C6.fld (gt := gt) (t := 25) (off := 5) rfl rfl rfl
              rw [hp6] at f6
              repeat (first | refine EvO.plain rfl rfl rfl rfl rfl rfl ?_ | refine EvO.plain rfl rfl rfl rfl rfl (by assumption) ?_ | refine EvC.seq ?_ | refine EvC.region rfl ?_ | refine at_normal ?_ | refine EvC.skip ?_)
              (refine EvO.cons rfl rfl rfl (EvP.callF rfl rfl rfl rfl (EvF.mono (clone_spec C6.hs 29 (by decide) (Vec.ints C6.trl) (fun h1 col1 A => Vec.ints (C6.trl.step A C6.hs.wf (by decide))) C6.trl.nz (by omega)) ?_)))
              rintro r7 h7 _ ⟨c7, A7, N7, X7⟩
              clear f6
              repeat (first | refine EvO.plain rfl rfl rfl rfl rfl rfl ?_ | refine EvC.seq ?_ | refine EvC.region rfl ?_ | refine EvO.nil ?_ | refine at_normal ?_)
              (refine EvO.cons rfl rfl rfl (EvP.callF rfl rfl rfl rfl (EvF.mono (sortN_vec (T := TT gt) rfl N7 X7 (fun x hx => by have := ut.oks x hx; have h8 := this.2; omega) ut.tells (by omega)) ?_)))
              rintro _ h8 _ ⟨rfl, A8, X8⟩
              have N8 := N7.step A8 (by decide)
              repeat (first | refine EvO.plain rfl rfl rfl rfl rfl rfl ?_ | refine EvC.seq ?_ | refine EvC.region rfl ?_ | refine EvO.nil ?_ | refine at_normal ?_ | refine EvC.ret ?_)
              (refine ret_are (vs := [r7, .bool false, .int .i64 0]) rfl rfl ?_)
              exact ⟨⟨N8.le, N8.wf⟩, .inr ⟨⟨hv, hok⟩, .inr ⟨r7, Z6.s.tr, rfl, ut, Vec.ints X8⟩⟩⟩
            · skip
              refine EvO.on rfl rfl rfl (EvP.quiet (v := .bool true) rfl rfl ?_)
              repeat (first | refine EvO.plain rfl rfl rfl rfl rfl rfl ?_ | refine EvO.nil ?_ | refine at_normal ?_)
              refine EvC.cond (t := true) rfl (fun _ => ?_) (fun e => nomatch e)
              repeat (first | refine EvO.plain rfl rfl rfl rfl rfl rfl ?_ | refine EvC.seq ?_ | refine EvC.region rfl ?_ | refine EvO.nil ?_ | refine at_normal ?_ | refine EvC.ret ?_ | refine at_ret ?_)
              (refine ret_are (vs := [.nilSlice, .bool true, .int .i64 0]) rfl rfl ?_)
              exact ⟨⟨C6.hs.le, C6.hs.wf⟩, .inr ⟨⟨hv, hok⟩, .inl ⟨U5.clash P6 hk hall, rfl⟩⟩⟩
    · rw [decide_eq_false hok]
      repeat (first | refine EvO.plain rfl rfl rfl rfl rfl rfl ?_ | refine EvO.nil ?_ | refine at_normal ?_ | refine EvO.plainOn rfl rfl rfl rfl rfl rfl ?_)
      refine EvC.cond (t := true) rfl (fun _ => ?_) (fun e => nomatch e)
      repeat (first | refine EvO.plain rfl rfl rfl rfl rfl rfl ?_ | refine EvC.seq ?_ | refine EvC.region rfl ?_ | refine EvO.nil ?_ | refine at_normal ?_ | refine EvC.ret ?_ | refine at_ret ?_)
      (refine ret_are (vs := [.nilSlice, .bool false, .int .i64 2]) rfl rfl ?_)
      exact ⟨⟨hle3, hg3.wf⟩, .inl ⟨fun e => hok e.2, rfl⟩⟩
  · rw [decide_eq_false hv]
    repeat (first | refine EvO.plain rfl rfl rfl rfl rfl rfl ?_ | refine EvO.nil ?_ | refine at_normal ?_ | refine EvO.off rfl rfl rfl ?_)
    refine EvC.cond (t := true) rfl (fun _ => ?_) (fun e => nomatch e)
    repeat (first | refine EvO.plain rfl rfl rfl rfl rfl rfl ?_ | refine EvC.seq ?_ | refine EvC.region rfl ?_ | refine EvO.nil ?_ | refine at_normal ?_ | refine EvC.ret ?_ | refine at_ret ?_)
    (refine ret_are (vs := [.nilSlice, .bool false, .int .i64 2]) rfl rfl ?_)
    exact ⟨⟨hle2, hg2.wf⟩, .inl ⟨fun e => hv e.1, rfl⟩⟩
end Sa
end Pf
end Go.Proofs.YtheiionmocfleaaDoor
