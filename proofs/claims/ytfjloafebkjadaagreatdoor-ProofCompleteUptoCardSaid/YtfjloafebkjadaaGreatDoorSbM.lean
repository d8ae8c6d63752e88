/- What a clash teaches. -/
import Derived.Test.YtfjloafebkjadaaGreatDoorSaZ
import Derived.Test.YtfjloafebkjadaaGreatDoorAIAuto
/- What a clash teaches: learn. -/
namespace Go.Proofs.YtfjloafebkjadaaGreatDoor
namespace Pf
namespace Sa
open Go Go.AI Go.Proofs
variable {gt : Tree (List AV)}
theorem keyed_mib : ∀ k : Int, keyed (TT gt) 95 (.int .i64 k) = some ((3, .int .i64), .bool false) := fun _ => rfl
/-- The map tells what is seen. -/
def SnM (sn : Nat → Bool) (mm : List (Int × AV)) : Prop := ∀ v : Nat, (mget mm (v : Int)).getD (.bool false) = .bool (sn v)
theorem SnM.none : SnM (fun _ => false) [] := fun _ => rfl
theorem SnM.put {sn : Nat → Bool} {mm : List (Int × AV)} (h : SnM sn mm) (v : Nat) : SnM (set1 sn v) (mput mm (v : Int) (.bool true)) := fun w => by
  rw [mget_mput]
  by_cases e : (v : Int) = w
  · have : w = v := by omega
    subst this
    rw [if_pos rfl, set1_same]; rfl
  · rw [if_neg e, set1_other (by omega)]; exact h w
section
variable {G h h1 : AH} {col col1 : Nat → Nat} {n x : Nat} {V : Lay} {S : Sr} {vals : List AV}
theorem AtX.aside (C : AtX G h col n V S vals x) {c : Nat} (hc : c = 30 ∨ c = 43 + 2 * n + 2 * S.s.cls.length) (A : Step (fun x => x = c) col h col1 h1) (hs1 : HS G h1 col1) : AtX G h1 col1 n V S vals x where
  hs := hs1
  obj := (A.get C.hs.wf (C.obj) (by first | exact fun e => e | (rw [C.cpp]; omega))).1
  cpp := (A.old _ (C.hs.wf.lt (C.obj))).trans (C.cpp)
  val := (C.val).step A C.hs.wf (by first | exact fun e => e | omega)
  lev := (C.lev).step A C.hs.wf (by first | exact fun e => e | omega)
  why := (C.why).step A C.hs.wf (by first | exact fun e => e | omega)
  wat := (C.wat).step A C.hs.wf (by first | exact fun e => e | omega)
  row := fun j hj hx => by obtain ⟨u, h3, h4⟩ := C.row j hj hx; exact ⟨u, h3, (h4).step A C.hs.wf (by first | exact fun e => e | omega)⟩
  trl := (C.trl).step A C.hs.wf (by first | exact fun e => e | omega)
  ends := (C.ends).step A C.hs.wf (by first | exact fun e => e | omega)
  sco := (C.sco).step A C.hs.wf (by first | exact fun e => e | omega)
  lea := (C.lea).step A C.hs.wf (by first | exact fun e => e | omega)
  lear := C.lear
  clp := C.clp
  cll := C.cll
  cob := fun k hk => ⟨(A.get C.hs.wf ((C.cob k hk).1) (by first | exact fun e => e | (rw [(C.cob k hk).2]; omega))).1, (A.old _ (C.hs.wf.lt ((C.cob k hk).1))).trans ((C.cob k hk).2)⟩
  cli := fun k hk => (C.cli k hk).step A C.hs.wf (by first | exact fun e => e | omega)
  yok := C.yok
  sml := C.sml
  many := C.many
/-- A clash has a literal of the last level. -/
theorem clash_last {L : List (List Int)} (I : LInv n L S) (W : WI n S.s) (T : TI n S.s) (C : CI S.s) (hc : S.s.ends ≠ []) {kc : Nat} (hk : kc < S.s.cls.length) (hf : ∀ y ∈ S.s.c kc, -y ∈ S.s.tr) : ∃ p, p < S.s.tr.length ∧ -(S.s.tr.getD p 0) ∈ S.s.c kc ∧ lv S.s.ends p = S.s.ends.length := by
  have hcur : 0 < S.s.ends.length := List.length_pos_iff.2 hc
  have hj : S.s.ends.length - 1 < S.s.ends.length := by omega
  refine Classical.byContradiction fun hno => ?_
  have hin : ∀ i, i < 2 → -(S.s.w kc i) ∈ S.s.tr.take (S.s.ends.getD (S.s.ends.length - 1) 0) := fun i hi => by
    have hm := W.mem hk hi
    have hOB := mem_pos (hf _ hm)
    obtain ⟨p, hp, e⟩ := hOB
    rw [← e]
    refine mem_take (below I.srt hj ?_) hp
    have h1 := lv_le S.s.ends p
    have h2 : lv S.s.ends p ≠ S.s.ends.length := fun e2 => hno ⟨p, hp, by rw [e, Int.neg_neg]; exact hm, e2⟩
    omega
  have h0 := C.ce _ (ends_at hj) kc hk 0 (by omega) (hin 0 (by omega))
  exact T.cons _ (List.mem_of_mem_take h0) (List.mem_of_mem_take (hin 1 (by omega)))
set_option maxHeartbeats 8000000 in
theorem learn_spec {L : List (List Int)} (C : At G h col n V S) (W : WI n S.s) (T : TI n S.s) (CIs : CI S.s) (I : LInv n L S) (hc : S.s.ends ≠ []) {kc : Nat} (hkc : kc < S.s.cls.length) (hf : ∀ y ∈ S.s.c kc, -y ∈ S.s.tr) :
    EvF (TT gt) X 102 [.ptr V.p 0, .ptr (V.cp.getD kc 0) 0] h (fun r h' => ∃ col' v K lev sc, r = .tuple [v, .int .i64 (lev : Nat)] ∧ Step (fun c => 20 ≤ c) col h col' h' ∧ At G h' col' n V { S with score := sc } ∧ Vec col' (43 + 2 * n + 2 * S.s.cls.length) h' 3 1 v K.length (K.map (AV.int .i64)) ∧ Lt n L S K lev) := by
  have hsml := C.sml
  have htl := T.len
  have hcur : 0 < S.s.ends.length := List.length_pos_iff.2 hc
  have hOB := clash_last I W T CIs hc hkc hf
  obtain ⟨pf, hpf, hpm, hpl⟩ := hOB
  refine EvF.enter rfl rfl rfl ?_
  repeat (first | refine EvO.plain rfl rfl rfl rfl rfl rfl ?_ | refine EvC.seq ?_ | refine EvC.region rfl ?_ | refine EvO.nil ?_ | refine at_normal ?_)
  (refine EvO.cons rfl rfl rfl (EvP.newC (b := .map [] 0) (mk := .map) C.hs 30 rfl rfl (by decide) (fun h1 r col1 A1 N1 o1 c1 _ => ?_)))
  have C1 := C.aside (.inl rfl) A1 N1
  have M1 : MapI col1 30 h1 (.map r) [] := .new o1 c1
  repeat (first | refine EvO.plain rfl rfl rfl rfl rfl rfl ?_ | refine EvC.seq ?_ | refine EvC.region rfl ?_ | refine EvO.nil ?_ | refine at_normal ?_)
  (refine EvO.cons rfl rfl rfl (EvP.newC (b := .cells [.int .i64 0] 3 false) (mk := .slice 1 1 true) N1 (43 + 2 * n + 2 * S.s.cls.length) rfl rfl (by omega) (fun h2 id col2 A2 N2 o2 c2 _ => ?_)))
  have C2 := C1.aside (.inr rfl) A2 N2
  have M2 := M1.step A2 N1.wf (by omega)
  have V2 : Vec col2 (43 + 2 * n + 2 * S.s.cls.length) h2 3 1 (.slice id 0 1 1 true) (([] : List Int).length + 1) (((0 : Int) :: []).map (AV.int .i64)) := .mk (tail := []) o2 c2 rfl (fun _ => ⟨Nat.le_refl _, rfl⟩)
  have f1 := C2.fld (gt := gt) (t := 35) (off := 5) rfl rfl rfl
  have ln := C2.trl.row.len (T := TT gt) (t := 35) rfl
  repeat (first | refine EvO.plain rfl rfl rfl rfl rfl rfl ?_ | refine EvC.seq ?_ | refine EvO.nil ?_ | refine at_normal ?_)
  refine EvC.drawn (p := [⟨0, false, 0, 0⟩, ⟨1, false, 0, 0⟩, ⟨2, false, 0, 0⟩, ⟨3, false, 0, 0⟩, ⟨4, false, 0, 0⟩, ⟨5, false, 0, 0⟩, ⟨6, false, 0, 0⟩]) rfl (by kernel_rfl) (by kernel_rfl) rfl ?_
  repeat (first | refine EvO.plain rfl rfl rfl rfl rfl rfl ?_ | refine EvC.seq ?_ | refine EvC.region rfl ?_ | refine EvO.nil ?_ | refine at_normal ?_ | refine EvR.nil ?_ | refine EvR.plain rfl rfl rfl rfl rfl rfl rfl ?_ | refine EvR.plain rfl rfl rfl rfl rfl rfl (by assumption) ?_)
  clear f1 ln
  have hob := C2.cob kc hkc
  have f2 := load1 (T := TT gt) (t := 35) (off := 0) hob.1 rfl rfl rfl
  repeat (first | refine EvO.plain rfl rfl rfl rfl rfl rfl ?_ | refine EvO.plain rfl rfl rfl rfl rfl (by assumption) ?_ | refine EvO.nil ?_ | refine at_normal ?_ | refine EvC.block ?_)
  clear f2 hob o1 o2 c1 c2
  generalize hmv : AV.map r = mv at *
  refine EvC.loop (fun m σ h' => ∃ (k : Nat) (y : Int) (sn : Nat → Bool) (mm : List (Int × AV)) (rest : List Int) (lev at' : Nat) (ov : AV) (cx : Nat → Nat) (sc : List Int) (op : Nat) (E : Nat → AV), opn S sn at' = op ∧ Step (fun c => 20 ≤ c) col h cx h' ∧ At G h' cx n V { S with score := sc } ∧ MapI cx 30 h' mv mm ∧ SnM sn mm ∧ Vec cx (43 + 2 * n + 2 * S.s.cls.length) h' 3 1 ov (rest.length + 1) (((0 : Int) :: rest).map (AV.int .i64)) ∧ Ln S sn rest lev ∧ Hd S sn kc at' k y ∧ k < S.s.cls.length ∧ (∀ x ∈ S.s.c k, x = y ∧ x ∈ S.s.tr ∨ -x ∈ S.s.tr.take at') ∧ at' ≤ S.s.tr.length ∧ (1 ≤ opn S sn at' ∨ (at' = S.s.tr.length ∧ k = kc ∧ y = 0)) ∧ m = at' ∧ σ = upds [(0, .ptr V.p 0), (6, mv), (7, ov), (8, .int .i64 (op : Nat)), (9, .int .i64 at'), (10, .int .i64 lev), (11, V.cl.getD k .nilPtr)] E) (S.s.tr.length) ?_ ?_
  · have h0 : opn S (fun _ => false) S.s.tr.length = 0 := by
      have : ∀ m, opn S (fun _ => false) m = 0 := fun m => by
        induction m with
        | zero => rfl
        | succ m ih => rw [opn_succ, ih, if_neg (by simp [seenAt])]
      exact this _
    exact ⟨kc, 0, fun _ => false, [], [], 0, S.s.tr.length, _, col2, S.score, 0, _, h0, (A1.mono fun c e => by omega).trans (A2.mono fun c e => by omega), C2, M2, SnM.none, V2, Ln.none S, Hd.first S _ kc, hkc, fun x hx => .inr (by rw [List.take_length]; exact hf x hx), Nat.le_refl _, .inr ⟨rfl, rfl, rfl⟩, rfl, hold ⟨rfl, hmv, rfl, rfl, rfl, rfl, rfl, trivial⟩⟩
  · clear C1 C2 M1 M2 V2 N1 N2 A1 A2 hmv
    rintro at' _ h1 ⟨k, y, sn, mm, rest, lev, b', ov, cx, sc, op, E, hop0, A1, C1, M1, sm, V1, ln1, hd, hk, hlits, hat, hop, rfl, rfl⟩
    have lnl := (C1.cli k hk).row.len (T := TT gt) (t := 35) rfl
    have hcb := W.clen k
    repeat (first | refine EvO.plain rfl rfl rfl rfl rfl rfl ?_ | refine EvO.plain rfl rfl rfl rfl rfl (by assumption) ?_ | refine EvC.seq ?_ | refine EvC.region rfl ?_ | refine EvO.nil ?_ | refine at_normal ?_ | refine EvC.block ?_)
    clear lnl
    generalize hcl : V.cl.getD k .nilPtr = lv0
    refine EvC.loop (fun m σ h' => ∃ (j : Nat) (sn' : Nat → Bool) (mm : List (Int × AV)) (rest : List Int) (lev : Nat) (ov : AV) (cx : Nat → Nat) (sc : List Int) (op : Nat) (E : Nat → AV), opn S sn' at' = op ∧ Step (fun c => 20 ≤ c) col h cx h' ∧ At G h' cx n V { S with score := sc } ∧ MapI cx 30 h' mv mm ∧ SnM sn' mm ∧ Vec cx (43 + 2 * n + 2 * S.s.cls.length) h' 3 1 ov (rest.length + 1) (((0 : Int) :: rest).map (AV.int .i64)) ∧ Ln S sn' rest lev ∧ (∀ v, sn v = true → sn' v = true) ∧ (∀ p, at' ≤ p → p < S.s.tr.length → sn' (S.s.tr.getD p 0).natAbs = true → sn (S.s.tr.getD p 0).natAbs = true) ∧ (∀ i, i < j → (S.s.c k).getD i 0 ≠ y → low S ((S.s.c k).getD i 0) ∨ sn' ((S.s.c k).getD i 0).natAbs = true) ∧ opn S sn at' ≤ opn S sn' at' ∧ j ≤ (S.s.c k).length ∧ m = (S.s.c k).length - j ∧ σ = upds [(0, .ptr V.p 0), (6, mv), (7, ov), (8, .int .i64 (op : Nat)), (9, .int .i64 at'), (10, .int .i64 lev), (26, lv0), (27, .int .i64 (S.s.c k).length), (28, .int .i64 j)] E) ((S.s.c k).length) ?_ ?_
    · exact ⟨0, sn, mm, rest, lev, ov, cx, sc, op, _, hop0, A1, C1, M1, sm, V1, ln1, fun _ h => h, fun _ _ _ h => h, fun i hi => absurd hi (Nat.not_lt_zero _), Nat.le_refl _, Nat.zero_le _, rfl, hold ⟨rfl, rfl, rfl, rfl, rfl, rfl, rfl, rfl, rfl, trivial⟩⟩
    · clear C1 A1 M1 sm V1 ln1
      rintro m _ h1 ⟨j, sn', mm, rest, lev, ov, cx, sc, op, E, hop1, A1, C1, M1, sm, V1, ln1, hgr, hbel, hdone, hopn, hj, rfl, rfl⟩
      subst hcl
      repeat (first | refine EvO.plain rfl rfl rfl rfl rfl rfl ?_ | refine EvC.seq ?_ | refine EvC.region rfl ?_ | refine EvO.nil ?_ | refine at_normal ?_)
      refine EvC.decide rfl (fun hjl => ?_) (fun hjl => ?_)
      · have hjl : j < (S.s.c k).length := by omega
        have hOB := Vec.atI (gt := gt) (C1.cli k hk) (i := j) (by omega) (by omega)
        obtain ⟨xa, xb, d1, d2⟩ := hOB
        have hxm : (S.s.c k).getD j 0 ∈ S.s.c k := mem_getD hjl
        have hxo := W.oks k _ hxm
        have hxl := hlits _ hxm
        have hdn : ∀ sn2 : Nat → Bool, (∀ v, sn' v = true → sn2 v = true) → (((S.s.c k).getD j 0 ≠ y → low S ((S.s.c k).getD j 0) ∨ sn2 ((S.s.c k).getD j 0).natAbs = true)) → ∀ i, i < j + 1 → (S.s.c k).getD i 0 ≠ y → low S ((S.s.c k).getD i 0) ∨ sn2 ((S.s.c k).getD i 0).natAbs = true := fun sn2 h2 h3 i hi hne => by
          have hOB := Nat.lt_or_ge i j
          rcases hOB with h4 | h4
          · exact (hdone i h4 hne).imp (fun h => h) (h2 _)
          · have hOB : i = j := by omega
            obtain rfl := hOB
            exact h3 hne
        rw [Int.toNat_natCast] at d2
        generalize (S.s.c k).getD j 0 = x at *
        have hxx := hxo
        obtain ⟨x0, x1, x2⟩ := hxx
        have hmx : max x (-x) = (x.natAbs : Int) := by omega
        have look := M1.look (T := TT gt) keyed_mib (max x (-x))
        rw [hmx, sm x.natAbs, ← hmx] at look
        obtain ⟨p, hp, hpn⟩ : ∃ p, p < S.s.tr.length ∧ (S.s.tr.getD p 0).natAbs = x.natAbs := by
          rcases hxl with ⟨_, h2⟩ | h2
          · have hOB := mem_pos h2
            obtain ⟨p, hp, e⟩ := hOB
            exact ⟨p, hp, by rw [e]⟩
          · have hOB := mem_pos (List.mem_of_mem_take h2)
            obtain ⟨p, hp, e⟩ := hOB
            exact ⟨p, hp, by rw [e, Int.natAbs_neg]⟩
        have hlev := I.lvs p hp
        rw [hpn] at hlev
        repeat (first | refine EvO.plain rfl rfl rfl rfl rfl rfl ?_ | refine EvO.plain rfl rfl rfl rfl rfl (by assumption) ?_ | refine EvC.seq ?_ | refine EvC.region rfl ?_ | refine EvO.nil ?_ | refine at_normal ?_ | refine EvC.skip ?_ | refine EvC.block ?_ | refine EvO.cons rfl rfl rfl (EvP.neg64 rfl (by omega) ?_) | refine EvO.cons rfl rfl rfl (EvP.max rfl rfl rfl rfl ?_))
        have cont : (x ≠ y → low S x ∨ sn' x.natAbs = true) → ∀ i, i < j + 1 → (S.s.c k).getD i 0 ≠ y → low S ((S.s.c k).getD i 0) ∨ sn' ((S.s.c k).getD i 0).natAbs = true := hdn sn' (fun _ h => h)
        cases hs : sn' x.natAbs with
        | true =>
          rw [hs] at look
          repeat (first | refine EvO.plain rfl rfl rfl rfl rfl rfl ?_ | refine EvO.nil ?_ | refine at_normal ?_ | refine EvO.off rfl rfl rfl ?_)
          refine EvC.cond (t := true) rfl (fun _ => ?_) (fun e => nomatch e)
          repeat (first | refine EvO.plain rfl rfl rfl rfl rfl rfl ?_ | refine EvC.region rfl ?_ | refine EvO.nil ?_ | refine at_normal ?_ | refine EvC.exit ?_ | refine at_exit ?_ | refine be_same rfl ?_ | refine ro_normal ?_ | refine EvO.cons rfl rfl rfl (EvP.add64 rfl rfl (by omega) ?_))
          exact ⟨(S.s.c k).length - (j + 1), by omega, j + 1, sn', mm, rest, lev, ov, cx, sc, op, _, hop1, A1, C1, M1, sm, V1, ln1, hgr, hbel, cont fun _ => .inr hs, hopn, by omega, rfl, hold ⟨rfl, rfl, rfl, rfl, rfl, rfl, rfl, rfl, rfl, trivial⟩⟩
        | false =>
          rw [hs] at look
          have f2 := C1.fld (gt := gt) (t := 35) (off := 2) rfl rfl rfl
          have vl : Vec cx 22 h1 3 1 V.lv S.level.length (S.level.map (AV.int .i64)) := I.ll.symm ▸ C1.lev
          have hOB := Vec.atI (gt := gt) vl (i := max x (-x)) (by omega) (by rw [I.ll]; omega)
          obtain ⟨ya, yb, g1, g2⟩ := hOB
          have hnn : (max x (-x)).toNat = x.natAbs := by omega
          rw [hnn, hlev] at g2
          clear vl
          repeat (first | refine EvO.plainOn rfl rfl rfl rfl rfl rfl ?_ | refine EvO.plainOn rfl rfl rfl rfl rfl (by assumption) ?_)
          by_cases hz : lv S.s.ends p = 0
          · refine EvO.on rfl rfl rfl (EvP.quiet rfl (isB (beq_true (show ((lv S.s.ends p : Nat) : Int) = 0 by omega))) ?_)
            repeat (first | refine EvO.plain rfl rfl rfl rfl rfl rfl ?_ | refine EvO.nil ?_ | refine at_normal ?_ | refine EvO.off rfl rfl rfl ?_)
            refine EvC.cond (t := true) rfl (fun _ => ?_) (fun e => nomatch e)
            repeat (first | refine EvO.plain rfl rfl rfl rfl rfl rfl ?_ | refine EvC.region rfl ?_ | refine EvO.nil ?_ | refine at_normal ?_ | refine EvC.exit ?_ | refine at_exit ?_ | refine be_same rfl ?_ | refine ro_normal ?_ | refine EvO.cons rfl rfl rfl (EvP.add64 rfl rfl (by omega) ?_))
            refine ⟨(S.s.c k).length - (j + 1), by omega, j + 1, sn', mm, rest, lev, ov, cx, sc, op, _, hop1, A1, C1, M1, sm, V1, ln1, hgr, hbel, cont fun hne => .inl ?_, hopn, by omega, rfl, hold ⟨rfl, rfl, rfl, rfl, rfl, rfl, rfl, rfl, rfl, trivial⟩⟩
            rcases hxl with ⟨h2, _⟩ | h2
            · exact absurd h2 hne
            · have hOB := mem_pos (List.mem_of_mem_take h2)
              obtain ⟨p2, hp2, e2⟩ := hOB
              have := T.inj hp2 hp (by rw [e2, hpn, Int.natAbs_neg])
              subst this
              exact ⟨p2, hp2, e2, hz⟩
          · refine EvO.on rfl rfl rfl (EvP.quiet rfl (isB (beq_false (show ((lv S.s.ends p : Nat) : Int) ≠ 0 by omega))) ?_)
            repeat (first | refine EvO.plain rfl rfl rfl rfl rfl rfl ?_ | refine EvO.plainOn rfl rfl rfl rfl rfl rfl ?_)
            refine EvO.on rfl rfl rfl (EvP.callF rfl rfl rfl rfl (EvF.mono (of_spec C1 x hxo T.cons) ?_))
            rintro _ h1 _ ⟨rfl, rfl⟩
            by_cases ho : x ∈ S.s.tr
            · refine EvO.on rfl rfl rfl (EvP.quiet rfl (isB (beq_true (ofT_one.2 ho))) ?_)
              repeat (first | refine EvO.plain rfl rfl rfl rfl rfl rfl ?_ | refine EvO.nil ?_ | refine at_normal ?_)
              refine EvC.cond (t := true) rfl (fun _ => ?_) (fun e => nomatch e)
              repeat (first | refine EvO.plain rfl rfl rfl rfl rfl rfl ?_ | refine EvC.region rfl ?_ | refine EvO.nil ?_ | refine at_normal ?_ | refine EvC.exit ?_ | refine at_exit ?_ | refine be_same rfl ?_ | refine ro_normal ?_ | refine EvO.cons rfl rfl rfl (EvP.add64 rfl rfl (by omega) ?_))
              refine ⟨(S.s.c k).length - (j + 1), by omega, j + 1, sn', mm, rest, lev, ov, cx, sc, op, _, hop1, A1, C1, M1, sm, V1, ln1, hgr, hbel, cont fun hne => ?_, hopn, by omega, rfl, hold ⟨rfl, rfl, rfl, rfl, rfl, rfl, rfl, rfl, rfl, trivial⟩⟩
              rcases hxl with ⟨h2, _⟩ | h2
              · exact absurd h2 hne
              · exact absurd (List.mem_of_mem_take h2) (T.cons _ ho)
            · refine EvO.on rfl rfl rfl (EvP.quiet rfl (isB (beq_false (fun e => ho (ofT_one.1 e)))) ?_)
              repeat (first | refine EvO.plain rfl rfl rfl rfl rfl rfl ?_ | refine EvO.nil ?_ | refine at_normal ?_)
              refine EvC.cond (t := false) rfl (fun e => nomatch e) (fun _ => ?_)
              repeat (first | refine EvO.plain rfl rfl rfl rfl rfl rfl ?_ | refine EvC.seq ?_ | refine EvC.region rfl ?_ | refine at_normal ?_ | refine EvC.skip ?_)
              (refine EvO.cons0 rfl rfl (EvP.mapPut C1.hs M1 (by decide) keyed_mib rfl rfl rfl (fun h2 A2 N2 M2 => ?_)))
              rw [hmx] at M2
              have C2 := C1.aside (.inl rfl) A2 N2
              have V2 := V1.step A2 C1.hs.wf (by omega)
              have sm2 := sm.put x.natAbs
              clear look f2 g1 g2 d1 d2
              have hxt : -x ∈ S.s.tr.take at' := hxl.resolve_left fun e => ho e.2
              obtain ⟨hpx, hpa⟩ : S.s.tr.getD p 0 = -x ∧ p < at' := by
                have hOB := mem_pos hxt
                obtain ⟨p2, hp2, e2⟩ := hOB
                rw [List.length_take] at hp2
                rw [take_getD (by omega)] at e2
                have := T.inj (p := p2) (q := p) (by omega) hp (by rw [e2, hpn, Int.natAbs_neg])
                subst this
                exact ⟨e2, by omega⟩
              have hsm2 : ∀ v, sn' v = true → set1 sn' x.natAbs v = true := fun v h2 => set1_old h2
              have hgr2 : ∀ v, sn v = true → set1 sn' x.natAbs v = true := fun v h2 => set1_old (hgr v h2)
              have hbel2 : ∀ q, at' ≤ q → q < S.s.tr.length → set1 sn' x.natAbs (S.s.tr.getD q 0).natAbs = true → sn (S.s.tr.getD q 0).natAbs = true := fun q h2 h3 h4 => by
                have hOB := set1_cases h4
                rcases hOB with h5 | h5
                · have := T.inj h3 hp (by rw [h5, hpn])
                  omega
                · exact hbel q h2 h3 h5
              have hdn2 := hdn (set1 sn' x.natAbs) hsm2 (fun _ => .inr (set1_same ..))
              have hs0 : sn' (S.s.tr.getD p 0).natAbs = false := by rw [hpn]; exact hs
              have hopl := opn_le S sn' at'
              rw [hop1] at hopl
              have f3 := C2.fld (gt := gt) (t := 35) (off := 8) rfl rfl rfl
              have f4 := C2.fld (gt := gt) (t := 3) (off := 9) rfl rfl rfl
              have hscl : sc.length = n + 1 := by have := C2.sco.count; simpa using this
              have vs : Vec cx 27 h2 3 1 V.sv sc.length (sc.map (AV.int .i64)) := hscl.symm ▸ C2.sco
              have hOB := Vec.atI (gt := gt) vs (i := max x (-x)) (by omega) (by omega)
              obtain ⟨za, zb, k1, k2⟩ := hOB
              clear vs
              repeat (first | refine EvC.seq ?_ | refine EvO.nil ?_ | refine at_normal ?_)
              refine EvC.drawn (p := [⟨0, false, 0, 0⟩, ⟨1, false, 0, 0⟩, ⟨2, false, 0, 0⟩, ⟨3, false, 0, 0⟩, ⟨4, false, 0, 0⟩, ⟨5, false, 0, 0⟩, ⟨6, false, 0, 0⟩, ⟨7, false, 0, 0⟩, ⟨8, false, 0, 0⟩, ⟨9, false, 0, 0⟩, ⟨10, false, 0, 0⟩, ⟨11, false, 0, 0⟩, ⟨12, false, 0, 0⟩, ⟨13, true, 0, 1⟩]) rfl (by kernel_rfl) (by kernel_rfl) rfl ?_
              repeat (first | refine EvR.plain rfl rfl rfl rfl rfl rfl rfl ?_ | refine EvR.plain rfl rfl rfl rfl rfl rfl (by assumption) ?_)
              (refine EvR.cons rfl rfl rfl rfl (EvP.quiet rfl (rfl) ?_))
              repeat (refine EvR.plain rfl rfl rfl rfl rfl rfl (by assumption) ?_)
              (refine EvR.cons0 rfl rfl rfl (EvP.setV (T := TT gt) (t := 35) (k := .i64) (i := max x (-x)) (u := .int .i64 (IntKind.i64.wrap (sc.getD (max x (-x)).toNat 0 + S.bump))) C2.hs C2.sco (by decide) rfl rfl rfl (by omega) (by omega) k1 rfl rfl rfl rfl (fun h3 A3 N3 X3 _ => ?_)))
              rw [← List.map_set] at X3
              have C3 := C2.setSco A3 N3 X3
              have M3 := M2.step A3 C2.hs.wf (by decide)
              have V3 := V2.step A3 C2.hs.wf (by omega)
              generalize sc.set (max x (-x)).toNat (IntKind.i64.wrap (sc.getD (max x (-x)).toNat 0 + S.bump)) = sc3 at *
              clear f3 f4 k1 k2 X3
              have A13 : Step (fun c => 20 ≤ c) col h cx h3 := (A1.trans (A2.mono fun c e => by omega)).trans (A3.mono fun c e => by omega)
              have f5 := C3.fld (gt := gt) (t := 35) (off := 2) rfl rfl rfl
              have f6 := C3.fld (gt := gt) (t := 35) (off := 6) rfl rfl rfl
              have le := C3.ends.row.len (T := TT gt) (t := 35) rfl
              have vl : Vec cx 22 h3 3 1 V.lv S.level.length (S.level.map (AV.int .i64)) := I.ll.symm ▸ C3.lev
              have hOB := Vec.atI (gt := gt) vl (i := max x (-x)) (by omega) (by rw [I.ll]; omega)
              obtain ⟨ya, yb, g1, g2⟩ := hOB
              rw [hnn, hlev] at g2
              clear vl
              repeat (first | refine EvC.seq ?_ | refine at_normal ?_ | refine EvR.nil ?_)
              refine EvC.drawn (p := [⟨0, false, 0, 0⟩, ⟨1, false, 0, 0⟩, ⟨2, false, 0, 0⟩, ⟨3, false, 0, 0⟩, ⟨4, false, 0, 0⟩, ⟨5, false, 0, 0⟩, ⟨6, false, 0, 0⟩, ⟨7, false, 0, 0⟩, ⟨8, false, 0, 0⟩, ⟨9, false, 0, 0⟩, ⟨10, false, 0, 0⟩, ⟨11, false, 0, 0⟩, ⟨12, false, 0, 0⟩]) rfl (by kernel_rfl) (by kernel_rfl) rfl ?_
              repeat (first | refine at_normal ?_ | refine EvR.nil ?_ | refine EvR.plain rfl rfl rfl rfl rfl rfl rfl ?_ | refine EvR.plain rfl rfl rfl rfl rfl rfl (by assumption) ?_)
              have hll := lv_le S.s.ends p
              by_cases hcu : lv S.s.ends p = S.s.ends.length
              · refine EvC.cond (t := true) (isT (beq_true (show ((lv S.s.ends p : Nat) : Int) = (S.s.ends.length : Int) by omega))) (fun _ => ?_) (fun e => nomatch e)
                have hoc := opn_cur T hp hcu hs0 hat
                rw [hpn, if_pos hpa] at hoc
                clear f5 f6 le g1 g2
                repeat (first | refine EvO.plain rfl rfl rfl rfl rfl rfl ?_ | refine EvC.region rfl ?_ | refine EvO.nil ?_ | refine at_normal ?_ | refine be_normal ?_ | refine ro_normal ?_ | refine EvO.cons rfl rfl rfl (EvP.add64 rfl rfl (by omega) ?_))
                exact ⟨(S.s.c k).length - (j + 1), by omega, j + 1, set1 sn' x.natAbs, _, rest, lev, ov, cx, sc3, op + 1, _, by rw [hoc, hop1], A13, C3, M3, sm2, V3, ln1.cur T hp hpx hcu (by omega), hgr2, hbel2, hdn2, by omega, by omega, rfl, hold ⟨rfl, rfl, rfl, rfl, rfl, rfl, rfl, rfl, rfl, trivial⟩⟩
              · refine EvC.cond (t := false) (isT (beq_false (show ((lv S.s.ends p : Nat) : Int) ≠ (S.s.ends.length : Int) by omega))) (fun e => nomatch e) (fun _ => ?_)
                have hol := opn_low (sn := sn') T hp (by omega) hat
                rw [hpn] at hol
                clear f5 f6 le
                have hscr := C3.hs
                repeat (first | refine EvO.plain rfl rfl rfl rfl rfl rfl ?_ | refine EvC.seq ?_ | refine EvC.region rfl ?_)
                (refine EvO.cons rfl rfl rfl (EvP.newR (b := .cells [.int .i64 x] 3 false) (mk := .slice 1 1 true) C3.hs rfl rfl (fun h4 id4 A4 N4 hle4 o4 _ _ => ?_)))
                have C4 := C3.more A4 N4 hle4
                have M4 := M3.step A4 C3.hs.wf (fun e => e)
                have V4 := V3.step A4 C3.hs.wf (fun e => e)
                have hrl : rest.length + 1 ≤ 2 ^ 30 := by
                  have h8 := nodup_len (m := List.range (n + 1)) ln1.rn (fun v hv => by
                    have hOB := List.mem_map.1 hv
                    obtain ⟨z, hz, rfl⟩ := hOB
                    have hOB := ln1.ro z hz
                    obtain ⟨_, q, hq, e, _⟩ := hOB
                    have := T.oks _ (mem_getD hq)
                    rw [e] at this
                    obtain ⟨_, h9, h10⟩ := this
                    exact List.mem_range.2 (by omega))
                  rw [List.length_map, List.length_range] at h8; omega
                clear g2
                skip
                refine EvO.cons rfl rfl rfl (EvP.appendC N4 V4 (by omega) rfl rfl rfl rfl rfl rfl rfl rfl rfl (by decide) rfl rfl (afirst_all o4 rfl) rfl (by decide) rfl (by show (rest.length + 1 + 1) * 8 ≤ 70368744177664; omega) (by omega) (fun ov5 h5 c5 A5 N5 X5 => ?_))
                have C5 := (C4.aside (.inr rfl) A5 N5).less (G' := G) hle4 C3.lear
                have M5 := M4.step A5 C4.hs.wf (by omega)
                have X5 : Vec c5 (43 + 2 * n + 2 * S.s.cls.length) h5 3 1 ov5 ((rest ++ [x]).length + 1) (((0 : Int) :: (rest ++ [x])).map (AV.int .i64)) := by
                  have e1 : ((0 : Int) :: (rest ++ [x])).map (AV.int .i64) = ((0 : Int) :: rest).map (AV.int .i64) ++ [.int .i64 x] := by simp
                  have e2 : (rest ++ [x]).length + 1 = rest.length + 1 + 1 := by simp
                  rw [e1, e2]; exact X5
                have f7 := C5.fld (gt := gt) (t := 35) (off := 2) rfl rfl rfl
                have vl : Vec c5 22 h5 3 1 V.lv S.level.length (S.level.map (AV.int .i64)) := I.ll.symm ▸ C5.lev
                have hOB := Vec.atI (gt := gt) vl (i := max x (-x)) (by omega) (by rw [I.ll]; omega)
                obtain ⟨ua, ub, g3, g4⟩ := hOB
                rw [hnn, hlev] at g4
                clear vl g1
                repeat (first | refine EvO.plain rfl rfl rfl rfl rfl rfl ?_ | refine EvO.plain rfl rfl rfl rfl rfl (by assumption) ?_ | refine EvC.region rfl ?_ | refine EvO.nil ?_ | refine at_normal ?_ | refine be_normal ?_ | refine ro_normal ?_ | refine EvO.cons rfl rfl rfl (EvP.add64 rfl rfl (by omega) ?_) | refine EvO.cons rfl rfl rfl (EvP.max rfl rfl rfl rfl ?_))
                clear f7 g3 g4
                have hmax : max (lev : Int) ((lv S.s.ends p : Nat) : Int) = ((max lev (lv S.s.ends p) : Nat) : Int) := by omega
                exact ⟨(S.s.c k).length - (j + 1), by omega, j + 1, set1 sn' x.natAbs, _, rest ++ [x], max lev (lv S.s.ends p), ov5, c5, sc3, op, _, by rw [hol, hop1], (A13.trans (A4.mono fun c e => e.elim)).trans (A5.mono fun c e => by omega), C5, M5, sm2, X5, ln1.low T hp hpx (by omega) (by omega) hs, hgr2, hbel2, hdn2, by omega, by omega, rfl, hold ⟨rfl, rfl, rfl, rfl, rfl, congrArg (AV.int .i64) hmax, rfl, rfl, rfl, trivial⟩⟩
      · have hend : j = (S.s.c k).length := by omega
        subst hend
        have hOk : Okc S sn' (S.s.c k) y := fun x hx hne => by
          have hOB := mem_pos hx
          obtain ⟨i, hi, e⟩ := hOB
          have := hdone i hi (by rw [e]; exact hne)
          rwa [e] at this
        have hP : Pd S sn' kc at' := hd sn' hgr hbel hOk
        have hop2 : 1 ≤ opn S sn' at' := by
          rcases hop with h2 | ⟨h2, h3, h4⟩
          · exact Nat.le_trans h2 hopn
          · subst h2 h3 h4
            refine Nat.pos_of_ne_zero fun h0 => ?_
            refine opn_zero h0 pf hpf ?_
            unfold seenAt
            rw [Bool.and_eq_true, decide_eq_true_iff]
            refine ⟨hpl, ?_⟩
            have hmo := W.oks k _ hpm
            have hOB := hOk _ hpm hmo.1
            rcases hOB with ⟨p2, h5, h6, h7⟩ | h5
            · have := T.inj h5 hpf (by rw [h6, Int.neg_neg])
              subst this; omega
            · rwa [Int.natAbs_neg] at h5
        have hole := opn_le S sn' at'
        rw [hop1] at hop2 hole
        clear hdone hopn hgr hbel hOk
        repeat (first | refine EvO.plain rfl rfl rfl rfl rfl rfl ?_ | refine EvC.seq ?_ | refine EvC.region rfl ?_ | refine EvO.nil ?_ | refine at_normal ?_ | refine EvC.block ?_ | refine EvC.exit ?_ | refine at_exit ?_ | refine be_same rfl ?_ | refine ro_exit ?_ | refine EvO.cons rfl rfl rfl (EvP.sub64 rfl rfl (by omega) ?_))
        refine EvC.loop (fun m σ h' => h' = h1 ∧ ∃ (r : Nat) (E : Nat → AV), r < at' ∧ opn S sn' (r + 1) = op ∧ (∀ p, r < p → p < at' → p < S.s.tr.length → sn' (S.s.tr.getD p 0).natAbs ≠ true) ∧ m = r ∧ σ = upds [(0, .ptr V.p 0), (6, mv), (7, ov), (8, .int .i64 (op : Nat)), (9, .int .i64 r), (10, .int .i64 lev)] E) (at' - 1) ?_ ?_
        · have e1 : ((at' : Int) - 1) = ((at' - 1 : Nat) : Int) := by omega
          exact ⟨rfl, at' - 1, _, by omega, by rw [show at' - 1 + 1 = at' by omega]; exact hop1, fun p h2 h3 => absurd h3 (by omega), rfl, hold ⟨rfl, rfl, rfl, rfl, congrArg (AV.int .i64) e1, rfl, trivial⟩⟩
        · rintro m _ h1 ⟨rfl, r, E, hr, hopr, hno, rfl, rfl⟩
          have hrt : m < S.s.tr.length := by omega
          have f1 := C1.fld (gt := gt) (t := 35) (off := 5) rfl rfl rfl
          have hOB := Vec.atI (gt := gt) C1.trl (i := m) (by omega) (by show (m : Int) < (S.s.tr.length : Int); omega)
          obtain ⟨xa, xb, d1, d2⟩ := hOB
          have hxo := T.oks _ (mem_getD hrt)
          rw [Int.toNat_natCast] at d2
          have d2 : aload (TT gt) h1 3 (.ptr xa xb) = some (.int .i64 (S.s.tr.getD m 0)) := d2
          have hopr2 := opn_succ S sn' m
          have hlast := seen_last (S := S) (sn := sn') (q := m) (by omega)
          obtain ⟨x0, x1, x2⟩ := hxo
          have hmx : max (S.s.tr.getD m 0) (-(S.s.tr.getD m 0)) = ((S.s.tr.getD m 0).natAbs : Int) := by omega
          have look := M1.look (T := TT gt) keyed_mib (max (S.s.tr.getD m 0) (-(S.s.tr.getD m 0)))
          rw [hmx, sm (S.s.tr.getD m 0).natAbs, ← hmx] at look
          repeat (refine EvC.seq ?_)
          refine EvC.drawn (p := [⟨0, false, 0, 0⟩, ⟨1, false, 0, 0⟩, ⟨2, false, 0, 0⟩, ⟨3, false, 0, 0⟩, ⟨4, false, 0, 0⟩, ⟨5, false, 0, 0⟩, ⟨6, false, 0, 0⟩, ⟨7, false, 0, 0⟩, ⟨8, false, 0, 0⟩, ⟨9, false, 0, 0⟩, ⟨10, false, 0, 0⟩, ⟨11, false, 0, 0⟩, ⟨12, false, 0, 0⟩, ⟨13, false, 0, 0⟩, ⟨14, false, 0, 0⟩, ⟨15, false, 0, 0⟩, ⟨16, false, 0, 0⟩, ⟨17, false, 0, 0⟩, ⟨18, false, 0, 0⟩]) rfl (by kernel_rfl) (by kernel_rfl) rfl ?_
          repeat (first | refine at_normal ?_ | refine EvR.nil ?_ | refine EvR.plain rfl rfl rfl rfl rfl rfl rfl ?_ | refine EvR.plain rfl rfl rfl rfl rfl rfl (by assumption) ?_ | refine EvR.cons rfl rfl rfl rfl (EvP.neg64 rfl (by omega) ?_) | refine EvR.cons rfl rfl rfl rfl (EvP.max rfl rfl rfl rfl ?_))
          cases hs : sn' (S.s.tr.getD m 0).natAbs with
          | false =>
            rw [hs] at look
            skip
            refine EvC.cond (t := true) rfl (fun _ => ?_) (fun e => nomatch e)
            have hns : ¬ seenAt S sn' m = true := by unfold seenAt; rw [hs]; simp
            rw [if_neg hns] at hopr2
            have hm1 : 1 ≤ m := by
              refine Nat.pos_of_ne_zero fun h0 => ?_
              subst h0
              have : opn S sn' 0 = 0 := rfl
              omega
            have e1 : ((m : Int) - 1) = ((m - 1 : Nat) : Int) := by omega
            clear f1 d1 d2 look
            repeat (first | refine EvO.plain rfl rfl rfl rfl rfl rfl ?_ | refine EvC.seq ?_ | refine EvC.region rfl ?_ | refine EvO.nil ?_ | refine at_normal ?_ | refine EvC.skip ?_ | refine EvC.block ?_ | refine be_normal ?_ | refine ro_normal ?_ | refine EvO.cons rfl rfl rfl (EvP.sub64 rfl rfl (by omega) ?_))
            refine ⟨m - 1, by omega, rfl, m - 1, _, by omega, by rw [show m - 1 + 1 = m by omega]; omega, fun p h2 h3 h4 => ?_, rfl, hold ⟨rfl, rfl, rfl, rfl, congrArg (AV.int .i64) e1, rfl, trivial⟩⟩
            by_cases e : p = m
            · rw [e, hs]; exact fun h => nomatch h
            · exact hno p (by omega) h3 h4
          | true =>
            rw [hs] at look
            have hys : seenAt S sn' m = true := by unfold seenAt; rw [hs, hlast]; simp
            rw [if_pos hys] at hopr2
            skip
            refine EvC.cond (t := false) rfl (fun e => nomatch e) (fun _ => ?_)
            clear look f1 d1 d2
            repeat (first | refine EvO.plain rfl rfl rfl rfl rfl rfl ?_ | refine EvC.seq ?_ | refine EvC.region rfl ?_ | refine EvO.nil ?_ | refine at_normal ?_ | refine EvC.exit ?_ | refine at_exit ?_ | refine be_same rfl ?_ | refine ro_exit ?_ | refine EvO.cons rfl rfl rfl (EvP.sub64 rfl rfl (by omega) ?_))
            by_cases hz : op = 1
            · refine EvC.cond (t := true) (isT (beq_true (show (op : Int) - 1 = 0 by omega))) (fun _ => ?_) (fun e => nomatch e)
              have f1 := C1.fld (gt := gt) (t := 35) (off := 5) rfl rfl rfl
              have hOB := Vec.atI (gt := gt) C1.trl (i := m) (by omega) (by show (m : Int) < (S.s.tr.length : Int); omega)
              obtain ⟨xa, xb, d1, d2⟩ := hOB
              rw [Int.toNat_natCast] at d2
              have d2 : aload (TT gt) h1 3 (.ptr xa xb) = some (.int .i64 (S.s.tr.getD m 0)) := d2
              have hOB := V1.at1 (T := TT gt) (t := 35) (k := .i64) (i := 0) rfl rfl rfl rfl (by omega) (by omega)
              obtain ⟨q, u, k1, k2, k3⟩ := hOB
              clear k2 k3
              repeat (first | refine EvO.plain rfl rfl rfl rfl rfl rfl ?_ | refine EvO.plain rfl rfl rfl rfl rfl (by assumption) ?_ | refine EvC.seq ?_ | refine EvC.region rfl ?_ | refine EvO.cons rfl rfl rfl (EvP.neg64 rfl (by omega) ?_))
              (refine EvO.cons0 rfl rfl (EvP.setV (T := TT gt) (t := 35) (k := .i64) (i := 0) (u := .int .i64 (-(S.s.tr.getD m 0))) C1.hs V1 (by omega) rfl rfl rfl (by omega) (by omega) k1 rfl rfl rfl rfl (fun h2 A2 N2 X2 _ => ?_)))
              have C2 := C1.aside (.inr rfl) A2 N2
              have X2 : Vec cx (43 + 2 * n + 2 * S.s.cls.length) h2 3 1 ov (-(S.s.tr.getD m 0) :: rest).length ((-(S.s.tr.getD m 0) :: rest).map (AV.int .i64)) := X2
              repeat (first | refine EvO.plain rfl rfl rfl rfl rfl rfl ?_ | refine EvC.seq ?_ | refine EvC.region rfl ?_ | refine EvO.nil ?_ | refine at_normal ?_ | refine EvC.ret ?_ | refine at_ret ?_ | refine be_ret ?_ | refine ro_ret ?_)
              (refine ret_are (vs := [ov, .int .i64 lev]) rfl rfl ?_)
              have hC := learn_clash I W T hkc hf ln1 hP hno (by omega)
              exact ⟨cx, ov, -(S.s.tr.getD m 0) :: rest, lev, sc, rfl, A1.trans (A2.mono fun c e => by omega), C2, X2, learn_facts I T hrt hc hlast ln1 hC⟩
            · refine EvC.cond (t := false) (isT (beq_false (show (op : Int) - 1 ≠ 0 by omega))) (fun e => nomatch e) (fun _ => ?_)
              have hOB := has_why I hrt hc hlast (by omega : 0 < opn S sn' m)
              obtain ⟨k2, hw⟩ := hOB
              have hOB := I.wy m hrt k2 hw
              obtain ⟨hk2, hmem, hoth⟩ := hOB
              have f1 := C1.fld (gt := gt) (t := 35) (off := 5) rfl rfl rfl
              have f3 := C1.fld (gt := gt) (t := 118) (off := 3) rfl rfl rfl
              have hOB := Vec.atI (gt := gt) C1.trl (i := m) (by omega) (by show (m : Int) < (S.s.tr.length : Int); omega)
              obtain ⟨xa, xb, d1, d2⟩ := hOB
              rw [Int.toNat_natCast] at d2
              have d2 : aload (TT gt) h1 3 (.ptr xa xb) = some (.int .i64 (S.s.tr.getD m 0)) := d2
              have hOB := C1.why.at1 (T := TT gt) (t := 118) (k := .i64) (i := max (S.s.tr.getD m 0) (-(S.s.tr.getD m 0))) rfl rfl rfl rfl (by omega) (by omega)
              obtain ⟨q, u, g1, g2, g3⟩ := hOB
              have hu : u = .ptr (V.cp.getD k2 0) 0 := by
                have e1 : (max (S.s.tr.getD m 0) (-(S.s.tr.getD m 0))).toNat = (S.s.tr.getD m 0).natAbs := by omega
                rw [e1, List.getElem?_map] at g3
                rw [List.getD_eq_getElem?_getD] at hw
                cases hg : S.why[(S.s.tr.getD m 0).natAbs]? with
                | none => rw [hg] at hw; cases hw
                | some w =>
                  rw [hg] at hw
                  have hw : w = some k2 := hw
                  have g3 : Option.map (whyV V.cp) (S.why[(S.s.tr.getD m 0).natAbs]?) = some u := g3
                  rw [hg, hw] at g3
                  exact (Option.some.inj g3).symm
              subst hu
              have hob := C1.cob k2 hk2
              have f2 := load1 (T := TT gt) (t := 35) (off := 0) hob.1 rfl rfl rfl
              clear g3
              repeat (first | refine at_normal ?_ | refine EvC.skip ?_)
              refine EvC.drawn (p := [⟨0, false, 0, 0⟩, ⟨1, false, 0, 0⟩, ⟨2, false, 0, 0⟩, ⟨3, false, 0, 0⟩, ⟨4, false, 0, 0⟩, ⟨5, false, 0, 0⟩, ⟨6, false, 0, 0⟩, ⟨7, false, 0, 0⟩, ⟨8, false, 0, 0⟩, ⟨9, false, 0, 0⟩, ⟨10, false, 0, 0⟩, ⟨11, false, 0, 0⟩, ⟨12, false, 0, 0⟩, ⟨13, false, 0, 0⟩, ⟨14, false, 0, 0⟩, ⟨15, false, 0, 0⟩, ⟨16, false, 0, 0⟩, ⟨17, false, 0, 0⟩, ⟨18, false, 0, 0⟩, ⟨19, false, 0, 0⟩, ⟨20, false, 0, 0⟩, ⟨21, false, 0, 0⟩, ⟨22, false, 0, 0⟩, ⟨23, false, 0, 0⟩, ⟨24, false, 0, 0⟩, ⟨25, false, 0, 0⟩]) rfl (by kernel_rfl) (by kernel_rfl) rfl ?_
              repeat (first | refine be_normal ?_ | refine EvR.nil ?_ | refine ro_normal ?_ | refine EvR.plain rfl rfl rfl rfl rfl rfl rfl ?_ | refine EvR.plain rfl rfl rfl rfl rfl rfl (by assumption) ?_ | refine EvR.cons rfl rfl rfl rfl (EvP.neg64 rfl (by omega) ?_) | refine EvR.cons rfl rfl rfl rfl (EvP.max rfl rfl rfl rfl ?_))
              have e1 : (op : Int) - 1 = ((op - 1 : Nat) : Int) := by omega
              refine ⟨m, by omega, k2, S.s.tr.getD m 0, sn', mm, rest, lev, m, ov, cx, sc, op - 1, _, by omega, A1, C1, M1, sm, V1, ln1, Hd.next hP hw hno, hk2, fun x hx => ?_, by omega, .inl (by omega), rfl, hold ⟨rfl, rfl, rfl, congrArg (AV.int .i64) e1, rfl, rfl, rfl, trivial⟩⟩
              by_cases hxe : x = S.s.tr.getD m 0
              · exact .inl ⟨hxe, by rw [hxe]; exact mem_getD hrt⟩
              · exact .inr (hoth x hx hxe)
end
end Sa
end Pf
end Go.Proofs.YtfjloafebkjadaaGreatDoor
