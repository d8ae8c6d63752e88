/- Which assumptions are needed for a clash. -/
import Derived.Test.YtheiionmocfleaaDoorUaA
/- Which assumptions are needed for a clash: from and core. -/
namespace Go.Proofs.YtheiionmocfleaaDoor
namespace Pf
namespace Sa
open Go Go.AI Go.Proofs
variable {gt : Tree (List AV)}
/-- The map tells what is needed. -/
def NdM (nd : Int → Bool) (mm : List (Int × AV)) : Prop := ∀ x : Int, (mget mm x).getD (.bool false) = .bool (nd x)
def setI (nd : Int → Bool) (x : Int) (b : Bool) : Int → Bool := fun y => if y = x then b else nd y
theorem setI_same (nd : Int → Bool) (x : Int) (b : Bool) : setI nd x b x = b := if_pos rfl
theorem setI_other {nd : Int → Bool} {x y : Int} {b : Bool} (h : y ≠ x) : setI nd x b y = nd y := if_neg h
theorem setI_grow {nd : Int → Bool} {x y : Int} (h : nd y = true) : setI nd x true y = true := by
  unfold setI; split
  · rfl
  · exact h
theorem NdM.none : NdM (fun _ => false) [] := fun _ => rfl
theorem NdM.put {nd : Int → Bool} {mm : List (Int × AV)} (h : NdM nd mm) (x : Int) (b : Bool) : NdM (setI nd x b) (mput mm x (.bool b)) := fun w => by
  rw [mget_mput]
  by_cases e : x = w
  · subst e
    rw [if_pos rfl, setI_same]; rfl
  · rw [if_neg e, setI_other (fun e' => e e'.symm)]; exact h w
abbrev RF : Nat → Prop := fun c => c = 30 ∨ c = 31 ∨ c = 32
section
variable {G h h1 : AH} {col col1 : Nat → Nat} {n x : Nat} {V : Lay} {S : Sr} {vals : List AV}
theorem AtX.side (C : AtX G h col n V S vals x) {c : Nat} (hc : c = 30 ∨ c = 31 ∨ c = 32) (A : Step (fun x => x = c) col h col1 h1) (hs1 : HS G h1 col1) : AtX G h1 col1 n V S vals x where
  hs := hs1
  obj := (A.get C.hs.wf (C.obj) (by first | exact fun e => e | (rw [C.cpp]; omega))).1
  cpp := (A.old _ (C.hs.wf.lt (C.obj))).trans (C.cpp)
  val := (C.val).step A C.hs.wf (by first | exact fun e => e | omega)
  lev := (C.lev).step A C.hs.wf (by first | exact fun e => e | omega)
  why := (C.why).step A C.hs.wf (by first | exact fun e => e | omega)
  wat := (C.wat).step A C.hs.wf (by first | exact fun e => e | omega)
  row := fun j hj hx => by obtain ⟨u, h3, h4⟩ := C.row j hj hx; exact ⟨u, h3, (h4).step A C.hs.wf (by first | exact fun e => e | omega)⟩
  trl := (C.trl).step A C.hs.wf (by first | exact fun e => e | omega)
  ends := (C.ends).step A C.hs.wf (by first | exact fun e => e | omega)
  sco := (C.sco).step A C.hs.wf (by first | exact fun e => e | omega)
  lea := (C.lea).step A C.hs.wf (by first | exact fun e => e | omega)
  lear := C.lear
  clp := C.clp
  cll := C.cll
  cob := fun k hk => ⟨(A.get C.hs.wf ((C.cob k hk).1) (by first | exact fun e => e | (rw [(C.cob k hk).2]; omega))).1, (A.old _ (C.hs.wf.lt ((C.cob k hk).1))).trans ((C.cob k hk).2)⟩
  cli := fun k hk => (C.cli k hk).step A C.hs.wf (by first | exact fun e => e | omega)
  yok := C.yok
  sml := C.sml
  many := C.many
def isNilM : AV → Bool
  | .nilMap => true
  | _ => false
theorem MapI.isMap {c : Nat} {mv : AV} {mm : List (Int × AV)} (M : MapI col c h mv mm) : ∃ r, mv = .map r := by cases M; exact ⟨_, rfl⟩
theorem isNilM_ok {c : Bool} {v : AV} (hv : v = .nilMap ∨ ∃ r, v = .map r) : abinOp (TT gt) .eql c 113 v .nilMap = some (.bool (isNilM v)) := by
  rcases hv with rfl | ⟨r, rfl⟩ <;> rfl
/-- What 'from' tells: the needed ones among some literals. -/
structure FromSays (L : List (List Int)) (S : Sr) (ls lits out : List Int) (nd0 nd : Int → Bool) : Prop where
  sub : out.Sublist ls
  old : ∀ x, nd0 x = true → nd x = true
  org : ∀ x, nd x = true → nd0 x = true ∨ ∃ p, p < S.s.tr.length ∧ S.s.tr.getD p 0 = x ∧ S.why.getD (S.s.tr.getD p 0).natAbs none = none ∧ lv S.s.ends p ≠ 0
  mks : ∃ sn, Mks S sn nd 0 ∧ ∀ x ∈ lits, sn x.natAbs = true
  has : ∀ x ∈ ls, nd x = true → x ∈ out
set_option maxHeartbeats 8000000 in
theorem from_spec {L : List (List Int)} {ls lits : List Int} (C : At G h col n V S) (W : WI n S.s) (T : TI n S.s) (I : LInv n L S) {av : AV} (ra : IntRow G av ls) (hal : ls.length ≤ 2 ^ 30) (hls : ∀ x ∈ ls, ok n x) {lv' : AV} (hlk : ∀ x ∈ lits, ok n x) (hll : lits.length ≤ 2 ^ 30) (rl : ∀ h1 col1, Step RF col h col1 h1 → IntRow h1 lv' lits) {nv0 : AV} {nd0 : Int → Bool} {nm0 : List (Int × AV)} (hN : (nv0 = .nilMap ∧ nm0 = []) ∨ MapI col 31 h nv0 nm0) (hnd : NdM nd0 nm0) :
    EvF (TT gt) X 76 [.ptr V.p 0, av, lv', nv0] h (fun r h' => ∃ col' out nd, HS G h' col' ∧ (IntRow h' r out ∧ NZ r) ∧ FromSays L S ls lits out nd0 nd) := by
  have hsml := C.sml
  have htl := T.len
  refine EvF.enter rfl rfl rfl ?_
  repeat (first | refine EvO.plain rfl rfl rfl rfl rfl rfl ?_ | refine EvC.seq ?_ | refine EvC.region rfl ?_ | refine EvO.nil ?_ | refine at_normal ?_)
  (refine EvO.cons rfl rfl rfl (EvP.quiet (v := .bool (isNilM nv0)) rfl (isNilM_ok (hN.imp (fun e => e.1) (fun e => MapI.isMap e))) ?_))
  repeat (first | refine EvO.nil ?_ | refine at_normal ?_)
  refine EvC.join (fun σ h' => ∃ (nv : AV) (c1 : Nat → Nat) (E : Nat → AV), Step RF col h c1 h' ∧ At G h' c1 n V S ∧ MapI c1 31 h' nv nm0 ∧ σ = upds [(0, .ptr V.p 0), (1, av), (2, lv'), (3, nv)] E) ?_ ?_
  · rcases hN with ⟨rfl, rfl⟩ | hN
    · refine EvC.cond (t := true) rfl (fun _ => ?_) (fun e => nomatch e)
      repeat (refine EvC.region rfl ?_)
      (refine EvO.cons rfl rfl rfl (EvP.newC (b := .map [] 0) (mk := .map) C.hs 31 rfl rfl (by decide) (fun h1 r col1 A1 N1 o1 c1 _ => ?_)))
      repeat (first | refine EvO.plain rfl rfl rfl rfl rfl rfl ?_ | refine EvO.nil ?_ | refine jo_normal ?_)
      exact ⟨_, col1, _, A1.mono fun c e => by omega, C.side (.inr (.inl rfl)) A1 N1, .new o1 c1, hold ⟨rfl, rfl, rfl, rfl, trivial⟩⟩
    · have hOB : ∃ rm, nv0 = .map rm := by cases hN; exact ⟨_, rfl⟩
      obtain ⟨rm, rfl⟩ := hOB
      refine EvC.cond (t := false) rfl (fun e => nomatch e) (fun _ => ?_)
      repeat (first | refine EvC.skip ?_ | refine jo_normal ?_)
      exact ⟨_, col, _, Step.refl C.hs, C, hN, hold ⟨rfl, rfl, rfl, rfl, trivial⟩⟩
  · clear hN
    rintro _ h1 ⟨nv, c1, E, A1, C1, N1, rfl⟩
    repeat (first | refine EvC.seq ?_ | refine EvC.region rfl ?_ | refine at_normal ?_)
    (refine EvO.cons rfl rfl rfl (EvP.newC (b := .map [] 0) (mk := .map) C1.hs 30 rfl rfl (by decide) (fun h2 r c2 A2 N2 o2 cc2 _ => ?_)))
    have C2 := C1.side (.inl rfl) A2 N2
    have M2 : MapI c2 30 h2 (.map r) [] := .new o2 cc2
    have N2' := N1.step A2 C1.hs.wf (by decide)
    have B2 : Step RF col h c2 h2 := A1.trans (A2.mono fun c e => by omega)
    have ln := RowOf.len_any (T := TT gt) (t := 25) (rl h2 c2 B2) rfl h2
    repeat (first | refine EvO.plain rfl rfl rfl rfl rfl rfl ?_ | refine EvO.plain rfl rfl rfl rfl rfl (by assumption) ?_ | refine EvC.seq ?_ | refine EvC.region rfl ?_ | refine EvO.nil ?_ | refine at_normal ?_ | refine EvC.block ?_)
    clear ln A1 C1 N1 A2 N2 o2 cc2
    generalize hmv : AV.map r = mv at *
    refine EvC.loop (fun m σ h' => ∃ (j : Nat) (sn : Nat → Bool) (mm : List (Int × AV)) (cx : Nat → Nat) (E : Nat → AV), Step RF col h cx h' ∧ At G h' cx n V S ∧ MapI cx 30 h' mv mm ∧ SnM sn mm ∧ MapI cx 31 h' nv nm0 ∧ (∀ i, i < j → sn (lits.getD i 0).natAbs = true) ∧ j ≤ lits.length ∧ m = lits.length - j ∧ σ = upds [(0, .ptr V.p 0), (1, av), (3, nv), (9, mv), (24, lv'), (25, .int .i64 lits.length), (26, .int .i64 j)] E) (lits.length) ?_ ?_
    · exact ⟨0, fun _ => false, [], c2, _, B2, C2, M2, SnM.none, N2', fun i hi => absurd hi (Nat.not_lt_zero _), Nat.zero_le _, rfl, hold ⟨rfl, rfl, rfl, hmv, rfl, rfl, rfl, trivial⟩⟩
    · clear B2 C2 M2 N2' hmv
      rintro m _ h2 ⟨j, sn, mm, c2, E, B2, C2, M2, sm, N2, hdone, hj, rfl, rfl⟩
      repeat (first | refine EvO.plain rfl rfl rfl rfl rfl rfl ?_ | refine EvC.seq ?_ | refine EvC.region rfl ?_ | refine EvO.nil ?_ | refine at_normal ?_)
      refine EvC.decide rfl (fun hjl => ?_) (fun hjl => ?_)
      · have hjl : j < lits.length := by omega
        have hOB := (rl h2 c2 B2).at1 (T := TT gt) (t := 25) (e := 3) rfl rfl rfl rfl (k := .i64) (i := j) (by omega) (by omega)
        obtain ⟨qa, b1, b2⟩ := hOB
        rw [Int.toNat_natCast] at b2
        have hx := hlk _ (getD_mem hjl)
        have hsame : ∀ i, i < j + 1 → i < j ∨ lits.getD i 0 = lits.getD j 0 := fun i hi => by
          have hOB := Nat.lt_or_ge i j
          rcases hOB with h4 | h4
          · exact .inl h4
          · have hOB : i = j := by omega
            obtain rfl := hOB
            exact .inr rfl
        generalize lits.getD j 0 = y at *
        obtain ⟨y0, y1, y2⟩ := hx
        have hmx : max y (-y) = (y.natAbs : Int) := by omega
        repeat (first | refine EvO.plain rfl rfl rfl rfl rfl rfl ?_ | refine EvO.plain rfl rfl rfl rfl rfl (by assumption) ?_ | refine EvC.seq ?_ | refine EvC.region rfl ?_ | refine EvO.nil ?_ | refine at_normal ?_ | refine EvC.skip ?_ | refine EvC.block ?_ | refine EvO.cons rfl rfl rfl (EvP.neg64 rfl (by omega) ?_) | refine EvO.cons rfl rfl rfl (EvP.max rfl rfl rfl rfl ?_))
        (refine EvO.cons0 rfl rfl (EvP.mapPut C2.hs M2 (by decide) keyed_mib rfl rfl rfl (fun h3 A3 N3 M3 => ?_)))
        rw [hmx] at M3
        have C3 := C2.side (.inl rfl) A3 N3
        have N3' := N2.step A3 C2.hs.wf (by decide)
        clear b1 b2
        repeat (first | refine EvO.plain rfl rfl rfl rfl rfl rfl ?_ | refine EvC.region rfl ?_ | refine EvO.nil ?_ | refine at_normal ?_ | refine be_normal ?_ | refine ro_normal ?_ | refine EvO.cons rfl rfl rfl (EvP.add64 rfl rfl (by omega) ?_))
        refine ⟨lits.length - (j + 1), by omega, j + 1, set1 sn y.natAbs, _, c2, _, B2.trans (A3.mono fun c e => by omega), C3, M3, sm.put y.natAbs, N3', fun i hi => ?_, by omega, rfl, hold ⟨rfl, rfl, rfl, rfl, rfl, rfl, rfl, trivial⟩⟩
        have hOB := hsame i hi
        rcases hOB with h4 | h4
        · exact set1_old (hdone i h4)
        · rw [h4]; exact set1_same ..
      · have hend : j = lits.length := by omega
        subst hend
        have hlits : ∀ x ∈ lits, sn x.natAbs = true := fun x hx => by
          have hOB := List.getElem_of_mem hx
          obtain ⟨i, hi, rfl⟩ := hOB
          have := hdone i hi
          rwa [List.getD_eq_getElem?_getD, List.getElem?_eq_getElem hi] at this
        clear hdone
        have f1 := C2.fld (gt := gt) (t := 25) (off := 5) rfl rfl rfl
        have ln := C2.trl.row.len (T := TT gt) (t := 25) rfl
        repeat (first | refine EvO.plain rfl rfl rfl rfl rfl rfl ?_ | refine EvO.plain rfl rfl rfl rfl rfl (by assumption) ?_ | refine EvC.seq ?_ | refine EvC.region rfl ?_ | refine EvO.nil ?_ | refine at_normal ?_ | refine EvC.block ?_ | refine EvC.exit ?_ | refine at_exit ?_ | refine be_same rfl ?_ | refine ro_exit ?_ | refine EvO.cons rfl rfl rfl (EvP.sub64 rfl rfl (by omega) ?_))
        clear f1 ln
        refine EvC.loop (fun m σ h' => ∃ (at' : Nat) (sn : Nat → Bool) (nd : Int → Bool) (mm nm : List (Int × AV)) (cx : Nat → Nat) (E : Nat → AV), Step RF col h cx h' ∧ At G h' cx n V S ∧ MapI cx 30 h' mv mm ∧ SnM sn mm ∧ MapI cx 31 h' nv nm ∧ NdM nd nm ∧ (∀ x ∈ lits, sn x.natAbs = true) ∧ Mks S sn nd at' ∧ (∀ x, nd0 x = true → nd x = true) ∧ (∀ x, nd x = true → nd0 x = true ∨ ∃ p, p < S.s.tr.length ∧ S.s.tr.getD p 0 = x ∧ S.why.getD (S.s.tr.getD p 0).natAbs none = none ∧ lv S.s.ends p ≠ 0) ∧ at' ≤ S.s.tr.length ∧ m = at' ∧ σ = upds [(0, .ptr V.p 0), (1, av), (3, nv), (9, mv), (12, .int .i64 ((at' : Int) - 1))] E) (S.s.tr.length) ?_ ?_
        · exact ⟨S.s.tr.length, sn, nd0, mm, nm0, c2, _, B2, C2, M2, sm, N2, hnd, hlits, ⟨fun p h1 h2 => absurd h2 (by omega)⟩, fun _ h => h, fun _ h => .inl h, Nat.le_refl _, rfl, hold ⟨rfl, rfl, rfl, rfl, rfl, trivial⟩⟩
        · clear B2 C2 M2 sm N2 hnd hlits
          clear mm sn
          rintro at' _ h3 ⟨b', sn, nd, mm, nm, c3, E, B3, C3, M3, sm, N3, sN, hlits, mk, hold0, horg, hat, rfl, rfl⟩
          repeat (first | refine EvO.plain rfl rfl rfl rfl rfl rfl ?_ | refine EvC.seq ?_ | refine EvC.region rfl ?_ | refine EvO.nil ?_ | refine at_normal ?_)
          refine EvC.decide rfl (fun hge => ?_) (fun hge => ?_)
          · have hOB : ∃ q, at' = q + 1 := ⟨at' - 1, by omega⟩
            obtain ⟨q, rfl⟩ := hOB
            have hq : q < S.s.tr.length := by omega
            have hnn1 : (((q + 1 : Nat) : Int) - 1).toNat = q := by omega
            have hnext : (((q + 1 : Nat) : Int) - 1) - 1 = ((q : Nat) : Int) - 1 := by omega
            have f1 := C3.fld (gt := gt) (t := 25) (off := 5) rfl rfl rfl
            have hOB := Vec.atI (gt := gt) C3.trl (i := ((q + 1 : Nat) : Int) - 1) (by omega) (by show (((q + 1 : Nat) : Int) - 1) < (S.s.tr.length : Int); omega)
            obtain ⟨xa, xb, d1, d2⟩ := hOB
            rw [hnn1] at d2
            have hxo := T.oks _ (mem_getD hq)
            have hskip := mk.skip
            have hOB : ∃ x, S.s.tr.getD q 0 = x := ⟨_, rfl⟩
            obtain ⟨x, hx⟩ := hOB
            have d2 : aload (TT gt) h3 3 (.ptr xa xb) = some (.int .i64 (S.s.tr.getD q 0)) := d2
            have hlev := I.lvs q hq
            rw [hx] at d2 hxo hlev hskip
            obtain ⟨x0, x1, x2⟩ := hxo
            have hmx : max x (-x) = (x.natAbs : Int) := by omega
            have look := M3.look (T := TT gt) keyed_mib (max x (-x))
            rw [hmx, sm x.natAbs, ← hmx] at look
            repeat (first | refine EvO.plain rfl rfl rfl rfl rfl rfl ?_ | refine EvO.plain rfl rfl rfl rfl rfl (by assumption) ?_ | refine EvC.seq ?_ | refine EvC.region rfl ?_ | refine EvO.nil ?_ | refine at_normal ?_ | refine EvC.skip ?_ | refine EvC.block ?_ | refine EvO.cons rfl rfl rfl (EvP.neg64 rfl (by omega) ?_) | refine EvO.cons rfl rfl rfl (EvP.max rfl rfl rfl rfl ?_))
            clear f1 d1 d2
            cases hs : sn x.natAbs with
            | false =>
              rw [hs] at look
              repeat (first | refine EvO.plain rfl rfl rfl rfl rfl rfl ?_ | refine EvO.nil ?_ | refine at_normal ?_ | refine EvO.off rfl rfl rfl ?_)
              refine EvC.cond (t := true) rfl (fun _ => ?_) (fun e => nomatch e)
              clear look
              repeat (first | refine EvO.plain rfl rfl rfl rfl rfl rfl ?_ | refine EvC.region rfl ?_ | refine EvO.nil ?_ | refine at_normal ?_ | refine EvC.exit ?_ | refine at_exit ?_ | refine be_same rfl ?_ | refine ro_normal ?_ | refine EvO.cons rfl rfl rfl (EvP.sub64 rfl rfl (by omega) ?_))
              exact ⟨q, by omega, q, sn, nd, mm, nm, c3, _, B3, C3, M3, sm, N3, sN, hlits, hskip (fun e => by rw [hs] at e; cases e), hold0, horg, by omega, rfl, hold ⟨rfl, rfl, rfl, rfl, congrArg (AV.int .i64) hnext, trivial⟩⟩
            | true =>
              rw [hs] at look
              have f2 := C3.fld (gt := gt) (t := 25) (off := 2) rfl rfl rfl
              have vl : Vec c3 22 h3 3 1 V.lv S.level.length (S.level.map (AV.int .i64)) := I.ll.symm ▸ C3.lev
              have hOB := Vec.atI (gt := gt) vl (i := max x (-x)) (by omega) (by rw [I.ll]; omega)
              obtain ⟨ya, yb, g1, g2⟩ := hOB
              have hnn : (max x (-x)).toNat = x.natAbs := by omega
              rw [hnn, hlev] at g2
              clear vl
              repeat (first | refine EvO.plainOn rfl rfl rfl rfl rfl rfl ?_ | refine EvO.plainOn rfl rfl rfl rfl rfl (by assumption) ?_)
              by_cases hz : lv S.s.ends q = 0
              · refine EvO.on rfl rfl rfl (EvP.quiet rfl (isB (beq_true (show ((lv S.s.ends q : Nat) : Int) = 0 by omega))) ?_)
                repeat (first | refine EvO.plain rfl rfl rfl rfl rfl rfl ?_ | refine EvO.nil ?_ | refine at_normal ?_)
                refine EvC.cond (t := true) rfl (fun _ => ?_) (fun e => nomatch e)
                clear look f2 g1 g2
                repeat (first | refine EvO.plain rfl rfl rfl rfl rfl rfl ?_ | refine EvC.region rfl ?_ | refine EvO.nil ?_ | refine at_normal ?_ | refine EvC.exit ?_ | refine at_exit ?_ | refine be_same rfl ?_ | refine ro_normal ?_ | refine EvO.cons rfl rfl rfl (EvP.sub64 rfl rfl (by omega) ?_))
                exact ⟨q, by omega, q, sn, nd, mm, nm, c3, _, B3, C3, M3, sm, N3, sN, hlits, hskip (fun _ => hz), hold0, horg, by omega, rfl, hold ⟨rfl, rfl, rfl, rfl, congrArg (AV.int .i64) hnext, trivial⟩⟩
              · refine EvO.on rfl rfl rfl (EvP.quiet rfl (isB (beq_false (show ((lv S.s.ends q : Nat) : Int) ≠ 0 by omega))) ?_)
                repeat (first | refine EvO.plain rfl rfl rfl rfl rfl rfl ?_ | refine EvO.nil ?_ | refine at_normal ?_)
                refine EvC.cond (t := false) rfl (fun e => nomatch e) (fun _ => ?_)
                clear look f2 g1 g2
                have f3 := C3.fld (gt := gt) (t := 62) (off := 3) rfl rfl rfl
                have hOB := C3.why.at1 (T := TT gt) (t := 62) (k := .i64) (i := max x (-x)) rfl rfl rfl rfl (by omega) (by omega)
                obtain ⟨qq, u, g1, g2, g3⟩ := hOB
                rw [hnn] at g3
                have hu : u = whyV V.cp (S.why.getD x.natAbs none) := by
                  rw [List.getElem?_map] at g3
                  rw [List.getD_eq_getElem?_getD]
                  cases hg : S.why[x.natAbs]? with
                  | none => rw [hg] at g3; cases g3
                  | some w =>
                    have g3 : Option.map (whyV V.cp) (S.why[x.natAbs]?) = some u := g3
                    rw [hg] at g3
                    exact (Option.some.inj g3).symm
                clear g3
                subst hu
                cases hw : S.why.getD x.natAbs none with
                | none =>
                  rw [hw] at g2
                  repeat (first | refine EvO.plain rfl rfl rfl rfl rfl rfl ?_ | refine EvO.plain rfl rfl rfl rfl rfl (by assumption) ?_ | refine EvC.seq ?_ | refine EvC.region rfl ?_ | refine EvO.nil ?_ | refine at_normal ?_ | refine EvC.skip ?_)
                  refine EvC.cond (t := true) rfl (fun _ => ?_) (fun e => nomatch e)
                  clear f3 g1 g2
                  repeat (first | refine EvO.plain rfl rfl rfl rfl rfl rfl ?_ | refine EvC.seq ?_ | refine EvC.region rfl ?_)
                  (refine EvO.cons0 rfl rfl (EvP.mapPut C3.hs N3 (by decide) keyed_mib rfl rfl rfl (fun h4 A4 H4 N4 => ?_)))
                  have C4 := C3.side (.inr (.inl rfl)) A4 H4
                  have M4 := M3.step A4 C3.hs.wf (by decide)
                  repeat (first | refine EvO.plain rfl rfl rfl rfl rfl rfl ?_ | refine EvC.region rfl ?_ | refine EvO.nil ?_ | refine at_normal ?_ | refine EvC.exit ?_ | refine at_exit ?_ | refine be_same rfl ?_ | refine ro_normal ?_ | refine EvO.cons rfl rfl rfl (EvP.sub64 rfl rfl (by omega) ?_))
                  refine ⟨q, by omega, q, sn, setI nd x true, mm, _, c3, _, B3.trans (A4.mono fun c e => by omega), C4, M4, sm, N4, sN.put x true, hlits, mk.need (by rw [hx]; exact hw) (fun y hy => setI_grow hy) (by rw [hx]; exact setI_same ..), fun y hy => setI_grow (hold0 y hy), fun y hy => ?_, by omega, rfl, hold ⟨rfl, rfl, rfl, rfl, congrArg (AV.int .i64) hnext, trivial⟩⟩
                  by_cases e : y = x
                  · exact .inr ⟨q, hq, by rw [hx, e], by rw [hx]; exact hw, hz⟩
                  · rw [setI_other e] at hy; exact horg y hy
                | some k =>
                  rw [hw] at g2
                  have hw' : S.why.getD (S.s.tr.getD q 0).natAbs none = some k := by rw [hx]; exact hw
                  have hOB := I.wy q hq k hw'
                  obtain ⟨hk, hmem, hoth⟩ := hOB
                  have hob := C3.cob k hk
                  have f4 := load1 (T := TT gt) (t := 25) (off := 0) hob.1 rfl rfl rfl
                  have hcb := W.clen k
                  have g2 : aload (TT gt) h3 66 qq = some (.ptr (V.cp.getD k 0) 0) := g2
                  repeat (first | refine EvO.plain rfl rfl rfl rfl rfl rfl ?_ | refine EvO.plain rfl rfl rfl rfl rfl (by assumption) ?_ | refine EvC.seq ?_ | refine EvC.region rfl ?_ | refine EvO.nil ?_ | refine at_normal ?_ | refine EvC.skip ?_)
                  refine EvC.cond (t := false) rfl (fun e => nomatch e) (fun _ => ?_)
                  have lnl := (C3.cli k hk).row.len (T := TT gt) (t := 25) rfl
                  repeat (first | refine EvO.plain rfl rfl rfl rfl rfl rfl ?_ | refine EvO.plain rfl rfl rfl rfl rfl (by assumption) ?_ | refine EvC.seq ?_ | refine EvC.region rfl ?_ | refine EvO.nil ?_ | refine at_normal ?_ | refine EvC.skip ?_ | refine EvC.block ?_)
                  clear lnl f4 f3 g1 g2 hob
                  generalize hcl : V.cl.getD k .nilPtr = lv0
                  refine EvC.loop (fun m σ h' => ∃ (j : Nat) (sn' : Nat → Bool) (mm : List (Int × AV)) (cx : Nat → Nat) (E : Nat → AV), Step RF col h cx h' ∧ At G h' cx n V S ∧ MapI cx 30 h' mv mm ∧ SnM sn' mm ∧ MapI cx 31 h' nv nm ∧ (∀ v, sn v = true → sn' v = true) ∧ (∀ v, sn' v = true → sn v = true ∨ ∃ x ∈ S.s.c k, x.natAbs = v) ∧ (∀ i, i < j → sn' ((S.s.c k).getD i 0).natAbs = true) ∧ j ≤ (S.s.c k).length ∧ m = (S.s.c k).length - j ∧ σ = upds [(0, .ptr V.p 0), (1, av), (3, nv), (9, mv), (12, .int .i64 (((q + 1 : Nat) : Int) - 1)), (90, lv0), (91, .int .i64 (S.s.c k).length), (92, .int .i64 j)] E) ((S.s.c k).length) ?_ ?_
                  · exact ⟨0, sn, mm, c3, _, B3, C3, M3, sm, N3, fun _ h => h, fun _ h => .inl h, fun i hi => absurd hi (Nat.not_lt_zero _), Nat.zero_le _, rfl, hold ⟨rfl, rfl, rfl, rfl, rfl, rfl, rfl, rfl, trivial⟩⟩
                  · clear B3 C3 M3 sm N3
                    rintro m _ h4 ⟨j, sn', mm, c4, E, B4, C4, M4, sm, N4, hgr, hnew, hdone, hj, rfl, rfl⟩
                    subst hcl
                    repeat (first | refine EvO.plain rfl rfl rfl rfl rfl rfl ?_ | refine EvC.seq ?_ | refine EvC.region rfl ?_ | refine EvO.nil ?_ | refine at_normal ?_)
                    refine EvC.decide rfl (fun hjl => ?_) (fun hjl => ?_)
                    · have hjl : j < (S.s.c k).length := by omega
                      have hOB := Vec.atI (gt := gt) (C4.cli k hk) (i := j) (by omega) (by omega)
                      obtain ⟨xa, xb, d1, d2⟩ := hOB
                      have hym : (S.s.c k).getD j 0 ∈ S.s.c k := mem_getD hjl
                      have hyo := W.oks k _ hym
                      have hsame : ∀ i, i < j + 1 → i < j ∨ (S.s.c k).getD i 0 = (S.s.c k).getD j 0 := fun i hi => by
                        have hOB := Nat.lt_or_ge i j
                        rcases hOB with h4 | h4
                        · exact .inl h4
                        · have hOB : i = j := by omega
                          obtain rfl := hOB
                          exact .inr rfl
                      rw [Int.toNat_natCast] at d2
                      generalize (S.s.c k).getD j 0 = y at *
                      obtain ⟨y0, y1, y2⟩ := hyo
                      have hmy : max y (-y) = (y.natAbs : Int) := by omega
                      repeat (first | refine EvO.plain rfl rfl rfl rfl rfl rfl ?_ | refine EvO.plain rfl rfl rfl rfl rfl (by assumption) ?_ | refine EvC.seq ?_ | refine EvC.region rfl ?_ | refine EvO.nil ?_ | refine at_normal ?_ | refine EvC.skip ?_ | refine EvC.block ?_ | refine EvO.cons rfl rfl rfl (EvP.neg64 rfl (by omega) ?_) | refine EvO.cons rfl rfl rfl (EvP.max rfl rfl rfl rfl ?_))
                      (refine EvO.cons0 rfl rfl (EvP.mapPut C4.hs M4 (by decide) keyed_mib rfl rfl rfl (fun h5 A5 N5 M5 => ?_)))
                      rw [hmy] at M5
                      have C5 := C4.side (.inl rfl) A5 N5
                      have N5' := N4.step A5 C4.hs.wf (by decide)
                      clear d1 d2
                      repeat (first | refine EvO.plain rfl rfl rfl rfl rfl rfl ?_ | refine EvC.region rfl ?_ | refine EvO.nil ?_ | refine at_normal ?_ | refine be_normal ?_ | refine ro_normal ?_ | refine EvO.cons rfl rfl rfl (EvP.add64 rfl rfl (by omega) ?_))
                      refine ⟨(S.s.c k).length - (j + 1), by omega, j + 1, set1 sn' y.natAbs, _, c4, _, B4.trans (A5.mono fun c e => by omega), C5, M5, sm.put y.natAbs, N5', fun v h => set1_old (hgr v h), fun v h => ?_, fun i hi => ?_, by omega, rfl, hold ⟨rfl, rfl, rfl, rfl, rfl, rfl, rfl, rfl, trivial⟩⟩
                      · have hOB := set1_cases h
                        rcases hOB with h6 | h6
                        · exact .inr ⟨y, hym, h6.symm⟩
                        · exact hnew v h6
                      · have hOB := hsame i hi
                        rcases hOB with h6 | h6
                        · exact set1_old (hdone i h6)
                        · rw [h6]; exact set1_same ..
                    · have hend : j = (S.s.c k).length := by omega
                      have hall : ∀ x ∈ S.s.c k, sn' x.natAbs = true := fun x hx => by
                        have hOB := List.getElem_of_mem hx
                        obtain ⟨i, hi, rfl⟩ := hOB
                        have := hdone i (by omega)
                        rwa [List.getD_eq_getElem?_getD, List.getElem?_eq_getElem hi] at this
                      repeat (first | refine EvO.plain rfl rfl rfl rfl rfl rfl ?_ | refine EvC.region rfl ?_ | refine EvO.nil ?_ | refine at_normal ?_ | refine EvC.exit ?_ | refine at_exit ?_ | refine be_same rfl ?_ | refine ro_exit ?_ | refine be_normal ?_ | refine ro_normal ?_ | refine EvO.cons rfl rfl rfl (EvP.sub64 rfl rfl (by omega) ?_))
                      exact ⟨q, by omega, q, sn', nd, mm, nm, c4, _, B4, C4, M4, sm, N4, sN, fun x hx => hgr _ (hlits x hx), mk.why T I hq hw' hgr hnew hall, hold0, horg, by omega, rfl, hold ⟨rfl, rfl, rfl, rfl, congrArg (AV.int .i64) hnext, trivial⟩⟩
          · have hend : at' = 0 := by omega
            subst hend
            have ra3 := RowOf.mono C3.hs.le ra
            have ln := RowOf.len_any (T := TT gt) (t := 25) ra rfl h3
            repeat (first | refine EvO.plain rfl rfl rfl rfl rfl rfl ?_ | refine EvO.plain rfl rfl rfl rfl rfl (by assumption) ?_ | refine EvC.seq ?_ | refine EvC.region rfl ?_ | refine EvO.nil ?_ | refine at_normal ?_ | refine EvC.block ?_ | refine EvC.exit ?_ | refine at_exit ?_ | refine be_same rfl ?_ | refine ro_exit ?_)
            clear ln ra3
            refine EvC.loop (fun m σ h' => ∃ (i : Nat) (out : List Int) (nd' : Int → Bool) (nm : List (Int × AV)) (ov : AV) (cx : Nat → Nat) (E : Nat → AV), HS G h' cx ∧ MapI cx 31 h' nv nm ∧ NdM nd' nm ∧ Vec cx 32 h' 3 1 ov out.length (out.map (AV.int .i64)) ∧ out.Sublist (ls.take i) ∧ (∀ x, nd x = true → nd' x = true ∨ x ∈ out) ∧ (∀ j, j < i → nd (ls.getD j 0) = true → ls.getD j 0 ∈ out) ∧ i ≤ ls.length ∧ m = ls.length - i ∧ σ = upds [(3, nv), (17, ov), (102, av), (103, .int .i64 ls.length), (104, .int .i64 i)] E) (ls.length) ?_ ?_
            · exact ⟨0, [], nd, nm, .nilSlice, c3, _, C3.hs, N3, sN, .nil, List.Sublist.refl _, fun _ h => .inl h, fun j hj => absurd hj (Nat.not_lt_zero _), Nat.zero_le _, rfl, hold ⟨rfl, rfl, rfl, rfl, rfl, trivial⟩⟩
            · clear B3 C3 M3 sm N3 sN
              rintro m _ h4 ⟨i, out, nd', nm, ov, c4, E, S4, N4, sN, V4, hsub, hkeep, hdone, hi, rfl, rfl⟩
              repeat (first | refine EvO.plain rfl rfl rfl rfl rfl rfl ?_ | refine EvC.seq ?_ | refine EvC.region rfl ?_ | refine EvO.nil ?_ | refine at_normal ?_)
              refine EvC.decide rfl (fun hil => ?_) (fun hil => ?_)
              · have hil : i < ls.length := by omega
                have hOB := (RowOf.mono S4.le ra).at1 (T := TT gt) (t := 25) (e := 3) rfl rfl rfl rfl (k := .i64) (i := i) (by omega) (by omega)
                obtain ⟨qa, b1, b2⟩ := hOB
                rw [Int.toNat_natCast] at b2
                have htk := take_next (l := ls) (i := i) hil
                have hsame : ∀ j, j < i + 1 → j < i ∨ ls.getD j 0 = ls.getD i 0 := fun j hj => by
                  have hOB := Nat.lt_or_ge j i
                  rcases hOB with h4 | h4
                  · exact .inl h4
                  · have hOB : j = i := by omega
                    obtain rfl := hOB
                    exact .inr rfl
                have hol : out.length ≤ i := by have := hsub.length_le; rw [List.length_take] at this; omega
                generalize ls.getD i 0 = y at *
                have look := N4.look (T := TT gt) keyed_mib y
                rw [sN y] at look
                repeat (first | refine EvO.plain rfl rfl rfl rfl rfl rfl ?_ | refine EvO.plain rfl rfl rfl rfl rfl (by assumption) ?_ | refine EvC.seq ?_ | refine EvC.region rfl ?_ | refine EvO.nil ?_ | refine at_normal ?_ | refine EvC.skip ?_ | refine EvC.block ?_)
                clear b1 b2
                cases hy : nd' y with
                | false =>
                  rw [hy] at look
                  skip
                  refine EvC.cond (t := false) rfl (fun e => nomatch e) (fun _ => ?_)
                  clear look
                  repeat (first | refine EvO.plain rfl rfl rfl rfl rfl rfl ?_ | refine EvC.region rfl ?_ | refine EvO.nil ?_ | refine at_normal ?_ | refine EvC.skip ?_ | refine be_normal ?_ | refine ro_normal ?_ | refine EvO.cons rfl rfl rfl (EvP.add64 rfl rfl (by omega) ?_))
                  refine ⟨ls.length - (i + 1), by omega, i + 1, out, nd', nm, ov, c4, _, S4, N4, sN, V4, by rw [htk]; exact hsub.trans (List.sublist_append_left ..), hkeep, fun j hj hn => ?_, by omega, rfl, hold ⟨rfl, rfl, rfl, rfl, rfl, trivial⟩⟩
                  have hOB := hsame j hj
                  rcases hOB with h5 | h5
                  · exact hdone j h5 hn
                  · rw [h5] at hn ⊢
                    exact (hkeep y hn).resolve_left (fun e => by rw [hy] at e; cases e)
                | true =>
                  rw [hy] at look
                  skip
                  refine EvC.cond (t := true) rfl (fun _ => ?_) (fun e => nomatch e)
                  clear look
                  repeat (first | refine EvO.plain rfl rfl rfl rfl rfl rfl ?_ | refine EvC.seq ?_ | refine EvC.region rfl ?_)
                  (refine EvO.cons rfl rfl rfl (EvP.newR (b := .cells [.int .i64 y] 3 false) (mk := .slice 1 1 true) S4 rfl rfl (fun h5 id5 A5 S5 hle5 o5 _ _ => ?_)))
                  have V5 := V4.step A5 S4.wf (fun e => e)
                  have N5 := N4.step A5 S4.wf (fun e => e)
                  skip
                  refine EvO.cons rfl rfl rfl (EvP.appendC S5 V5 (by decide) rfl rfl rfl rfl rfl rfl rfl rfl rfl (by decide) rfl rfl (afirst_all o5 rfl) rfl (by decide) rfl (by show (out.length + 1) * 8 ≤ 70368744177664; omega) (by omega) (fun ov6 h6 c6 A6 S6 X6 => ?_))
                  have N6 := N5.step A6 S5.wf (by decide)
                  repeat (first | refine EvO.plain rfl rfl rfl rfl rfl rfl ?_ | refine EvC.region rfl ?_ | refine EvO.nil ?_ | refine at_normal ?_)
                  (refine EvO.cons0 rfl rfl (EvP.mapPut S6 N6 (by decide) keyed_mib rfl rfl rfl (fun h7 A7 S7 N7 => ?_)))
                  have X7 := X6.step A7 S6.wf (by decide)
                  repeat (first | refine EvO.plain rfl rfl rfl rfl rfl rfl ?_ | refine EvC.region rfl ?_ | refine EvO.nil ?_ | refine at_normal ?_ | refine be_normal ?_ | refine ro_normal ?_ | refine EvO.cons rfl rfl rfl (EvP.add64 rfl rfl (by omega) ?_))
                  refine ⟨ls.length - (i + 1), by omega, i + 1, out ++ [y], setI nd' y false, _, ov6, c6, _, S7.down hle5, N7, sN.put y false, by rw [List.length_append, List.map_append]; exact X7, by rw [htk]; exact hsub.append (List.Sublist.refl _), fun z hz => ?_, fun j hj hn => ?_, by omega, rfl, hold ⟨rfl, rfl, rfl, rfl, rfl, trivial⟩⟩
                  · by_cases e : z = y
                    · exact .inr (List.mem_append_right _ (List.mem_singleton.2 e))
                    · have hOB := hkeep z hz
                      rcases hOB with h8 | h8
                      · exact .inl (by rw [setI_other e]; exact h8)
                      · exact .inr (List.mem_append_left _ h8)
                  · have hOB := hsame j hj
                    rcases hOB with h8 | h8
                    · exact List.mem_append_left _ (hdone j h8 hn)
                    · rw [h8]; exact List.mem_append_right _ (List.mem_singleton.2 rfl)
              · have hend : i = ls.length := by omega
                subst hend
                rw [List.take_length] at hsub
                repeat (first | refine EvO.plain rfl rfl rfl rfl rfl rfl ?_ | refine EvC.seq ?_ | refine EvC.region rfl ?_ | refine EvO.nil ?_ | refine at_normal ?_ | refine EvC.ret ?_ | refine EvC.exit ?_ | refine at_exit ?_ | refine be_same rfl ?_ | refine ro_exit ?_)
                (refine ret_is (v := ov) rfl rfl ?_)
                refine ⟨c4, out, nd, S4, ⟨Vec.ints V4, V4.nz⟩, ⟨hsub, hold0, horg, ⟨sn, mk, hlits⟩, fun x hx hn => ?_⟩⟩
                have hOB := List.getElem_of_mem hx
                obtain ⟨j, hj, rfl⟩ := hOB
                have := hdone j hj
                rw [List.getD_eq_getElem?_getD, List.getElem?_eq_getElem hj] at this
                exact this hn
set_option maxHeartbeats 4000000 in
theorem core_spec {L : List (List Int)} {ls : List Int} (C : At G h col n V S) (W : WI n S.s) (T : TI n S.s) (I : LInv n L S) {av : AV} (ra : IntRow G av ls) (hal : ls.length ≤ 2 ^ 30) (hls : ∀ x ∈ ls, ok n x) {bad : Int} (hb : ok n bad) :
    EvF (TT gt) X 54 [.ptr V.p 0, av, .int .i64 bad] h (fun r h' => ∃ col' out nd, HS G h' col' ∧ (IntRow h' r out ∧ NZ r) ∧ FromSays L S ls [bad] out (fun y => decide (y = bad)) nd) := by
  refine EvF.enter rfl rfl rfl ?_
  repeat (first | refine EvO.plain rfl rfl rfl rfl rfl rfl ?_ | refine EvC.seq ?_ | refine EvC.region rfl ?_ | refine EvO.nil ?_ | refine at_normal ?_)
  (refine EvO.cons rfl rfl rfl (EvP.newR (b := .cells [.int .i64 bad] 3 false) (mk := .slice 1 1 true) C.hs rfl rfl (fun h1 id A1 S1 hle o1 _ _ => ?_)))
  have C1 := C.more A1 S1 hle
  skip
  (refine EvO.cons rfl rfl rfl (EvP.newC (b := .map [] 0) (mk := .map) S1 31 rfl rfl (by decide) (fun h2 r col2 A2 N2 o2 c2 _ => ?_)))
  have C2 := C1.side (.inr (.inl rfl)) A2 N2
  have M2 : MapI col2 31 h2 (.map r) [] := .new o2 c2
  repeat (refine EvO.plain rfl rfl rfl rfl rfl rfl ?_)
  (refine EvO.cons0 rfl rfl (EvP.mapIns N2 M2 (by decide) keyed_mib rfl rfl rfl (fun h3 A3 N3 M3 => ?_)))
  have C3 := C2.side (.inr (.inl rfl)) A3 N3
  have sN : NdM (fun y => decide (y = bad)) (mput [] bad (.bool true)) := fun y => by
    have := NdM.none.put bad true y
    rw [this]
    show AV.bool (setI _ bad true y) = AV.bool (decide (y = bad))
    unfold setI
    by_cases e : y = bad
    · rw [if_pos e, decide_eq_true e]
    · rw [if_neg e, decide_eq_false e]
  have rb : IntRow (G.add id (.cells [.int .i64 bad] 3 false)) (.slice id 0 1 1 true) [bad] := vec_introw (col := fun _ => 1) (l := [bad]) (.mk (tail := []) (AH.get_add ..) rfl rfl (fun _ => ⟨Nat.le_refl _, rfl⟩))
  clear M2 o2 c2
  repeat (refine EvO.plain rfl rfl rfl rfl rfl rfl ?_)
  (refine EvO.cons rfl rfl rfl (EvP.callF rfl rfl rfl rfl (EvF.mono (from_spec C3 W T I (RowOf.mono hle ra) hal hls (lits := [bad]) (fun x hx => by rw [List.mem_singleton.1 hx]; exact hb) (show 1 ≤ 2 ^ 30 by decide) (fun h1 col1 A => RowOf.mono (N3.step A (fun e => by omega)).le rb) (.inr M3) sN) ?_)))
  rintro r5 h5 _ ⟨c5, out, nd, S5, row5, hF⟩
  repeat (first | refine EvO.plain rfl rfl rfl rfl rfl rfl ?_ | refine EvO.nil ?_ | refine at_normal ?_ | refine EvC.ret ?_)
  (refine ret_is (v := r5) rfl rfl ?_)
  exact ⟨c5, out, nd, S5.down hle, row5, hF⟩
end
end Sa
end Pf
end Go.Proofs.YtheiionmocfleaaDoor
