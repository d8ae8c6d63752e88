/- Literals taken one by one, and all that follows by units. -/
import Derived.Test.YtheiionmocfleaaDoorUaF
import Derived.Test.YtheiionmocfleaaDoorScD
/- Literals taken one by one, and all that follows by units: clash. -/
namespace Go.Proofs.YtheiionmocfleaaDoor
namespace Pf
namespace Sa
open Go Go.AI Go.Proofs
variable {gt : Tree (List AV)}
/-- No bools are a model in which some literals hold. -/
def NoM (n : Nat) (L : List (List Int)) (out : List Int) : Prop := ∀ B : List Bool, B.length = n → allB L B → ¬ ∀ x ∈ out, holdsB B x = true
section
variable {G h h1 : AH} {col col1 : Nat → Nat} {n x : Nat} {V : Lay} {S : Sr} {vals : List AV}
/-- The opposites of what was asked hold in each model in which the needed ones do. -/
theorem FromSays.opp {L : List (List Int)} {ls lits out : List Int} {nd0 nd : Int → Bool} (F : FromSays L S ls lits out nd0 nd) (I : LInv n L S) (T : TI n S.s) (hL : ∀ l ∈ L, ∀ x ∈ l, ok n x) (hdec : ∀ p, p < S.s.tr.length → S.why.getD (S.s.tr.getD p 0).natAbs none = none → lv S.s.ends p ≠ 0 → S.s.tr.getD p 0 ∈ ls) (h0 : ∀ x, nd0 x = true → x ∈ ls) (hneg : ∀ x ∈ lits, -x ∈ S.s.tr) {B : List Bool} (hB : B.length = n) (hA : allB L B) (hout : ∀ x ∈ out, holdsB B x = true) : ∀ x ∈ lits, holdsB B (-x) = true := by
  have hOB := F.mks
  obtain ⟨sn, mk, hs⟩ := hOB
  have key := mk.holds I T hB hL (allB_mem hA) (fun y hy _ => hout y (F.has y (by
    have hOB := F.org y hy
    rcases hOB with h1 | ⟨p, hp, h2, h3, h4⟩
    · exact h0 y h1
    · rw [← h2]; exact hdec p hp h3 h4) hy))
  intro x hx
  exact key _ (hneg x hx) (by rw [Int.natAbs_neg]; exact hs x hx)
/-- What a closed trail says of units. -/
theorem calm_all {L : List (List Int)} (I : LInv n L S) (W : WI n S.s) (T : TI n S.s) (C : CI S.s) (hL : ∀ l ∈ L, ∀ x ∈ l, ok n x) (hb : S.broken = false) (hh : S.s.head = S.s.tr.length) {lits : List Int} (ht : ∀ x ∈ lits, x ∈ S.s.tr) : ¬ Clash L lits := by
  refine no_clash' T.cons ht fun c hc => ?_
  have hOB := I.cov hb c hc
  rcases hOB with ⟨x, h1, h2⟩ | ⟨p, h1, _, h3⟩ | ⟨k, h1, h2⟩
  · exact settled_taut h1 h2 (hL c hc x h1).1
  · exact .inl ⟨_, h3, mem_getD h1⟩
  · exact settled_same h2 (settled_all W T C hh h1)
/-- Where units clash without anything taken, there is no model. -/
theorem clash_none {L : List (List Int)} (I : LInv n L S) (hL : ∀ l ∈ L, ∀ x ∈ l, ok n x) (hc : Clash (L ++ S.learnt) []) (out : List Int) : NoM n L out := fun B hB hA _ => by
  have hAll := rup_holds hB hL I.rup (allB_mem hA)
  refine clash_holds (m := B) (L := L ++ S.learnt) (ls := []) (fun l hl x hx => ?_) (fun x hx => nomatch hx) hAll (fun x hx => nomatch hx) hc
  rw [hB]
  have hOB := List.mem_append.1 hl
  rcases hOB with h2 | h2
  · exact hL l h2 x hx
  · have hOB := List.getElem_of_mem h2
    obtain ⟨j, hj, rfl⟩ := hOB
    have := (I.rup j hj).2.1
    rw [List.getD_eq_getElem?_getD, List.getElem?_eq_getElem hj] at this
    exact this x hx
/-- What clash answers. -/
def ClashSays (h' : AH) (n : Nat) (L : List (List Int)) (ls : List Int) (r : AV) : Prop :=
  (∃ cv out, r = .tuple [cv, .bool true] ∧ (IntRow h' cv out ∧ NZ cv) ∧ out.Sublist ls ∧ NoM n L out) ∨ (r = .tuple [.nilSlice, .bool false] ∧ ¬ Clash L ls)
set_option maxHeartbeats 8000000 in
theorem clash_spec {L : List (List Int)} {ls : List Int} (hL : ∀ l ∈ L, ∀ x ∈ l, ok n x) (C : At G h col n V S) (W : WI n S.s) (T : TI n S.s) (CIs : CI S.s) (I : LInv n L S) (hen : S.s.ends = []) {av : AV} (ra : IntRow G av ls) (hal : ls.length ≤ 2 ^ 20) (hls : ∀ x ∈ ls, ok n x) :
    EvF (TT gt) X 53 [.ptr V.p 0, av] h (fun r h' => ∃ G' col', G.le G' ∧ HS G' h' col' ∧ ClashSays h' n L ls r) := by
  have hsml := C.sml
  generalize hp : V.p = p
  refine EvF.enter rfl rfl rfl ?_
  subst hp
  have f1 := C.fld (gt := gt) (t := 4) (off := 12) rfl rfl rfl
  cases hbr : S.broken with
  | true =>
    have f1 : aload (TT gt) h 4 (.ptr V.p 12) = some (.bool true) := hbr ▸ f1
    repeat (first | refine EvO.plain rfl rfl rfl rfl rfl rfl ?_ | refine EvO.plain rfl rfl rfl rfl rfl (by assumption) ?_ | refine EvC.seq ?_ | refine EvC.region rfl ?_ | refine EvO.nil ?_ | refine at_normal ?_ | refine EvO.off rfl rfl rfl ?_)
    refine EvC.cond (t := true) rfl (fun _ => ?_) (fun e => nomatch e)
    repeat (first | refine EvO.plain rfl rfl rfl rfl rfl rfl ?_ | refine EvC.seq ?_ | refine EvC.region rfl ?_ | refine EvO.nil ?_ | refine at_normal ?_ | refine EvC.ret ?_ | refine at_ret ?_)
    (refine ret_are (vs := [.nilSlice, .bool true]) rfl rfl ?_)
    exact ⟨G, col, fun _ _ e => e, C.hs, .inl ⟨_, [], rfl, ⟨.nil, trivial⟩, List.nil_sublist _, clash_none I hL (I.brk hbr) []⟩⟩
  | false =>
    have f1 : aload (TT gt) h 4 (.ptr V.p 12) = some (.bool false) := hbr ▸ f1
    repeat (first | refine EvO.plain rfl rfl rfl rfl rfl rfl ?_ | refine EvO.plain rfl rfl rfl rfl rfl (by assumption) ?_ | refine EvC.seq ?_ | refine EvC.region rfl ?_ | refine EvO.nil ?_ | refine at_normal ?_ | refine EvO.plainOn rfl rfl rfl rfl rfl rfl ?_)
    refine EvO.on rfl rfl rfl (EvP.callF rfl rfl rfl rfl (EvF.mono (spread_spec C W T CIs (by rw [hen]; decide)) ?_))
    rintro r2 h2 _ ⟨c2, V2, S2, hp2, ⟨hcp2, hrn2⟩, A2, C2, P2, W2, T2, CI2, hres⟩
    have I2 := I.spr W.two P2
    have K2 := P2.kept W.two
    have hOB := P2.kept2
    obtain ⟨hwk2, hle2⟩ := hOB
    have hbr2 : S2.broken = false := K2.brk.trans hbr
    have hen2 : S2.s.ends = [] := K2.ends.trans hen
    rw [← hp2]
    clear f1
    rcases hres with ⟨rfl, hh⟩ | ⟨k, hk, rfl, hall⟩
    · skip
      refine EvO.on rfl rfl rfl (EvP.quiet (v := .bool false) rfl rfl ?_)
      repeat (first | refine EvO.plain rfl rfl rfl rfl rfl rfl ?_ | refine EvO.nil ?_ | refine at_normal ?_)
      refine EvC.cond (t := false) rfl (fun e => nomatch e) (fun _ => ?_)
      have ln := RowOf.len_any (T := TT gt) (t := 25) ra rfl h2
      repeat (first | refine EvO.plain rfl rfl rfl rfl rfl rfl ?_ | refine EvO.plain rfl rfl rfl rfl rfl (by assumption) ?_ | refine EvC.seq ?_ | refine EvC.region rfl ?_ | refine EvO.nil ?_ | refine at_normal ?_ | refine EvC.skip ?_ | refine EvC.block ?_)
      clear ln
      have Ah2 : Ah ls 0 S2 := ⟨fun p hp h1 h2 => absurd (by rw [hen2]; rfl) h2, fun i hi => absurd hi (Nat.not_lt_zero _)⟩
      generalize hp2' : V2.p = p2
      refine EvC.loop (fun m σ h' => ∃ (i : Nat) (c3 : Nat → Nat) (V3 : Lay) (S3 : Sr) (E : Nat → AV), V3.p = p2 ∧ At G h' c3 n V3 S3 ∧ WI n S3.s ∧ TI n S3.s ∧ CI S3.s ∧ LInv n L S3 ∧ Ah ls 0 S3 ∧ S3.s.head = S3.s.tr.length ∧ S3.broken = false ∧ S3.s.ends.length ≤ i ∧ (∀ j, j < i → ls.getD j 0 ∈ S3.s.tr) ∧ i ≤ ls.length ∧ m = ls.length - i ∧ σ = upds [(0, .ptr p2 0), (1, av), (18, av), (19, .int .i64 ls.length), (20, .int .i64 i)] E) (ls.length) ?_ ?_
      · exact ⟨0, c2, V2, S2, _, hp2', C2, W2, T2, CI2, I2, Ah2, hh, hbr2, by rw [hen2]; exact Nat.le_refl _, fun j hj => absurd hj (Nat.not_lt_zero _), Nat.zero_le _, rfl, hold ⟨rfl, rfl, rfl, rfl, rfl, trivial⟩⟩
      · clear C W T CIs I hen hbr hp2 hcp2 hrn2 A2 C2 P2 W2 T2 CI2 I2 K2 hwk2 hle2 hbr2 hen2 hh Ah2 hp2' S2 V2
        rintro m _ h2 ⟨i, c2, V2, S2, E, rfl, C2, W2, T2, CI2, I2, Ah2, hh, hbr2, hel2, hdone, hi, rfl, rfl⟩
        repeat (first | refine EvO.plain rfl rfl rfl rfl rfl rfl ?_ | refine EvC.seq ?_ | refine EvC.region rfl ?_ | refine EvO.nil ?_ | refine at_normal ?_)
        refine EvC.decide rfl (fun hil => ?_) (fun hil => ?_)
        · have hil : i < ls.length := by omega
          have hOB := (RowOf.mono C2.hs.le ra).at1 (T := TT gt) (t := 25) (e := 3) rfl rfl rfl rfl (k := .i64) (i := i) (by omega) (by omega)
          obtain ⟨qa, b1, b2⟩ := hOB
          rw [Int.toNat_natCast] at b2
          have hx := hls _ (getD_mem hil)
          have hxm := getD_mem hil
          have hsame : ∀ j, j < i + 1 → j < i ∨ ls.getD j 0 = ls.getD i 0 := fun j hj => by
            have hOB := Nat.lt_or_ge j i
            rcases hOB with h4 | h4
            · exact .inl h4
            · have hOB : j = i := by omega
              obtain rfl := hOB
              exact .inr rfl
          have htl2 := T2.len
          generalize ls.getD i 0 = y at *
          repeat (first | refine EvO.plain rfl rfl rfl rfl rfl rfl ?_ | refine EvO.plain rfl rfl rfl rfl rfl (by assumption) ?_ | refine EvC.seq ?_ | refine EvC.region rfl ?_ | refine EvO.nil ?_ | refine at_normal ?_ | refine EvC.skip ?_ | refine EvC.block ?_)
          (refine EvO.cons rfl rfl rfl (EvP.callF rfl rfl rfl rfl (EvF.mono (of_spec C2 y hx T2.cons) ?_)))
          rintro _ h2 _ ⟨rfl, rfl⟩
          clear b1 b2
          have hdec2 : ∀ p, p < S2.s.tr.length → S2.why.getD (S2.s.tr.getD p 0).natAbs none = none → lv S2.s.ends p ≠ 0 → S2.s.tr.getD p 0 ∈ ls := fun p hp h1 h2 => Ah2.dec p hp h1 h2 (by have := lv_le S2.s.ends p; omega)
          repeat (first | refine EvO.plain rfl rfl rfl rfl rfl rfl ?_ | refine EvC.seq ?_ | refine EvC.region rfl ?_ | refine EvO.nil ?_ | refine at_normal ?_ | refine EvC.block ?_)
          by_cases hm1 : ofT S2.s.tr y = -1
          · rw [hm1]
            refine EvC.cond (t := true) rfl (fun _ => ?_) (fun e => nomatch e)
            repeat (first | refine EvO.plain rfl rfl rfl rfl rfl rfl ?_ | refine EvC.seq ?_ | refine EvC.region rfl ?_)
            (refine EvO.cons rfl rfl rfl (EvP.callF rfl rfl rfl rfl (EvF.mono (core_spec C2 W2 T2 I2 ra (by omega) hls hx) ?_)))
            rintro r5 h5 _ ⟨c5, out, nd, S5, row5, hF⟩
            repeat (first | refine EvO.plain rfl rfl rfl rfl rfl rfl ?_ | refine EvO.nil ?_ | refine at_normal ?_ | refine EvC.ret ?_ | refine at_ret ?_ | refine be_ret ?_ | refine ro_ret ?_)
            (refine ret_are (vs := [r5, .bool true]) rfl rfl ?_)
            refine ⟨G, c5, fun _ _ e => e, S5, .inl ⟨r5, out, rfl, row5, hF.sub, fun B hB hA hout => ?_⟩⟩
            have h6 := hF.opp I2 T2 hL hdec2 (fun x hx' => by rw [of_decide_eq_true hx']; exact hxm) (fun x hx' => by rw [List.mem_singleton.1 hx']; exact ofT_neg1 hm1) hB hA hout y (List.mem_singleton.2 rfl)
            have h7 := hout y (hF.has y hxm (hF.old y (decide_eq_true rfl)))
            rw [holdsB_neg (by rw [hB]; exact hx), h7] at h6
            cases h6
          · refine EvC.cond (t := false) (isT (beq_false hm1)) (fun e => nomatch e) (fun _ => ?_)
            repeat (first | refine EvO.plain rfl rfl rfl rfl rfl rfl ?_ | refine EvC.seq ?_ | refine EvC.region rfl ?_ | refine EvO.nil ?_ | refine at_normal ?_)
            by_cases h0 : ofT S2.s.tr y = 0
            · rw [h0]
              refine EvC.cond (t := true) rfl (fun _ => ?_) (fun e => nomatch e)
              have f1 := C2.fld (gt := gt) (t := 25) (off := 6) rfl rfl rfl
              have f2 := C2.fld (gt := gt) (t := 25) (off := 5) rfl rfl rfl
              have ln := C2.trl.row.len (T := TT gt) (t := 25) rfl
              have hgl := C2.hs.le
              repeat (refine EvC.seq ?_)
              refine EvC.drawnH 1 (G) (p := [⟨0, false, 0, 1⟩, ⟨1, false, 0, 0⟩, ⟨2, false, 0, 0⟩, ⟨3, false, 0, 0⟩, ⟨4, false, 0, 0⟩, ⟨5, false, 0, 0⟩, ⟨6, false, 0, 0⟩, ⟨7, false, 0, 0⟩, ⟨8, false, 0, 0⟩, ⟨9, false, 0, 0⟩, ⟨10, false, 0, 0⟩, ⟨11, true, 0, 1⟩, ⟨12, false, 1, 1⟩, ⟨13, false, 1, 1⟩, ⟨14, true, 1, 2⟩]) rfl (by kernel_rfl) (by kernel_rfl) ?_
              repeat (first | refine EvH.easy1 rfl rfl rfl rfl rfl rfl rfl rfl rfl rfl ?_ | refine EvH.easy1 rfl rfl rfl rfl rfl rfl rfl rfl rfl (by assumption) ?_ | refine EvH.easyG (by assumption) rfl rfl rfl rfl rfl rfl rfl rfl rfl rfl (by first | exact veq_s rfl | assumption) ?_)
              refine EvH.new (b := .cells [.int .i64 S2.s.tr.length] 3 false) (mk := .slice 1 1 true) C2.hs hgl rfl rfl rfl rfl rfl rfl rfl rfl rfl (by simp [oeq, veqs, veq]) (fun h3 id A3 N3 hle3 gl3 _ o3 cid hid => ?_)
              have C3 := C2.more A3 N3 hle3
              clear f1 f2 ln
              skip
              (refine EvH.act rfl rfl rfl rfl rfl rfl rfl (EvP.appendC N3 C3.ends (by decide) rfl rfl rfl rfl rfl rfl rfl rfl rfl (by decide) rfl rfl (afirst_all o3 rfl) rfl (by decide) rfl (by show (S2.s.ends.length + 1) * 8 ≤ 70368744177664; omega) (by show S2.s.ends.length + 1 ≤ 1099511627776; omega) (fun ev h4 c4 A4 N4 X4 => ⟨fun _ => N4.le, ?_⟩)))
              have X4 : Vec c4 26 h4 3 1 ev (S2.s.ends ++ [S2.s.tr.length]).length ((S2.s.ends ++ [S2.s.tr.length]).map fun e : Nat => AV.int .i64 e) := by
                rw [List.length_append, List.map_append]; exact X4
              have hgl4 := N4.le
              have hob4 := A4.get C3.hs.wf C3.obj (by rw [C3.cpp]; decide)
              repeat (refine EvH.easy1 rfl rfl rfl rfl rfl rfl rfl rfl rfl rfl ?_)
              (refine EvH.act0 rfl rfl rfl rfl rfl rfl (EvP.store1 (u := ev) N4 20 hob4.1 (hob4.2.trans C3.cpp) (by decide) rfl rfl rfl rfl X4.sc (by show 6 < 13; decide) (fun h5 A5 N5 o5 _ _ => ⟨fun e => absurd e (by decide), ?_⟩)))
              have C5 := (C3.setEnds A4 X4 A5 N5 o5).less (G' := G) hle3 C2.lear
              repeat (first | refine EvO.plain rfl rfl rfl rfl rfl rfl ?_ | refine EvC.seq ?_ | refine EvC.region rfl ?_ | refine at_normal ?_ | refine EvH.nil ?_)
              (refine EvO.cons rfl rfl rfl (EvP.callF rfl rfl rfl rfl (EvF.mono (take_spec C5 y none hx h0 (fun k e => nomatch e) (by show S2.s.tr.length ≤ _; omega) (by show (S2.s.ends ++ [S2.s.tr.length]).length ≤ _; rw [List.length_append, List.length_singleton]; omega)) ?_)))
              rintro _ h6 _ ⟨rfl, c6, tv6, A6, C6⟩
              have hf' := ofT_zero.1 h0
              have T6 := (T2.level1 hh).push hx hf'.1 hf'.2
              have I6 : LInv n L (S2.level1.take y none) := I2.begin1.take hx h0 (fun k e => nomatch e) (fun _ => .inr (List.mem_append_right _ (List.mem_singleton.2 rfl))) (fun he => absurd he (by show S2.s.ends ++ [S2.s.tr.length] ≠ []; simp))
              have W6 : WI n (S2.level1.take y none).s := (⟨W2.oks, W2.two, W2.nod, W2.len, W2.rnod, W2.win, W2.wof⟩ : WI n { S2.s with ends := S2.s.ends ++ [S2.s.tr.length] }).push _
              have CI6 : CI (S2.level1.take y none).s := (CI2.level1 hh).push (T2.level1 hh) _
              have Ah6 : Ah ls 0 (S2.level1.take y none) := Ah2.level1.take I2.begin1.wl I2.begin1.ele hx h0 (fun _ => .inr (.inr hxm))
              have hyt : y ∈ (S2.level1.take y none).s.tr := List.mem_append_right _ (List.mem_singleton.2 rfl)
              have hold6 : ∀ z, z ∈ S2.s.tr → z ∈ (S2.level1.take y none).s.tr := fun z hz => List.mem_append_left _ hz
              have hel6 : (S2.level1.take y none).s.ends.length ≤ i + 1 := by
                show (S2.s.ends ++ [S2.s.tr.length]).length ≤ i + 1; rw [List.length_append, List.length_singleton]; omega
              have hbr6 : (S2.level1.take y none).broken = false := hbr2
              repeat (first | refine EvO.plain rfl rfl rfl rfl rfl rfl ?_ | refine EvC.seq ?_ | refine EvC.region rfl ?_ | refine EvO.nil ?_ | refine at_normal ?_)
              clear hob4 o5 X4 hgl4 hgl C3 C5 C2 N3 N4 N5 A3 A4 A5 A6
              have hX := spread_spec (gt := gt) C6 W6 T6 CI6 (Nat.le_trans hel6 (by omega))
              (refine EvO.cons rfl rfl rfl (EvP.callF rfl rfl rfl rfl (EvF.mono (hX) ?_)))
              rintro r7 h7 _ ⟨c7, V7, S7, hp7, ⟨hcp7, _⟩, A7, C7, P7, W7, T7, CI7, hres⟩
              have I7 := I6.spr W6.two P7
              have K7 := P7.kept W6.two
              have Ah7 := Ah6.spr I6 W6.two P7
              have hbr7 : S7.broken = false := K7.brk.trans hbr6
              have hOB := K7.pre
              obtain ⟨t7, ht7⟩ := hOB
              have he7 : S7.s.ends.length ≤ i + 1 := by rw [K7.ends]; exact hel6
              have hdec7 : ∀ p, p < S7.s.tr.length → S7.why.getD (S7.s.tr.getD p 0).natAbs none = none → lv S7.s.ends p ≠ 0 → S7.s.tr.getD p 0 ∈ ls := fun p hp h1 h2 => Ah7.dec p hp h1 h2 (by have := lv_le S7.s.ends p; omega)
              have hp7 : V7.p = V2.p := hp7
              rw [← hp7]
              rcases hres with ⟨rfl, hh7⟩ | ⟨k, hk, hr7, hall⟩
              · repeat (first | refine EvO.plain rfl rfl rfl rfl rfl rfl ?_ | refine EvC.seq ?_ | refine EvC.region rfl ?_ | refine EvO.nil ?_ | refine at_normal ?_)
                refine EvC.cond (t := false) rfl (fun e => nomatch e) (fun _ => ?_)
                repeat (first | refine EvO.plain rfl rfl rfl rfl rfl rfl ?_ | refine EvC.region rfl ?_ | refine EvO.nil ?_ | refine at_normal ?_ | refine EvC.skip ?_ | refine be_normal ?_ | refine ro_normal ?_ | refine EvO.cons rfl rfl rfl (EvP.add64 rfl rfl (by omega) ?_))
                refine ⟨ls.length - (i + 1), by omega, i + 1, c7, V7, S7, _, rfl, C7, W7, T7, CI7, I7, Ah7, hh7, hbr7, by rw [K7.ends]; exact hel6, fun j hj => ?_, by omega, rfl, hold ⟨rfl, rfl, rfl, rfl, rfl, trivial⟩⟩
                rw [ht7]
                have hOB := hsame j hj
                rcases hOB with h8 | h8
                · exact List.mem_append_left _ (hold6 _ (hdone j h8))
                · rw [h8]; exact List.mem_append_left _ hyt
              · have hcp7 : V7.cp = V2.cp := hcp7
                have hr7 : r7 = .ptr (V7.cp.getD k 0) 0 := by rw [hcp7]; exact hr7
                subst hr7
                repeat (first | refine EvO.plain rfl rfl rfl rfl rfl rfl ?_ | refine EvC.seq ?_ | refine EvC.region rfl ?_ | refine EvO.nil ?_ | refine at_normal ?_)
                refine EvC.cond (t := true) rfl (fun _ => ?_) (fun e => nomatch e)
                have hob := C7.cob k hk
                have f2 := load1 (T := TT gt) (t := 25) (off := 0) hob.1 rfl rfl rfl
                have hcb := W7.clen k
                repeat (first | refine EvO.plain rfl rfl rfl rfl rfl rfl ?_ | refine EvO.plain rfl rfl rfl rfl rfl (by assumption) ?_ | refine EvC.seq ?_ | refine EvC.region rfl ?_)
                clear f2
                have hX2 := from_spec (gt := gt) C7 W7 T7 I7 ra (by omega) hls (lits := S7.s.c k) (fun x hx => W7.oks k x hx) (by omega) (fun h1 col1 A => Vec.ints ((C7.cli k hk).step A C7.hs.wf (by omega))) (.inl ⟨rfl, rfl⟩) NdM.none
                (refine EvO.cons rfl rfl rfl (EvP.callF rfl rfl rfl rfl (EvF.mono (hX2) ?_)))
                rintro r8 h8 _ ⟨c8, out, nd, S8, row8, hF⟩
                repeat (first | refine EvO.plain rfl rfl rfl rfl rfl rfl ?_ | refine EvO.nil ?_ | refine at_normal ?_ | refine EvC.ret ?_ | refine at_ret ?_ | refine be_ret ?_ | refine ro_ret ?_)
                (refine ret_are (vs := [r8, .bool true]) rfl rfl ?_)
                refine ⟨G, c8, fun _ _ e => e, S8, .inl ⟨r8, out, rfl, row8, hF.sub, fun B hB hA hout => ?_⟩⟩
                have h6 := hF.opp I7 T7 hL hdec7 (fun x hx' => nomatch hx') hall hB hA hout
                have hOB := I7.sub k hk
                obtain ⟨l, hl, hsm⟩ := hOB
                have hOB := rup_holds hB hL I7.rup (allB_mem hA) l hl
                obtain ⟨z, hz, hz2⟩ := hOB
                have hzk := (hsm z).2 hz
                have h9 := h6 z hzk
                rw [holdsB_neg (by rw [hB]; exact W7.oks k z hzk), hz2] at h9
                cases h9
            · have h1 : ofT S2.s.tr y = 1 := by rcases ofT_rng S2.s.tr y with h | h | h <;> first | exact h | exact absurd h hm1 | exact absurd h h0
              refine EvC.cond (t := false) (isT (beq_false h0)) (fun e => nomatch e) (fun _ => ?_)
              repeat (first | refine EvO.plain rfl rfl rfl rfl rfl rfl ?_ | refine EvC.region rfl ?_ | refine EvO.nil ?_ | refine at_normal ?_ | refine EvC.skip ?_ | refine be_normal ?_ | refine ro_normal ?_ | refine EvO.cons rfl rfl rfl (EvP.add64 rfl rfl (by omega) ?_))
              refine ⟨ls.length - (i + 1), by omega, i + 1, c2, V2, S2, _, rfl, C2, W2, T2, CI2, I2, Ah2, hh, hbr2, by omega, fun j hj => ?_, by omega, rfl, hold ⟨rfl, rfl, rfl, rfl, rfl, trivial⟩⟩
              have hOB := hsame j hj
              rcases hOB with h8 | h8
              · exact hdone j h8
              · rw [h8]; exact ofT_one.1 h1
        · have hend : i = ls.length := by omega
          repeat (first | refine EvO.plain rfl rfl rfl rfl rfl rfl ?_ | refine EvC.seq ?_ | refine EvC.region rfl ?_ | refine EvO.nil ?_ | refine at_normal ?_ | refine EvC.ret ?_ | refine EvC.exit ?_ | refine at_exit ?_ | refine be_same rfl ?_ | refine ro_exit ?_)
          (refine ret_are (vs := [.nilSlice, .bool false]) rfl rfl ?_)
          refine ⟨G, c2, fun _ _ e => e, C2.hs, .inr ⟨rfl, calm_all I2 W2 T2 CI2 hL hbr2 hh fun x hx => ?_⟩⟩
          have hOB := List.getElem_of_mem hx
          obtain ⟨j, hj, rfl⟩ := hOB
          have := hdone j (by omega)
          rwa [List.getD_eq_getElem?_getD, List.getElem?_eq_getElem hj] at this
    · skip
      refine EvO.on rfl rfl rfl (EvP.quiet (v := .bool true) rfl rfl ?_)
      repeat (first | refine EvO.plain rfl rfl rfl rfl rfl rfl ?_ | refine EvO.nil ?_ | refine at_normal ?_)
      refine EvC.cond (t := true) rfl (fun _ => ?_) (fun e => nomatch e)
      repeat (first | refine EvO.plain rfl rfl rfl rfl rfl rfl ?_ | refine EvC.seq ?_ | refine EvC.region rfl ?_ | refine EvO.nil ?_ | refine at_normal ?_ | refine EvC.ret ?_ | refine at_ret ?_)
      (refine ret_are (vs := [.nilSlice, .bool true]) rfl rfl ?_)
      exact ⟨G, c2, fun _ _ e => e, C2.hs, .inl ⟨_, [], rfl, ⟨.nil, trivial⟩, List.nil_sublist _, clash_none I2 hL (clash0 I2 hen2 hk hall) []⟩⟩
end
end Sa
end Pf
end Go.Proofs.YtheiionmocfleaaDoor
