/- Units spread. -/
import Derived.Test.YtfjloafebkjadaaGreatDoorSaR
/- Units spread. -/
namespace Go.Proofs.YtfjloafebkjadaaGreatDoor
namespace Pf
namespace Sa
open Go Go.AI Go.Proofs
variable {gt : Tree (List AV)}
section
variable {G h : AH} {col : Nat → Nat} {n : Nat} {V : Lay} {S : Sr}
theorem all_ptr (cp : List Nat) (l : List Nat) : (l.map (ptrV cp)).all Go.AI.scalar = true := by
  rw [List.all_map, List.all_eq_true]; intro x _; rfl
theorem WI.clen {n : Nat} {S : Ws} (W : WI n S) (k : Nat) : (S.c k).length ≤ 2 * n + 1 := by
  have := nodup_len (m := (List.range (2 * n + 1)).map fun i : Nat => (i : Int) - n) (W.nod k) fun x hx => by
    have hOB := W.oks k x hx
    obtain ⟨_, h1, h2⟩ := hOB
    exact List.mem_map.2 ⟨(x + n).toNat, List.mem_range.2 (by omega), by omega⟩
  simpa using this
set_option maxHeartbeats 8000000 in
theorem spread_spec (C : At G h col n V S) (W : WI n S.s) (T : TI n S.s) (I : CI S.s) (hel : S.s.ends.length ≤ 2 ^ 30) :
    EvF (TT gt) X 101 [.ptr V.p 0] h (fun r h' => ∃ col' V' S', V'.p = V.p ∧ (V'.cp = V.cp ∧ V'.rn = V.rn) ∧ Step (fun c => 20 ≤ c) col h col' h' ∧ At G h' col' n V' S' ∧ Spr n S S' ∧ WI n S'.s ∧ TI n S'.s ∧ CI S'.s ∧ ((r = .nilPtr ∧ S'.s.head = S'.s.tr.length) ∨ ∃ k, k < S'.s.cls.length ∧ r = ptrV V.cp k ∧ ∀ y ∈ S'.s.c k, -y ∈ S'.s.tr)) := by
  have hsml := C.sml
  have h2two := W.two
  generalize hp : V.p = p
  generalize hcp : V.cp = cp
  generalize hrn : V.rn = rn0
  refine EvF.enter rfl rfl rfl ?_
  repeat (first | refine EvO.plain rfl rfl rfl rfl rfl rfl ?_ | refine EvC.seq ?_ | refine EvC.region rfl ?_ | refine EvO.nil ?_ | refine at_normal ?_ | refine EvC.block ?_)
  refine EvC.loop (fun m σ h' => ∃ (col1 : Nat → Nat) (V1 : Lay) (S1 : Sr) (E : Nat → AV), V1.p = p ∧ (V1.cp = cp ∧ V1.rn = rn0) ∧ Step (fun c => 20 ≤ c) col h col1 h' ∧ At G h' col1 n V1 S1 ∧ Spr n S S1 ∧ WI n S1.s ∧ TI n S1.s ∧ CI S1.s ∧ m = n - S1.s.head ∧ σ = upds [(0, .ptr p 0)] E) (n - S.s.head) ?_ ?_
  · exact ⟨col, V, S, _, hp, ⟨hcp, hrn⟩, Step.refl C.hs, C, .refl, W, T, I, rfl, hold ⟨rfl, trivial⟩⟩
  · rintro m _ h1 ⟨col1, V1, S1, E, hp1, ⟨hcp1, hrn1⟩, A1, C1, P1, W1, T1, I1, rfl, rfl⟩
    subst hp1 hcp1 hrn1
    clear C W T I
    have hTl := T1.len
    have f1 := C1.fld (gt := gt) (t := 3) (off := 7) rfl rfl rfl
    have f2 := C1.fld (gt := gt) (t := 35) (off := 5) rfl rfl rfl
    have ln := C1.trl.row.len (T := TT gt) (t := 35) rfl
    repeat (refine EvC.seq ?_)
    refine EvC.drawn (p := [⟨0, false, 0, 0⟩, ⟨1, false, 0, 0⟩, ⟨2, false, 0, 0⟩, ⟨3, false, 0, 0⟩, ⟨4, false, 0, 0⟩, ⟨5, false, 0, 0⟩, ⟨6, false, 0, 0⟩, ⟨7, false, 0, 0⟩, ⟨8, false, 0, 0⟩, ⟨9, false, 0, 0⟩]) rfl (by kernel_rfl) (by kernel_rfl) rfl ?_
    repeat (first | refine at_normal ?_ | refine EvR.nil ?_ | refine EvR.plain rfl rfl rfl rfl rfl rfl rfl ?_ | refine EvR.plain rfl rfl rfl rfl rfl rfl (by assumption) ?_)
    clear ln
    refine EvC.decide rfl (fun hlt => ?_) (fun hlt => ?_)
    · have hlt : S1.s.head < S1.s.tr.length := by omega
      have hOB := Vec.atI (gt := gt) C1.trl (i := S1.s.head) (by omega) (by omega)
      obtain ⟨qa, qb, a1, a2⟩ := hOB
      rw [Int.toNat_natCast] at a2
      have hok : ok n (S1.s.tr.getD S1.s.head 0) := T1.oks _ (mem_getD hlt)
      generalize hl : S1.s.tr.getD S1.s.head 0 = l at *
      obtain ⟨l0, l1, l2⟩ := hok
      have hgok : ok n (-l) := ⟨by omega, by omega, by omega⟩
      have hgone := Gn.start W1 (-l)
      generalize hgl : -l = gone at *
      repeat (first | refine EvC.seq ?_ | refine at_normal ?_ | refine EvC.skip ?_ | refine EvC.block ?_ | refine EvC.scope ?_)
      refine EvC.drawn (p := [⟨0, false, 0, 0⟩, ⟨1, false, 0, 0⟩, ⟨2, false, 0, 0⟩, ⟨3, false, 0, 0⟩, ⟨4, false, 0, 0⟩, ⟨5, false, 0, 0⟩, ⟨6, false, 0, 0⟩, ⟨7, false, 0, 0⟩, ⟨8, false, 0, 0⟩, ⟨9, false, 0, 0⟩, ⟨10, false, 0, 0⟩, ⟨11, false, 0, 0⟩]) rfl (by kernel_rfl) (by kernel_rfl) rfl ?_
      repeat (first | refine EvC.seq ?_ | refine at_normal ?_ | refine EvR.nil ?_ | refine EvR.plain rfl rfl rfl rfl rfl rfl rfl ?_ | refine EvR.plain rfl rfl rfl rfl rfl rfl (by assumption) ?_ | refine EvR.cons rfl rfl rfl rfl (EvP.neg64 rfl (by omega) ?_))
      rw [hgl]
      clear a1 a2 f1 f2
      have hixn := ixn hgok
      have hgw := wi_lt hgok
      have hOB := C1.row (wi gone) hgw (by omega)
      obtain ⟨u, hu, VU⟩ := hOB
      have hOB := C1.wat.at1 (T := TT gt) (t := 119) (k := .i64) (i := ix gone) rfl rfl rfl rfl (by omega) (by omega)
      obtain ⟨p1, ov, c1, c2, c3⟩ := hOB
      rw [hixn.2.2, hu] at c3
      have hOB : ov = u := (Option.some.inj c3).symm
      obtain rfl := hOB
      have f3 := C1.fld (gt := gt) (t := 119) (off := 4) rfl rfl rfl
      have hself : h1.le h1 := fun _ _ e => e
      have q1 := C1.wat.veq
      have q2 := VU.veq
      refine EvC.drawnH 1 (h1) (p := [⟨0, false, 0, 1⟩, ⟨1, false, 0, 1⟩, ⟨2, false, 0, 1⟩, ⟨3, false, 0, 1⟩, ⟨4, false, 0, 0⟩, ⟨5, true, 0, 1⟩, ⟨6, false, 1, 1⟩, ⟨7, false, 1, 1⟩, ⟨8, false, 1, 1⟩]) rfl (by kernel_rfl) (by kernel_rfl) ?_
      repeat (first | refine EvH.easy1 rfl rfl rfl rfl rfl rfl rfl rfl rfl rfl ?_ | refine EvH.easyG (by assumption) rfl rfl rfl rfl rfl rfl rfl rfl rfl rfl (by first | exact veq_s rfl | assumption) ?_ | refine EvH.easyG (by assumption) rfl rfl rfl rfl rfl rfl rfl rfl rfl (by assumption) (by first | exact veq_s rfl | assumption) ?_)
      refine EvH.act rfl rfl rfl rfl rfl rfl rfl (EvP.callF rfl rfl rfl rfl (EvF.mono (index_spec gone (by have := hgok.2; omega)) ?_))
      rintro _ h1 _ ⟨rfl, rfl⟩
      refine ⟨fun _ => hself, ?_⟩
      repeat (first | refine EvH.easy1 rfl rfl rfl rfl rfl rfl rfl rfl rfl rfl ?_ | refine EvH.easy1 rfl rfl rfl rfl rfl rfl rfl rfl rfl (by assumption) ?_)
      have hOB := KAt.start (T := TT gt) (t := 118) rfl rfl rfl VU
      obtain ⟨kp0, hk1, K0⟩ := hOB
      have ln := VU.row.len (T := TT gt) (t := 118) rfl
      repeat (first | refine EvO.plain rfl rfl rfl rfl rfl rfl ?_ | refine EvO.plain rfl rfl rfl rfl rfl (by assumption) ?_ | refine EvC.seq ?_ | refine EvC.region rfl ?_ | refine EvO.nil ?_ | refine at_normal ?_ | refine EvC.block ?_ | refine EvC.label ?_ | refine EvH.nil ?_)
      clear ln hk1 c1 c2 f3 q1 q2 hself
      have J0 : Inn G h h1 col col1 n V1.p V1.cp V1.rn S S1 V1 gone (S1.s.row (wi gone)) ov kp0 0 [] ((S1.s.row (wi gone)).map (ptrV V1.cp)) := {
        A := A1, C := C1.turn _, vp := rfl, vc := rfl, vr := rfl, K := K0, rw := hu, P := P1, W := W1, T := T1, I := I1, gok := hgok, hd := hlt, hg := by rw [hl, ← hgl, Int.neg_neg]
        g := hgone, row := rfl, kle := Nat.le_refl _, kle2 := Nat.zero_le _, c1 := rfl, c2 := rfl }
      have hol := Nat.le_trans (rows_len W1 (wi gone)) C1.many
      generalize hrow : S1.s.row (wi gone) = oldL at *
      refine EvC.loop (fun m σ h' => ∃ (k : Nat) (kp : AV) (col2 : Nat → Nat) (V2 : Lay) (S2 : Sr) (keepL : List Nat) (cs : List AV) (E : Nat → AV), Inn G h h' col col2 n V1.p V1.cp V1.rn S S2 V2 gone oldL ov kp k keepL cs ∧ S2.s.head = S1.s.head ∧ m = oldL.length - k ∧ σ = upds [(0, .ptr V1.p 0), (3, .int .i64 gone), (4, ov), (5, kp), (47, ov), (48, .int .i64 oldL.length), (49, .int .i64 k)] E) (oldL.length) ?_ ?_
      · exact ⟨0, kp0, col1, V1, S1, [], _, _, J0, rfl, rfl, hold ⟨rfl, rfl, rfl, rfl, rfl, rfl, rfl, trivial⟩⟩
      · clear C1 A1 P1 W1 T1 I1 hgone VU hu K0 J0 hl l0 l1 l2 hTl
        rintro m _ h1 ⟨k, kp, col2, V2, S2, keepL, cs, E, J, hhd, rfl, rfl⟩
        have hvp := J.vp
        have hvc := J.vc
        have hvr := J.vr
        repeat (first | refine EvO.plain rfl rfl rfl rfl rfl rfl ?_ | refine EvC.seq ?_ | refine EvC.region rfl ?_ | refine EvO.nil ?_ | refine at_normal ?_)
        refine EvC.decide rfl (fun hk => ?_) (fun hk => ?_)
        · have hk : k < oldL.length := by omega
          have hOB : ∃ kk, oldL.getD k 0 = kk := ⟨_, rfl⟩
          obtain ⟨kk, hkk⟩ := hOB
          have hOB := J.facts hk hkk
          obtain ⟨hcl, hwi, hcs, hkn⟩ := hOB
          have hOB := (J.K.row).at1 (T := TT gt) (t := 118) (e := 149) rfl rfl rfl rfl (k := .i64) (i := k) (by omega) (by omega)
          obtain ⟨q, b1, b2⟩ := hOB
          rw [Int.toNat_natCast, hcs] at b2
          have hob := J.C.cob kk hcl
          have b2 : aload (TT gt) h1 149 q = some (.ptr (V2.cp.getD kk 0) 0) := b2
          have f1 := load1 (T := TT gt) (t := 35) (off := 0) hob.1 rfl rfl rfl
          have htw := J.W.two kk hcl
          have hOB := Vec.atI (gt := gt) (J.C.cli kk hcl) (i := 0) (by omega) (by omega)
          obtain ⟨xa, xb, d1, d2⟩ := hOB
          repeat (first | refine EvO.plain rfl rfl rfl rfl rfl rfl ?_ | refine EvO.plain rfl rfl rfl rfl rfl (by assumption) ?_ | refine EvC.seq ?_ | refine EvC.region rfl ?_ | refine EvO.nil ?_ | refine at_normal ?_ | refine EvC.skip ?_ | refine EvC.block ?_)
          clear b1 b2
          refine EvC.join (fun σ h' => ∃ (cz : Nat → Nat) (Z : Sr) (E : Nat → AV), Inn G h h' col cz n V1.p V1.cp V1.rn S Z V2 gone oldL ov kp k keepL cs ∧ Z.s.head = S1.s.head ∧ Z.s.w kk 1 = gone ∧ kk < Z.s.cls.length ∧ σ = upds [(0, .ptr V1.p 0), (3, .int .i64 gone), (4, ov), (5, kp), (6, .int .i64 k), (7, .ptr (V2.cp.getD kk 0) 0), (47, ov), (48, .int .i64 oldL.length), (49, .int .i64 k)] E) ?_ ?_
          · by_cases e0 : (S2.s.c kk).getD (0 : Int).toNat 0 = gone
            · refine EvC.cond (t := true) (isT (beq_true e0)) (fun _ => ?_) (fun e => nomatch e)
              have hOB := Vec.atI (gt := gt) (J.C.cli kk hcl) (i := 1) (by omega) (by omega)
              obtain ⟨ya, yb, g1, g2⟩ := hOB
              skip
              refine EvC.drawn (p := [⟨0, false, 0, 0⟩, ⟨1, false, 0, 0⟩, ⟨2, false, 0, 0⟩, ⟨3, false, 0, 0⟩, ⟨4, false, 0, 0⟩, ⟨5, false, 0, 0⟩, ⟨6, false, 0, 0⟩, ⟨7, false, 0, 0⟩, ⟨8, false, 0, 0⟩, ⟨9, false, 0, 0⟩, ⟨10, false, 0, 0⟩, ⟨11, false, 0, 0⟩, ⟨12, false, 0, 0⟩, ⟨13, false, 0, 0⟩, ⟨14, false, 0, 0⟩, ⟨15, false, 0, 0⟩, ⟨16, false, 0, 0⟩, ⟨17, false, 0, 0⟩, ⟨18, false, 0, 0⟩, ⟨19, false, 0, 0⟩, ⟨20, false, 0, 0⟩, ⟨21, true, 0, 1⟩, ⟨22, false, 1, 1⟩, ⟨23, true, 1, 2⟩]) rfl (by kernel_rfl) (by kernel_rfl) rfl ?_
              repeat (first | refine EvR.plain rfl rfl rfl rfl rfl rfl rfl ?_ | refine EvR.plain rfl rfl rfl rfl rfl rfl (by assumption) ?_)
              (refine EvR.cons0 rfl rfl rfl (EvP.setV (T := TT gt) (t := 35) (k := .i64) (i := 0) (u := .int .i64 ((S2.s.c kk).getD (1 : Int).toNat 0)) J.C.hs (J.C.cli kk hcl) (by omega) rfl rfl rfl (by omega) (by omega) d1 rfl rfl rfl rfl (fun h2 A2 N2 X2 _ => ?_)))
              clear d2 g2 f1
              repeat (refine EvR.plain rfl rfl rfl rfl rfl rfl (by assumption) ?_)
              (refine EvR.cons0 rfl rfl rfl (EvP.setV (T := TT gt) (t := 35) (k := .i64) (i := 1) (u := .int .i64 ((S2.s.c kk).getD (0 : Int).toNat 0)) N2 X2 (by omega) rfl rfl rfl (by omega) (by omega) g1 rfl rfl rfl rfl (fun h3 A3 N3 X3 _ => ?_)))
              have X3 : Vec col2 (43 + 2 * n + 2 * kk) h3 3 1 (V2.cl.getD kk .nilPtr) (S2.s.c kk).length ((swap (S2.s.c kk) 0 1).map (AV.int .i64)) := by
                rw [← List.map_set, ← List.map_set] at X3; exact X3
              have C3 := J.C.setCl hcl (swap_len _ _ _) (A2.trans A3) N3 X3
              repeat (first | refine EvR.nil ?_ | refine jo_normal ?_)
              refine ⟨col2, _, _, J.sw hk hkk hcl (A2.trans A3) C3, hhd, ?_, by rw [sw_len]; exact hcl, hold ⟨rfl, rfl, rfl, rfl, rfl, rfl, rfl, rfl, rfl, trivial⟩⟩
              rw [sw01_w S2.s hcl htw kk 1 (by omega), if_pos rfl]; exact e0
            · refine EvC.cond (t := false) (isT (beq_false e0)) (fun e => nomatch e) (fun _ => ?_)
              repeat (first | refine EvC.skip ?_ | refine jo_normal ?_)
              refine ⟨col2, S2, _, J, hhd, ?_, hcl, hold ⟨rfl, rfl, rfl, rfl, rfl, rfl, rfl, rfl, rfl, trivial⟩⟩
              obtain ⟨i, hi, hw⟩ := hwi
              have hOB := two_lt hi
              rcases hOB with rfl | rfl
              · exact absurd hw e0
              · exact hw
          · clear J d1 d2 f1 hob hwi hcs hkn htw hhd hcl
            rintro _ h1 ⟨cz, Z, E, J, hhd, hw1, hcl, rfl⟩
            have htw := J.W.two kk hcl
            have hkn := (J.facts hk hkk).2.2.2
            have hob := J.C.cob kk hcl
            have f1 := load1 (T := TT gt) (t := 35) (off := 0) hob.1 rfl rfl rfl
            have hOB := Vec.atI (gt := gt) (J.C.cli kk hcl) (i := 0) (by omega) (by omega)
            obtain ⟨xa, xb, d1, d2⟩ := hOB
            repeat (first | refine EvO.plain rfl rfl rfl rfl rfl rfl ?_ | refine EvO.plain rfl rfl rfl rfl rfl (by assumption) ?_ | refine EvC.seq ?_ | refine EvC.region rfl ?_ | refine at_normal ?_)
            rw [← hvp] at J ⊢
            (refine EvO.cons rfl rfl rfl (EvP.callF rfl rfl rfl rfl (EvF.mono (of_spec J.C ((Z.s.c kk).getD (0 : Int).toNat 0) (J.W.wok hcl (i := 0) (by omega)) J.T.cons) ?_)))
            rintro _ h1 _ ⟨rfl, rfl⟩
            repeat (first | refine EvO.plain rfl rfl rfl rfl rfl rfl ?_ | refine EvO.nil ?_ | refine at_normal ?_)
            have hm0 : Z.s.w kk 0 = (Z.s.c kk).getD (0 : Int).toNat 0 := rfl
            by_cases e1 : Z.s.w kk 0 ∈ Z.s.tr
            · refine EvC.cond (t := true) (isT (p := (ofT Z.s.tr ((Z.s.c kk).getD (0 : Int).toNat 0) == 1)) (beq_true (ofT_one.2 e1))) (fun _ => ?_) (fun e => nomatch e)
              repeat (first | refine EvO.plain rfl rfl rfl rfl rfl rfl ?_ | refine EvC.seq ?_ | refine EvC.region rfl ?_)
              (refine EvO.cons rfl rfl rfl (EvP.newR (b := .cells [.ptr (V2.cp.getD kk 0) 0] 149 false) (mk := .slice 1 1 true) J.C.hs rfl rfl (fun h2 id A2 N2 hle o2 _ _ => ?_)))
              have C2 := J.C.more A2 N2 hle
              have K2 := J.K.step A2 J.C.hs.wf (fun e => e)
              skip
              (refine EvO.cons rfl rfl rfl (EvP.keepC (k := 1) (t := 118) (new := [.ptr (V2.cp.getD kk 0) 0]) N2 (by omega) K2 rfl rfl rfl rfl rfl rfl rfl rfl rfl (by have := J.kle; omega) (by omega) rfl (afirst_all o2 rfl) rfl rfl (fun kq h3 A3 N3 K3 => ?_)))
              have C3 := C2.past hgw A3 N3
              have C4 := C3.less (G' := G) hle J.C.lear
              repeat (first | refine EvO.plain rfl rfl rfl rfl rfl rfl ?_ | refine EvC.region rfl ?_ | refine EvO.nil ?_ | refine at_normal ?_ | refine EvC.exit ?_ | refine at_exit ?_ | refine be_same rfl ?_ | refine ro_normal ?_ | refine EvO.cons rfl rfl rfl (EvP.add64 rfl rfl (by omega) ?_))
              refine ⟨oldL.length - (k + 1), by omega, k + 1, kq, cz, V2, Z, _, _, _, J.stay hk hkk ((A2.mono fun c e => e.elim).trans (A3.mono fun c e => by omega)) C4 K3 hw1 e1, hhd, rfl, hold ⟨rfl, rfl, rfl, rfl, rfl, rfl, rfl, trivial⟩⟩
            · refine EvC.cond (t := false) (isT (p := (ofT Z.s.tr ((Z.s.c kk).getD (0 : Int).toNat 0) == 1)) (beq_false (fun e => e1 (ofT_one.1 e)))) (fun e => nomatch e) (fun _ => ?_)
              clear d1 d2
              repeat (first | refine EvO.plain rfl rfl rfl rfl rfl rfl ?_ | refine EvC.seq ?_ | refine EvC.region rfl ?_ | refine EvO.nil ?_ | refine at_normal ?_ | refine EvC.skip ?_ | refine EvC.block ?_)
              refine EvC.loop (fun m σ h' => h' = h1 ∧ ∃ (i : Nat) (E : Nat → AV), 2 ≤ i ∧ i ≤ (Z.s.c kk).length ∧ (∀ j, 2 ≤ j → j < i → -((Z.s.c kk).getD j 0) ∈ Z.s.tr) ∧ m = (Z.s.c kk).length - i ∧ σ = upds [(0, .ptr V2.p 0), (3, .int .i64 gone), (4, ov), (5, kp), (6, .int .i64 k), (7, .ptr (V2.cp.getD kk 0) 0), (8, .int .i64 i), (47, ov), (48, .int .i64 oldL.length), (49, .int .i64 k)] E) ((Z.s.c kk).length - 2) ?_ ?_
              · exact ⟨rfl, 2, _, Nat.le_refl _, htw, fun j h3 h4 => absurd h4 (by omega), rfl, hold ⟨rfl, rfl, rfl, rfl, rfl, rfl, rfl, rfl, rfl, rfl, trivial⟩⟩
              · rintro m _ h1 ⟨rfl, i, E, hi2, hil, hfl, rfl, rfl⟩
                have ln := (J.C.cli kk hcl).row.len (T := TT gt) (t := 35) rfl
                have hcb := J.W.clen kk
                repeat (first | refine EvO.plain rfl rfl rfl rfl rfl rfl ?_ | refine EvO.plain rfl rfl rfl rfl rfl (by assumption) ?_ | refine EvC.seq ?_ | refine EvC.region rfl ?_ | refine EvO.nil ?_ | refine at_normal ?_)
                clear ln
                refine EvC.decide rfl (fun hi => ?_) (fun hi => ?_)
                · have hi : i < (Z.s.c kk).length := by omega
                  have hOB := Vec.atI (gt := gt) (J.C.cli kk hcl) (i := i) (by omega) (by omega)
                  obtain ⟨xa, xb, d1, d2⟩ := hOB
                  have hLo : ok n ((Z.s.c kk).getD (i : Int).toNat 0) := J.W.oks _ _ (mem_getD (by rw [Int.toNat_natCast]; exact hi))
                  repeat (first | refine EvO.plain rfl rfl rfl rfl rfl rfl ?_ | refine EvO.plain rfl rfl rfl rfl rfl (by assumption) ?_ | refine EvC.seq ?_ | refine EvC.region rfl ?_ | refine at_normal ?_ | refine EvC.skip ?_ | refine EvC.block ?_)
                  (refine EvO.cons rfl rfl rfl (EvP.callF rfl rfl rfl rfl (EvF.mono (of_spec J.C ((Z.s.c kk).getD (i : Int).toNat 0) hLo J.T.cons) ?_)))
                  rintro _ h1 _ ⟨rfl, rfl⟩
                  repeat (first | refine EvO.plain rfl rfl rfl rfl rfl rfl ?_ | refine EvO.nil ?_ | refine at_normal ?_)
                  by_cases e2 : ofT Z.s.tr ((Z.s.c kk).getD (i : Int).toNat 0) = -1
                  · refine EvC.cond (t := false) (isT (p := (ofT Z.s.tr ((Z.s.c kk).getD (i : Int).toNat 0) != -1)) (bne_false e2)) (fun e => nomatch e) (fun _ => ?_)
                    repeat (first | refine EvO.plain rfl rfl rfl rfl rfl rfl ?_ | refine EvC.region rfl ?_ | refine EvO.nil ?_ | refine at_normal ?_ | refine EvC.skip ?_ | refine be_normal ?_ | refine ro_normal ?_ | refine EvO.cons rfl rfl rfl (EvP.add64 rfl rfl (by omega) ?_))
                    refine ⟨(Z.s.c kk).length - (i + 1), by omega, rfl, i + 1, _, by omega, by omega, fun j h3 h4 => ?_, rfl, hold ⟨rfl, rfl, rfl, rfl, rfl, rfl, rfl, rfl, rfl, rfl, trivial⟩⟩
                    have hOB := Nat.lt_or_ge j i
                    rcases hOB with h5 | h5
                    · exact hfl j h3 h5
                    · have hOB : j = i := by omega
                      obtain rfl := hOB
                      exact ofT_neg1 e2
                  · refine EvC.cond (t := true) (isT (p := (ofT Z.s.tr ((Z.s.c kk).getD (i : Int).toNat 0) != -1)) (bne_true e2)) (fun _ => ?_) (fun e => nomatch e)
                    have hOB := Vec.atI (gt := gt) (J.C.cli kk hcl) (i := 1) (by omega) (by omega)
                    obtain ⟨ya, yb, g1, g2⟩ := hOB
                    have hgle := J.C.hs.le
                    repeat (refine EvC.seq ?_)
                    refine EvC.drawnH 1 (G) (p := [⟨0, false, 0, 0⟩, ⟨1, false, 0, 0⟩, ⟨2, false, 0, 0⟩, ⟨3, false, 0, 0⟩, ⟨4, false, 0, 0⟩, ⟨5, false, 0, 0⟩, ⟨6, false, 0, 0⟩, ⟨7, false, 0, 0⟩, ⟨8, false, 0, 1⟩, ⟨9, false, 0, 0⟩, ⟨10, false, 0, 0⟩, ⟨11, false, 0, 0⟩, ⟨12, false, 0, 0⟩, ⟨13, false, 0, 0⟩, ⟨14, false, 0, 0⟩, ⟨15, false, 0, 0⟩, ⟨16, false, 0, 0⟩, ⟨17, false, 0, 0⟩, ⟨18, false, 0, 0⟩, ⟨19, false, 0, 0⟩, ⟨20, false, 0, 0⟩, ⟨21, false, 0, 0⟩, ⟨22, false, 0, 0⟩, ⟨23, true, 0, 1⟩, ⟨24, false, 1, 1⟩, ⟨25, true, 1, 2⟩]) rfl (by kernel_rfl) (by kernel_rfl) ?_
                    repeat (first | refine EvH.easy1 rfl rfl rfl rfl rfl rfl rfl rfl rfl rfl ?_ | refine EvH.easy1 rfl rfl rfl rfl rfl rfl rfl rfl rfl (by assumption) ?_ | refine EvH.easyG (by assumption) rfl rfl rfl rfl rfl rfl rfl rfl rfl rfl (by first | exact veq_s rfl | assumption) ?_)
                    (refine EvH.act0 rfl rfl rfl rfl rfl rfl (EvP.setV (T := TT gt) (t := 35) (k := .i64) (i := 1) (u := .int .i64 ((Z.s.c kk).getD (i : Int).toNat 0)) J.C.hs (J.C.cli kk hcl) (by omega) rfl rfl rfl (by omega) (by omega) g1 rfl rfl rfl rfl (fun h2 A2 N2 X2 _ => ⟨fun _ => N2.le, ?_⟩)))
                    clear d2 g2 f1
                    have hgle2 := N2.le
                    repeat (refine EvH.easy1 rfl rfl rfl rfl rfl rfl rfl rfl rfl (by assumption) ?_)
                    (refine EvH.act0 rfl rfl rfl rfl rfl rfl (EvP.setV (T := TT gt) (t := 35) (k := .i64) (i := i) (u := .int .i64 ((Z.s.c kk).getD (1 : Int).toNat 0)) N2 X2 (by omega) rfl rfl rfl (by omega) (by omega) d1 rfl rfl rfl rfl (fun hz A3 N3 X3 _ => ⟨fun e => absurd e (by decide), ?_⟩)))
                    rw [← List.map_set, ← List.map_set, Int.toNat_natCast] at X3
                    have C3 := J.C.setCl hcl (l := swap (Z.s.c kk) 1 i) (swap_len _ _ _) (A2.trans A3) N3 X3
                    have A23 := A2.trans A3
                    have hnew : -((Z.s.c kk).getD i 0) ∉ Z.s.tr := fun h5 => e2 (by
                      rw [Int.toNat_natCast]
                      unfold ofT
                      rw [if_neg (J.T.neg h5), if_pos h5])
                    have hks := hk
                    obtain ⟨Zm, hZm⟩ : ∃ Zm, Zm = ({ Z with s := Z.s.sw kk 1 i } : Sr) := ⟨_, rfl⟩
                    have C3 : AtX G hz cz n V2 Zm (valT n Z.s.tr) (wi gone) := hZm ▸ C3
                    have hc4 : Zm.s.c kk = swap (Z.s.c kk) 1 i := by rw [hZm]; show (Z.s.sw kk 1 i).c kk = _; rw [sw_c Z.s hcl, if_pos rfl]
                    have hl4 : (Zm.s.c kk).length = (Z.s.c kk).length := by rw [hc4, swap_len]
                    have hk : kk < Zm.s.cls.length := by rw [hZm]; show kk < (Z.s.sw kk 1 i).cls.length; rw [sw_len]; exact hcl
                    have h0 : 0 < (Zm.s.c kk).length := by omega
                    have h1 : 1 < (Zm.s.c kk).length := by omega
                    have h1i : (1 : Int) < ((Zm.s.c kk).length : Int) := by omega
                    have hoks : ∀ y ∈ Zm.s.c kk, ok n y := fun y hy => by rw [hc4, swap_mem (by omega) hi] at hy; exact J.W.oks _ _ hy
                    have hwat : Zm.s.wat = Z.s.wat := by rw [hZm]; rfl
                    have hW : Zm.s.wat.length = 2 * n + 2 := by rw [hwat]; exact J.W.len
                    have hb : ∀ j, (Zm.s.row j).length ≤ 2 ^ 31 := fun j => by
                      show (Zm.s.wat.getD j []).length ≤ _
                      rw [hwat]
                      exact Nat.le_trans (rows_len J.W j) (Nat.le_trans J.C.many (by decide))
                    have e41 : (Zm.s.c kk).getD 1 0 = (Z.s.c kk).getD i 0 := by rw [hc4, swap_at _ (by omega) hi, if_neg (by omega), if_pos rfl]
                    have hneW : wi ((Zm.s.c kk).getD 1 0) ≠ wi gone := fun e' => by
                      rw [e41] at e'
                      have := wi_inj e' (J.W.oks _ _ (mem_getD hi)).1 hgok.1
                      exact getD_ne (J.W.nod _) hi (show 1 < _ by omega) (by omega) (this.trans hw1.symm)
                    clear X2 X3 N2 A2 A3 d1 g1 hob hgle2
                    have hsml := C3.sml
                    have hmany := C3.many
                    have hok : ok n ((Zm.s.c kk).getD 1 0) := hoks _ (mem_getD h1)
                    have hixn := ixn hok
                    have hokr := hok
                    obtain ⟨o0, o1, o2⟩ := hokr
                    have hOB := Vec.copy C3.wat (by omega)
                    obtain ⟨uid, uo, hu2, hu3, hu4⟩ := hOB
                    have hOB := Vec.copy (C3.cli kk hk) h0
                    obtain ⟨lid, lo, hl2, hl3, hl4⟩ := hOB
                    have ho1 := C3.obj
                    have hco := C3.cob kk hk
                    have hOB := four C3.hs.le ho1 hco.1 hl2 hu2
                    obtain ⟨GR, gle, gp, gc, gl, gu, keep⟩ := hOB
                    have f1 := load1 (T := TT gt) (t := 119) (off := 4) gp rfl rfl rfl
                    have f2 := load1 (T := TT gt) (t := 35) (off := 0) gc rfl rfl rfl
                    have hOB := Vec.atI (gt := gt) (hl4 GR gl) (i := 1) (by omega) h1i
                    obtain ⟨qa, qb, a1, a2⟩ := hOB
                    have a2 : aload (TT gt) GR 3 (.ptr qa qb) = some (.int .i64 ((Zm.s.c kk).getD (1 : Int).toNat 0)) := a2
                    have q1 := C3.wat.veq
                    have q2 := (C3.cli kk hk).veq
                    repeat (first | refine EvC.seq ?_ | refine at_normal ?_ | refine EvH.nil ?_)
                    refine EvC.drawnH 3 (GR) (p := [⟨0, false, 0, 3⟩, ⟨1, false, 0, 3⟩, ⟨2, false, 0, 3⟩, ⟨3, false, 0, 3⟩, ⟨4, false, 0, 0⟩, ⟨5, false, 0, 0⟩, ⟨6, false, 0, 0⟩, ⟨7, false, 0, 0⟩, ⟨8, false, 0, 0⟩, ⟨9, false, 0, 0⟩, ⟨11, false, 0, 2⟩, ⟨12, false, 0, 2⟩, ⟨13, false, 0, 2⟩, ⟨14, false, 0, 2⟩, ⟨15, false, 0, 1⟩, ⟨16, false, 0, 1⟩, ⟨17, false, 0, 1⟩, ⟨18, false, 0, 1⟩, ⟨19, false, 0, 1⟩, ⟨20, false, 0, 1⟩, ⟨24, false, 0, 2⟩, ⟨25, false, 0, 2⟩, ⟨10, true, 0, 1⟩, ⟨21, true, 1, 2⟩, ⟨22, false, 2, 2⟩, ⟨23, false, 2, 2⟩, ⟨26, true, 2, 3⟩, ⟨27, false, 3, 3⟩, ⟨28, true, 3, 4⟩]) rfl (by kernel_rfl) (by kernel_rfl) ?_
                    generalize hLL : (Zm.s.c kk).getD (1 : Int).toNat 0 = LL at *
                    have hLL' : (Zm.s.c kk).getD 1 0 = LL := hLL
                    rw [hLL'] at hok hixn o0 o1 o2 hneW e41
                    have hneW : (ix LL).toNat ≠ wi gone := hneW
                    have hOB := C3.row (ix LL).toNat (by omega) (by omega)
                    obtain ⟨u, hu, VU⟩ := hOB
                    have hOB := C3.wat.at1 (T := TT gt) (t := 119) (k := .i64) (i := ix LL) rfl rfl rfl rfl (by omega) (by omega)
                    obtain ⟨p1, u1, c1, c2, c3⟩ := hOB
                    have hu' : u1 = u := by
                      rw [hu] at c3; simpa using c3.symm
                    subst hu'
                    repeat (first | refine EvH.easy1 rfl rfl rfl rfl rfl rfl rfl rfl rfl rfl ?_ | refine EvH.easy1 rfl rfl rfl rfl rfl rfl rfl rfl rfl (by assumption) ?_ | refine EvH.easyG (by assumption) rfl rfl rfl rfl rfl rfl rfl rfl rfl rfl (by first | exact veq_s rfl | assumption) ?_ | refine EvH.easyG (by assumption) rfl rfl rfl rfl rfl rfl rfl rfl rfl (by assumption) (by first | exact veq_s rfl | assumption) ?_)
                    refine EvH.new (b := .cells [.ptr (V2.cp.getD kk 0) 0] 149 false) (mk := .slice 1 1 true) C3.hs gle rfl rfl rfl rfl rfl rfl rfl rfl rfl (by simp [oeq, veqs, veq]) (fun h2 id A2 S2 hle gl2 _ oN cid hid => ?_)
                    have C2 := C3.more A2 S2 hle
                    refine EvH.act rfl rfl rfl rfl rfl rfl rfl (EvP.callF rfl rfl rfl rfl (EvF.mono (index_spec LL (by omega)) ?_))
                    rintro _ h2 _ ⟨rfl, rfl⟩
                    refine ⟨fun _ => gl2, ?_⟩
                    refine EvH.act rfl rfl rfl rfl rfl rfl rfl (EvP.callF rfl rfl rfl rfl (EvF.mono (index_spec LL (by omega)) ?_))
                    rintro _ h2 _ ⟨rfl, rfl⟩
                    refine ⟨fun _ => gl2, ?_⟩
                    have c2' : aload (TT gt) h2 118 p1 = some u1 := load_mono (fun i' o' e' => (A2.same i' (C3.hs.wf.lt e') (fun e => e)).trans e') c2
                    clear c2
                    repeat (refine EvH.easy1 rfl rfl rfl rfl rfl rfl rfl rfl rfl (by assumption) ?_)
                    have VU2 := VU.step A2 C3.hs.wf (fun e => e)
                    have hbr : (Zm.s.row (ix LL).toNat).length ≤ 2 ^ 32 := Nat.le_trans (hb (ix LL).toNat) (by decide)
                    (refine EvH.act rfl rfl rfl rfl rfl rfl rfl (EvP.appendC S2 VU2 (by omega) rfl rfl rfl rfl rfl rfl rfl rfl rfl (by decide) rfl rfl (afirst_all oN rfl) rfl (by decide) rfl (by show (((Zm.s.row (ix LL).toNat).length + 1) * 8 ≤ 70368744177664); omega) (by show (Zm.s.row (ix LL).toNat).length + 1 ≤ 1099511627776; omega) (fun u2 h3 col3 A3 S3 V3 => ⟨fun _ => ?_, ?_⟩)))
                    · refine AH.add_le (keep h3 (fun i' o' e' => S3.le i' o' (hle i' o' e')) (A3.get C2.hs.wf C2.obj ?_).1 (A3.get C2.hs.wf (C2.cob kk hk).1 ?_).1 (A3.get C2.hs.wf (A2.get C3.hs.wf hl2 (fun e => e)).1 ?_).1 (A3.get C2.hs.wf (A2.get C3.hs.wf hu2 (fun e => e)).1 ?_).1) (A3.get C2.hs.wf oN ?_).1
                      · rw [C2.cpp]; omega
                      · rw [(C2.cob kk hk).2]; omega
                      · rw [hl3]; omega
                      · rw [hu3]; omega
                      · rw [cid]; omega
                    clear c2' f1 f2
                    have VS3 := C2.wat.step A3 C2.hs.wf (by omega)
                    repeat (refine EvH.easy1 rfl rfl rfl rfl rfl rfl rfl rfl rfl (by assumption) ?_)
                    (refine EvH.act0 rfl rfl rfl rfl rfl rfl (EvP.setV (T := TT gt) (t := 119) (u := u2) S3 VS3 (by decide) rfl rfl rfl (by omega) (by omega) c1 rfl rfl V3.sc.1 V3.sc.2 (fun h4 A4 S4 V4 _ => ⟨fun e => absurd e (by decide), ?_⟩)))
                    have C4 := C2.setRow (j := (ix LL).toNat) (by omega) (us := Zm.s.row (ix LL).toNat ++ [kk]) hW (u := u2) A3 (by rw [List.length_append, List.map_append]; exact V3) A4 S4 V4
                    have C5 := C4.less (G' := G) hle C3.lear
                    clear c1
                    repeat (first | refine EvO.plain rfl rfl rfl rfl rfl rfl ?_ | refine EvC.region rfl ?_ | refine EvO.nil ?_ | refine at_normal ?_ | refine EvC.exit ?_ | refine at_exit ?_ | refine be_same rfl ?_ | refine be_other rfl ?_ | refine ro_exit ?_ | refine EvH.nil ?_ | refine ro_normal ?_ | refine EvO.cons rfl rfl rfl (EvP.add64 rfl rfl (by omega) ?_))
                    have hrw5 : (V2.rw.set (ix LL).toNat u2)[wi gone]? = some ov := by rw [List.getElem?_set, if_neg hneW]; exact J.rw
                    have K5 := (((J.K.step A23 J.C.hs.wf (by omega)).step A2 C3.hs.wf (fun e => e)).step A3 C2.hs.wf (by omega)).step A4 S3.wf (by omega)
                    have he5 : ∀ j, j ≠ wi gone → (Z.s.mv kk i (wi gone)).wat.getD j [] = (Zm.s.wat.set (ix LL).toNat (Zm.s.row (ix LL).toNat ++ [kk])).getD j [] := fun j hj => by
                      have hmr := mv_row Z.s (k := kk) (i := i) (g := wi gone) (by rw [J.W.len]; exact hgw) (by rw [← e41, J.W.len]; exact wi_lt hok) (by rw [← e41]; exact hneW) j
                      have hmr : (Z.s.mv kk i (wi gone)).wat.getD j [] = _ := hmr
                      rw [hmr, ← e41, if_neg hj, List.getD_eq_getElem?_getD, List.getElem?_set]
                      have hwl : (ix LL).toNat < Zm.s.wat.length := by rw [hW]; omega
                      by_cases ej : j = wi LL
                      · rw [if_pos ej, if_pos (show (ix LL).toNat = j from ej.symm), if_pos hwl, ej]
                        show _ = (Zm.s.wat.getD (wi LL) []) ++ [kk]
                        rw [hwat]; rfl
                      · rw [if_neg ej, if_neg (fun e => ej e.symm), ← List.getD_eq_getElem?_getD, hwat]; rfl
                    have C6 := C5.other he5
                    subst hZm
                    exact ⟨oldL.length - (k + 1), by omega, k + 1, kp, _, _, _, _, _, _, J.moved hks hkk ((A23.mono fun c e => by omega).trans (((A2.mono fun c e => e.elim).trans (A3.mono fun c e => by omega)).trans (A4.mono fun c e => by omega))) C6 K5 hrw5 hcl hw1 hi2 hi hnew, hhd, rfl, hold ⟨rfl, rfl, rfl, rfl, rfl, rfl, rfl, trivial⟩⟩
                · have hend : i = (Z.s.c kk).length := by omega
                  subst hend
                  have hkl := J.kle
                  have hgl2 : -gone ∈ Z.s.tr := by rw [← J.hg]; exact mem_getD J.hd
                  have hall2 : ∀ y ∈ Z.s.c kk, y ≠ Z.s.w kk 0 → -y ∈ Z.s.tr := fun y hy hne => by
                    have hOB := List.getElem_of_mem hy
                    obtain ⟨j, hj, e⟩ := hOB
                    have e' : (Z.s.c kk).getD j 0 = y := by rw [List.getD_eq_getElem?_getD, List.getElem?_eq_getElem hj]; exact e
                    have hOB := Nat.lt_or_ge j 2
                    rcases hOB with h5 | h5
                    · have hOB := two_lt h5
                      rcases hOB with rfl | rfl
                      · exact absurd e'.symm hne
                      · have : y = gone := e'.symm.trans hw1
                        rw [this]; exact hgl2
                    · rw [← e']; exact hfl j h5 hj
                  repeat (first | refine EvO.plain rfl rfl rfl rfl rfl rfl ?_ | refine EvC.seq ?_ | refine EvC.region rfl ?_ | refine at_normal ?_ | refine EvC.exit ?_ | refine at_exit ?_ | refine be_same rfl ?_ | refine ro_exit ?_)
                  (refine EvO.cons rfl rfl rfl (EvP.newR (b := .cells [.ptr (V2.cp.getD kk 0) 0] 149 false) (mk := .slice 1 1 true) J.C.hs rfl rfl (fun h2 id A2 N2 hle o2 _ _ => ?_)))
                  have C2 := J.C.more A2 N2 hle
                  have K2 := J.K.step A2 J.C.hs.wf (fun e => e)
                  skip
                  (refine EvO.cons rfl rfl rfl (EvP.keepC (k := 1) (t := 118) (new := [.ptr (V2.cp.getD kk 0) 0]) N2 (by omega) K2 rfl rfl rfl rfl rfl rfl rfl rfl rfl (by omega) (by omega) rfl (afirst_all o2 rfl) rfl rfl (fun kq h3 A3 N3 K3 => ?_)))
                  have C3 := C2.past hgw A3 N3
                  have C4 := C3.less (G' := G) hle J.C.lear
                  have A23 : Step (fun c => 20 ≤ c) cz h1 cz h3 := (A2.mono fun c e => e.elim).trans (A3.mono fun c e => by omega)
                  have hob := C4.cob kk hcl
                  have f1 := load1 (T := TT gt) (t := 35) (off := 0) hob.1 rfl rfl rfl
                  have hOB := Vec.atI (gt := gt) (C4.cli kk hcl) (i := 0) (by omega) (by omega)
                  obtain ⟨xa, xb, d1, d2⟩ := hOB
                  clear C2 C3 K2 A2 A3 N2 N3 o2
                  have hcc := keep_cells J.c1 J.c2 J.K.len hkl hk
                  rw [hkk] at hcc
                  have K3 : KAt cz (40 + wi gone) h3 149 ov kq oldL.length (keepL.length + 1) (cs.take keepL.length ++ [ptrV V2.cp kk] ++ cs.drop (keepL.length + 1)) := K3
                  generalize hcs' : cs.take keepL.length ++ [ptrV V2.cp kk] ++ cs.drop (keepL.length + 1) = cs2 at *
                  repeat (first | refine EvO.plain rfl rfl rfl rfl rfl rfl ?_ | refine EvO.plain rfl rfl rfl rfl rfl (by assumption) ?_ | refine EvC.seq ?_ | refine EvC.region rfl ?_ | refine EvO.nil ?_ | refine at_normal ?_)
                  (refine EvO.cons rfl rfl rfl (EvP.callF rfl rfl rfl rfl (EvF.mono (of_spec C4 ((Z.s.c kk).getD (0 : Int).toNat 0) (J.W.wok hcl (i := 0) (by omega)) J.T.cons) ?_)))
                  rintro _ h3 _ ⟨rfl, rfl⟩
                  repeat (first | refine EvO.plain rfl rfl rfl rfl rfl rfl ?_ | refine EvO.nil ?_ | refine at_normal ?_)
                  by_cases e3 : ofT Z.s.tr ((Z.s.c kk).getD (0 : Int).toNat 0) = -1
                  · refine EvC.cond (t := true) (isT (p := (ofT Z.s.tr ((Z.s.c kk).getD (0 : Int).toNat 0) == -1)) (beq_true e3)) (fun _ => ?_) (fun e => nomatch e)
                    clear d1 d2 f1 hob
                    have hOB := KAt.rest (T := TT gt) (t := 118) (k := k + 1) rfl rfl rfl K3 (by omega) (by omega)
                    obtain ⟨rv, hr1, hr2, hr3⟩ := hOB
                    have hr1 : aslice (TT gt) h3 118 ov (some (.int .i64 ((k : Int) + 1))) none none = some rv := hr1
                    repeat (first | refine EvO.plain rfl rfl rfl rfl rfl rfl ?_ | refine EvO.plain rfl rfl rfl rfl rfl (by assumption) ?_ | refine EvC.seq ?_ | refine EvC.region rfl ?_ | refine EvO.cons rfl rfl rfl (EvP.add64 rfl rfl (by omega) ?_))
                    (refine EvO.cons rfl rfl rfl (EvP.keepC (k := oldL.length - (k + 1)) (t := 118) C4.hs (by omega) K3 rfl rfl rfl rfl rfl rfl rfl rfl rfl (by omega) (by omega) hr2 hr3 (by rw [List.length_drop, K3.len]) (by rw [hcc.2]; exact all_ptr _ _) (fun kr h4 A4 N4 K4 => ?_)))
                    clear hr1 hr2 hr3
                    have C5 := C4.past hgw A4 N4
                    have hrl : (Z.s.row (wi gone)).length = keepL.length + 1 + (oldL.length - (k + 1)) := by
                      rw [J.row, drop_cons hk]; simp; omega
                    have hcells : (cs2.take (keepL.length + 1) ++ cs2.drop (k + 1) ++ cs2.drop (keepL.length + 1 + (oldL.length - (k + 1)))).take (keepL.length + 1 + (oldL.length - (k + 1))) = (Z.s.row (wi gone)).map (ptrV V2.cp) := by
                      have hk3 := K3.len
                      have e5 : keepL.length + 1 + (oldL.length - (k + 1)) = (cs2.take (keepL.length + 1) ++ cs2.drop (k + 1)).length := by simp; omega
                      rw [e5, List.take_left]
                      have e6 := hcc.1
                      rw [List.length_append, List.length_singleton] at e6
                      rw [e6, hcc.2, J.row, drop_cons hk, hkk]; simp
                    have ksc := K4.vec.sc
                    have q1 := C5.wat.veq
                    have q2 := K4.vec.veq
                    have f3 := C5.fld (gt := gt) (t := 119) (off := 4) rfl rfl rfl
                    have hself : h4.le h4 := fun _ _ e => e
                    have hOB := C5.wat.at1 (T := TT gt) (t := 119) (k := .i64) (i := ix gone) rfl rfl rfl rfl (by omega) (by omega)
                    obtain ⟨p1, u1, c1, c2, c3⟩ := hOB
                    clear c2 c3
                    repeat (first | refine EvO.plain rfl rfl rfl rfl rfl rfl ?_ | refine EvC.seq ?_ | refine EvO.nil ?_ | refine at_normal ?_)
                    refine EvC.drawnH 1 (h4) (p := [⟨0, false, 0, 1⟩, ⟨1, false, 0, 1⟩, ⟨2, false, 0, 1⟩, ⟨3, false, 0, 1⟩, ⟨4, false, 0, 0⟩, ⟨6, false, 0, 1⟩, ⟨5, true, 0, 1⟩, ⟨7, false, 1, 1⟩, ⟨8, true, 1, 2⟩]) rfl (by kernel_rfl) (by kernel_rfl) ?_
                    repeat (first | refine EvH.easy1 rfl rfl rfl rfl rfl rfl rfl rfl rfl rfl ?_ | refine EvH.easyG (by assumption) rfl rfl rfl rfl rfl rfl rfl rfl rfl rfl (by first | exact veq_s rfl | assumption) ?_ | refine EvH.easyG (by assumption) rfl rfl rfl rfl rfl rfl rfl rfl rfl (by assumption) (by first | exact veq_s rfl | assumption) ?_)
                    refine EvH.act rfl rfl rfl rfl rfl rfl rfl (EvP.callF rfl rfl rfl rfl (EvF.mono (index_spec gone (by have := hgok.2; omega)) ?_))
                    rintro _ h4 _ ⟨rfl, rfl⟩
                    refine ⟨fun _ => hself, ?_⟩
                    repeat (refine EvH.easy1 rfl rfl rfl rfl rfl rfl rfl rfl rfl (by assumption) ?_)
                    (refine EvH.act0 rfl rfl rfl rfl rfl rfl (EvP.setV (T := TT gt) (t := 119) (k := .i64) (i := ix gone) (u := kr) C5.hs C5.wat (by decide) rfl rfl rfl (by omega) (by omega) c1 rfl rfl ksc.1 ksc.2 (fun h6 A6 N6 X6 _ => ⟨fun e => absurd e (by decide), ?_⟩)))
                    rw [hixn.2.2] at X6
                    have D := close C5 J.W hgok K4 hrl.symm hcells A6 N6 X6
                    repeat (first | refine EvO.plain rfl rfl rfl rfl rfl rfl ?_ | refine EvC.seq ?_ | refine EvC.region rfl ?_ | refine EvO.nil ?_ | refine at_normal ?_ | refine EvC.ret ?_ | refine at_ret ?_ | refine be_ret ?_ | refine ro_ret ?_ | refine EvH.nil ?_)
                    (refine ret_is (v := ptrV V2.cp kk) rfl rfl ?_)
                    refine ⟨cz, { V2 with rw := V2.rw.set (wi gone) kr }, Z, rfl, ⟨hvc, hvr⟩, J.A.trans ((A23.trans (A4.mono fun c e => by omega)).trans (A6.mono fun c e => by omega)), D, J.P, J.W, J.T, J.I, .inr ⟨kk, hcl, by rw [← hvc], fun y hy => ?_⟩⟩
                    by_cases hy0 : y = Z.s.w kk 0
                    · rw [hy0]; exact ofT_neg1 e3
                    · exact hall2 y hy hy0
                  · refine EvC.cond (t := false) (isT (p := (ofT Z.s.tr ((Z.s.c kk).getD (0 : Int).toNat 0) == -1)) (beq_false e3)) (fun e => nomatch e) (fun _ => ?_)
                    have hf : ofT Z.s.tr (Z.s.w kk 0) = 0 := by
                      have hOB := ofT_rng Z.s.tr (Z.s.w kk 0)
                      rcases hOB with h5 | h5 | h5
                      · exact absurd (ofT_one.1 h5) e1
                      · exact absurd h5 e3
                      · exact h5
                    have hel2 : Z.s.ends.length ≤ 2 ^ 30 := by rw [(J.P.kept h2two).ends]; exact hel
                    have htl2 := J.T.len
                    repeat (first | refine EvO.plain rfl rfl rfl rfl rfl rfl ?_ | refine EvO.plain rfl rfl rfl rfl rfl (by assumption) ?_ | refine EvC.region rfl ?_ | refine at_normal ?_ | refine EvC.skip ?_)
                    (refine EvO.cons rfl rfl rfl (EvP.callF rfl rfl rfl rfl (EvF.mono (take_spec C4 (Z.s.w kk 0) (some kk) (J.W.wok hcl (by omega)) hf (fun k' e => by cases e; exact hcl) (by omega) hel2) ?_)))
                    rintro _ h4 _ ⟨rfl, cz2, tv, A4, C5⟩
                    clear d1 d2 f1 hob
                    have K5 := K3.step A4 C4.hs.wf (by unfold SR; omega)
                    repeat (first | refine EvO.plain rfl rfl rfl rfl rfl rfl ?_ | refine EvC.region rfl ?_ | refine EvO.nil ?_ | refine at_normal ?_ | refine be_normal ?_ | refine ro_normal ?_ | refine EvO.cons rfl rfl rfl (EvP.add64 rfl rfl (by omega) ?_))
                    subst hcs'
                    exact ⟨oldL.length - (k + 1), by omega, k + 1, kq, cz2, _, _, _, _, _, J.unit hk hkk (A23.trans (A4.mono fun c e => e.1)) C5 K5 hcl hw1 hf hall2, hhd, rfl, hold ⟨rfl, rfl, rfl, rfl, rfl, rfl, rfl, trivial⟩⟩
        · have hend : k = oldL.length := by have := J.kle2; omega
          subst hend
          rw [← hvp] at J ⊢
          have hrl : keepL.length = (S2.s.row (wi gone)).length := by rw [J.row]; simp
          have hcells : cs.take keepL.length = (S2.s.row (wi gone)).map (ptrV V2.cp) := by rw [J.row, J.c1]; simp
          have hgn := J.g
          rw [List.drop_length] at hgn
          have ksc := J.K.vec.sc
          have q1 := J.C.wat.veq
          have q2 := J.K.vec.veq
          have f3 := J.C.fld (gt := gt) (t := 119) (off := 4) rfl rfl rfl
          have hself : h1.le h1 := fun _ _ e => e
          have hOB := J.C.wat.at1 (T := TT gt) (t := 119) (k := .i64) (i := ix gone) rfl rfl rfl rfl (by omega) (by omega)
          obtain ⟨p1, u1, c1, c2, c3⟩ := hOB
          clear c2 c3
          repeat (first | refine at_normal ?_ | refine EvC.exit ?_ | refine at_exit ?_ | refine be_same rfl ?_ | refine ro_exit ?_)
          refine EvC.drawnH 1 (h1) (p := [⟨0, false, 0, 1⟩, ⟨1, false, 0, 1⟩, ⟨2, false, 0, 1⟩, ⟨3, false, 0, 1⟩, ⟨4, false, 0, 0⟩, ⟨6, false, 0, 1⟩, ⟨5, true, 0, 1⟩, ⟨7, false, 1, 1⟩, ⟨8, true, 1, 2⟩]) rfl (by kernel_rfl) (by kernel_rfl) ?_
          repeat (first | refine EvH.easy1 rfl rfl rfl rfl rfl rfl rfl rfl rfl rfl ?_ | refine EvH.easyG (by assumption) rfl rfl rfl rfl rfl rfl rfl rfl rfl rfl (by first | exact veq_s rfl | assumption) ?_ | refine EvH.easyG (by assumption) rfl rfl rfl rfl rfl rfl rfl rfl rfl (by assumption) (by first | exact veq_s rfl | assumption) ?_)
          refine EvH.act rfl rfl rfl rfl rfl rfl rfl (EvP.callF rfl rfl rfl rfl (EvF.mono (index_spec gone (by have := hgok.2; omega)) ?_))
          rintro _ h1 _ ⟨rfl, rfl⟩
          refine ⟨fun _ => hself, ?_⟩
          repeat (refine EvH.easy1 rfl rfl rfl rfl rfl rfl rfl rfl rfl (by assumption) ?_)
          (refine EvH.act0 rfl rfl rfl rfl rfl rfl (EvP.setV (T := TT gt) (t := 119) (k := .i64) (i := ix gone) (u := kp) J.C.hs J.C.wat (by decide) rfl rfl rfl (by omega) (by omega) c1 rfl rfl ksc.1 ksc.2 (fun h6 A6 N6 X6 _ => ⟨fun e => absurd e (by decide), ?_⟩)))
          rw [hixn.2.2] at X6
          have D := close J.C J.W hgok J.K hrl hcells A6 N6 X6
          clear c1 f3 q1 q2
          have f4 := D.fld (gt := gt) (t := 3) (off := 7) rfl rfl rfl
          have htl2 := J.T.len
          have hhd2 := J.hd
          repeat (first | refine EvO.plain rfl rfl rfl rfl rfl rfl ?_ | refine EvO.plain rfl rfl rfl rfl rfl (by assumption) ?_ | refine EvC.region rfl ?_ | refine at_normal ?_ | refine be_normal ?_ | refine EvH.nil ?_ | refine EvO.cons rfl rfl rfl (EvP.add64 rfl rfl (by omega) ?_))
          refine EvO.cons0 rfl rfl (EvP.store1 (u := .int .i64 ((S2.s.head + 1 : Nat) : Int)) D.hs 20 D.obj D.cpp (by decide) rfl rfl rfl rfl ⟨rfl, rfl⟩ (by show 7 < 13; decide) (fun h7 A7 N7 o7 _ _ => ?_))
          have D7 := D.setHead (k := S2.s.head + 1) A7 N7 o7
          repeat (first | refine EvO.nil ?_ | refine ro_normal ?_)
          refine ⟨n - (S2.s.head + 1), by omega, col2, { V2 with rw := V2.rw.set (wi gone) kp }, { S2 with s := S2.s.adv }, _, rfl, ⟨hvc, hvr⟩, J.A.trans ((A6.mono fun c e => by omega).trans (A7.mono fun c e => by omega)), D7, .adv J.P J.hd, ⟨J.W.oks, J.W.two, J.W.nod, J.W.len, J.W.rnod, J.W.win, J.W.wof⟩, J.T.adv J.hd, J.I.adv J.hd ?_, rfl, hold ⟨rfl, trivial⟩⟩
          rw [J.hg, Int.neg_neg]; exact hgn
    · repeat (first | refine EvO.plain rfl rfl rfl rfl rfl rfl ?_ | refine EvC.seq ?_ | refine EvC.region rfl ?_ | refine EvO.nil ?_ | refine at_normal ?_ | refine EvC.ret ?_ | refine EvC.exit ?_ | refine at_exit ?_ | refine be_same rfl ?_ | refine ro_exit ?_)
      (refine ret_is (v := .nilPtr) rfl rfl ?_)
      exact ⟨col1, V1, S1, rfl, ⟨rfl, rfl⟩, A1, C1, P1, W1, T1, I1, .inl ⟨rfl, by have := T1.hle; omega⟩⟩
end
end Sa
end Pf
end Go.Proofs.YtfjloafebkjadaaGreatDoor
