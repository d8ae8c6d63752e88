/- What a search comes to. -/
import Derived.Test.YtfjloafebkjadaaGreatDoorUaA
import Derived.Test.YtfjloafebkjadaaGreatDoorSaB
/- A search runs, some literals taken ahead. -/
namespace Go.Proofs.YtfjloafebkjadaaGreatDoor
namespace Pf
namespace Sa
open Go Go.AI Go.Proofs
variable {gt : Tree (List AV)}
section
variable {G h : AH} {col : Nat → Nat} {n : Nat} {V : Lay} {S : Sr}
theorem Beg.own {L : List (List Int)} (B : Beg n L S) (C : At G h col n V S) {A G' : AH} : OwnN A G' V.rn := by
  have h1 := C.lea.count
  rw [B.learnt] at h1
  have h2 : V.rn = [] := List.eq_nil_of_length_eq_zero (by simpa using h1)
  intro a ha
  rw [h2] at ha; cases ha
/-- What a search came to, with literals taken ahead. -/
def RunSaysA (n : Nat) (L : List (List Int)) (ls : List Int) (S : Sr) (r bad : Int) : Prop :=
  (r = 0 ∧ (∀ x, ok n x → x ∈ S.s.tr ∨ -x ∈ S.s.tr) ∧ (∀ x, x ∈ S.s.tr → -x ∉ S.s.tr) ∧ (∀ l ∈ L, ∃ x ∈ l, x ∈ S.s.tr) ∧ ∀ x ∈ ls, x ∈ S.s.tr) ∨
  (r = 2 ∧ ¬ Clash L []) ∨
  (r = 1 ∧ Clash (L ++ S.learnt) [] ∧ LInv n L S ∧ S.learnt.length ≤ 20001) ∨
  (r = 3 ∧ WI n S.s ∧ TI n S.s ∧ LInv n L S ∧ Ah ls S.s.ends.length S ∧ S.s.ends.length ≤ ls.length ∧ bad ∈ ls ∧ -bad ∈ S.s.tr)
/-- A search while it runs, some literals taken ahead. -/
structure RnA (n : Nat) (L : List (List Int)) (ls : List Int) (S : Sr) (w : Nat) : Prop where
  W : WI n S.s
  T : TI n S.s
  C : CI S.s
  I : LInv n L S
  br : S.broken = false
  wk : S.work = (w : Int)
  wl : w ≤ 20000
  ln : S.learnt.length ≤ w
  cl : S.s.cls.length ≤ L.length + w
  el : S.s.ends.length ≤ S.s.tr.length + ls.length
  ei : ∀ i, i < S.s.ends.length → i ≤ S.s.ends.getD i 0 + ls.length
  nc : S.s.ends ≠ [] → ¬ Clash L []
  ah : Ah ls S.s.ends.length S
theorem RnA.elen {w : Nat} {L : List (List Int)} {ls : List Int} (R : RnA n L ls S w) : S.s.ends.length ≤ n + ls.length := Nat.le_trans R.el (by have := R.T.len; omega)
/-- A level more. -/
theorem RnA.level1 {w : Nat} {L : List (List Int)} {ls : List Int} (R : RnA n L ls S w) (hL : ∀ l ∈ L, ∀ x ∈ l, ok n x) (hh : S.s.head = S.s.tr.length) (hlt : S.s.ends.length ≤ S.s.tr.length + ls.length) (he1 : S.s.ends.length + 1 ≤ S.s.tr.length + ls.length) (ha : ls.length ≤ S.s.ends.length ∨ ∃ p, p < S.s.tr.length ∧ S.s.tr.getD p 0 = ls.getD S.s.ends.length 0) : RnA n L ls S.level1 w where
  W := ⟨R.W.oks, R.W.two, R.W.nod, R.W.len, R.W.rnod, R.W.win, R.W.wof⟩
  T := R.T.level1 hh
  C := R.C.level1 hh
  I := R.I.begin1
  br := R.br
  wk := R.wk
  wl := R.wl
  ln := R.ln
  cl := R.cl
  el := by show (S.s.ends ++ [S.s.tr.length]).length ≤ S.s.tr.length + ls.length; rw [List.length_append, List.length_singleton]; exact he1
  ei := fun i hi => by
    have hi : i < (S.s.ends ++ [S.s.tr.length]).length := hi
    rw [List.length_append, List.length_singleton] at hi
    show i ≤ (S.s.ends ++ [S.s.tr.length]).getD i 0 + ls.length
    have hOB := Nat.lt_or_ge i S.s.ends.length
    rcases hOB with h7 | h7
    · rw [getD_app h7]; exact R.ei i h7
    · have hOB : i = S.s.ends.length := by omega
      obtain rfl := hOB
      rw [getD_new]; exact hlt
  nc := fun _ => by
    by_cases he : S.s.ends = []
    · exact calm R.I R.W R.T R.C hL R.br hh
    · exact R.nc he
  ah := by
    have h1 := R.ah.level1.more (by
      rcases ha with h2 | ⟨p, h2, h3⟩
      · exact .inl h2
      · exact .inr ⟨p, h2, h3, by
          have h4 := lv_le (S.s.ends ++ [S.s.tr.length]) p
          rw [List.length_append, List.length_singleton] at h4; exact h4⟩)
    have e : S.level1.s.ends.length = S.s.ends.length + 1 := by show (S.s.ends ++ [S.s.tr.length]).length = _; simp
    rw [e]; exact h1
/-- A level more, on which a literal is taken. -/
theorem RnA.level1take {w : Nat} {L : List (List Int)} {ls : List Int} (R : RnA n L ls S w) (hL : ∀ l ∈ L, ∀ x ∈ l, ok n x) (hh : S.s.head = S.s.tr.length) {x : Int} (hx : ok n x) (hf : ofT S.s.tr x = 0) (ha : ls.length ≤ S.s.ends.length ∨ (S.s.ends.length < ls.length ∧ x = ls.getD S.s.ends.length 0)) : RnA n L ls (S.level1.take x none) w := by
  have hf' := ofT_zero.1 hf
  have hel := R.el
  have W1 : WI n S.level1.s := ⟨R.W.oks, R.W.two, R.W.nod, R.W.len, R.W.rnod, R.W.win, R.W.wof⟩
  have hne : S.s.ends ++ [S.s.tr.length] ≠ [] := by simp
  refine ⟨W1.push _, (R.T.level1 hh).push hx hf'.1 hf'.2, (R.C.level1 hh).push (R.T.level1 hh) _, R.I.begin1.take hx hf (fun k e => nomatch e) (fun _ => .inr (List.mem_append_right _ (List.mem_singleton.2 rfl))) (fun he => absurd he hne), R.br, R.wk, R.wl, R.ln, R.cl, ?_, fun i hi => ?_, fun _ => ?_, ?_⟩
  · show (S.s.ends ++ [S.s.tr.length]).length ≤ (S.s.tr ++ [x]).length + ls.length
    rw [List.length_append, List.length_singleton, List.length_append, List.length_singleton]; omega
  · have hi : i < (S.s.ends ++ [S.s.tr.length]).length := hi
    rw [List.length_append, List.length_singleton] at hi
    show i ≤ (S.s.ends ++ [S.s.tr.length]).getD i 0 + ls.length
    have hOB := Nat.lt_or_ge i S.s.ends.length
    rcases hOB with h7 | h7
    · rw [getD_app h7]; exact R.ei i h7
    · have hOB : i = S.s.ends.length := by omega
      obtain rfl := hOB
      rw [getD_new]; exact hel
  · by_cases he : S.s.ends = []
    · exact calm R.I R.W R.T R.C hL R.br hh
    · exact R.nc he
  · have e : (S.level1.take x none).s.ends.length = S.s.ends.length + 1 := by show (S.s.ends ++ [S.s.tr.length]).length = _; simp
    rw [e]
    have h1 : Ah ls S.s.ends.length (S.level1.take x none) := R.ah.level1.take R.I.begin1.wl R.I.begin1.ele hx hf (fun _ => by
      rcases ha with h2 | ⟨h2, h3⟩
      · refine .inr (.inl ?_)
        show ls.length < (S.s.ends ++ [S.s.tr.length]).length
        rw [List.length_append, List.length_singleton]; omega
      · exact .inr (.inr (by rw [h3]; exact getD_mem h2)))
    refine h1.more ?_
    rcases ha with h2 | ⟨h2, h3⟩
    · exact .inl h2
    · refine .inr ⟨S.s.tr.length, ?_, ?_, ?_⟩
      · show S.s.tr.length < (S.s.tr ++ [x]).length; simp
      · show (S.s.tr ++ [x]).getD S.s.tr.length 0 = _; rw [getD_new]; exact h3
      · have h4 := lv_le (S.s.ends ++ [S.s.tr.length]) S.s.tr.length
        rw [List.length_append, List.length_singleton] at h4; exact h4
set_option maxHeartbeats 8000000 in
theorem runA_spec {B : AH} {L : List (List Int)} {ls : List Int} (hL : ∀ l ∈ L, ∀ x ∈ l, ok n x) (hLl : L.length ≤ 200000) (hc19 : ∀ i, col i ≠ 19) (C : At G h col n V S) (W : WI n S.s) (T : TI n S.s) (CIs : CI S.s) (I : LInv n L S) (hw0 : S.work = 0) (hln : S.learnt = []) (hcl : S.s.cls.length ≤ L.length) (hen : S.s.ends = []) {av : AV} (ra : IntRow G av ls) (hal : ls.length ≤ 1000) (hls : ∀ x ∈ ls, ok n x) (hB : B.le G) (hO : OwnN B G V.rn) :
    EvF (TT gt) X 71 [.ptr V.p 0, av] h (fun r h' => ∃ k bad G' col' V' S', (G.le G' ∧ OwnN B G' V'.rn) ∧ r = .tuple [.int .i64 k, .int .i64 bad] ∧ (k = 3 ∨ bad = 0) ∧ V'.p = V.p ∧ HS G' h' col' ∧ At G' h' col' n V' S' ∧ RunSaysA n L ls S' k bad) := by
  have hsml := C.sml
  generalize hp : V.p = p
  refine EvF.enter rfl rfl rfl ?_
  repeat (first | refine EvO.plain rfl rfl rfl rfl rfl rfl ?_ | refine EvC.seq ?_ | refine EvC.region rfl ?_ | refine EvO.nil ?_ | refine at_normal ?_ | refine EvC.block ?_)
  refine EvC.loop (fun m σ h' => ∃ (w : Nat) (G1 : AH) (c1 : Nat → Nat) (V1 : Lay) (S1 : Sr) (E : Nat → AV), V1.p = p ∧ (G.le G1 ∧ OwnN B G1 V1.rn) ∧ (∀ i, c1 i ≠ 19) ∧ At G1 h' c1 n V1 S1 ∧ LInv n L S1 ∧ (S1.broken = false → RnA n L ls S1 w) ∧ w ≤ 20000 ∧ S1.learnt.length ≤ w ∧ m = (20000 - w) * (n + 2) + (n - S1.s.tr.length) ∧ σ = upds [(0, .ptr p 0), (1, av)] E) (20000 * (n + 2) + (n - S.s.tr.length)) ?_ ?_
  · exact ⟨0, G, col, V, S, _, hp, ⟨fun _ _ e => e, hO⟩, hc19, C, I, fun hb => ⟨W, T, CIs, I, hb, hw0, by omega, by rw [hln]; exact Nat.le_refl _, by omega, by rw [hen]; exact Nat.zero_le _, fun i hi => by { rw [hen] at hi; exact absurd hi (Nat.not_lt_zero _) }, fun hne => absurd hen hne, ⟨fun p hp h1 h2 => absurd (by rw [hen]; rfl) h2, fun i hi => by { rw [hen] at hi; exact absurd hi (Nat.not_lt_zero _) }⟩⟩, by omega, by rw [hln]; exact Nat.le_refl _, rfl, hold ⟨rfl, rfl, trivial⟩⟩
  · clear C W T CIs I hw0 hln hcl hen hc19
    rintro m _ h1 ⟨w, G1, c1, V1, S1, E, hp1, ⟨hG1, hO1⟩, hc1, C1, I1, hR, hw, hlw, rfl, rfl⟩
    subst hp1
    have f1 := C1.fld (gt := gt) (t := 4) (off := 12) rfl rfl rfl
    cases hbr : S1.broken with
    | true =>
      have f1 : aload (TT gt) h1 4 (.ptr V1.p 12) = some (.bool true) := hbr ▸ f1
      repeat (first | refine EvO.plain rfl rfl rfl rfl rfl rfl ?_ | refine EvO.plain rfl rfl rfl rfl rfl (by assumption) ?_ | refine EvC.seq ?_ | refine EvC.region rfl ?_ | refine EvO.nil ?_ | refine at_normal ?_)
      refine EvC.cond (t := false) rfl (fun e => nomatch e) (fun _ => ?_)
      repeat (first | refine EvO.plain rfl rfl rfl rfl rfl rfl ?_ | refine EvC.seq ?_ | refine EvC.region rfl ?_ | refine EvO.nil ?_ | refine at_normal ?_ | refine EvC.ret ?_ | refine EvC.exit ?_ | refine at_exit ?_ | refine be_same rfl ?_ | refine ro_exit ?_)
      (refine ret_are (vs := [.int .i64 1, .int .i64 0]) rfl rfl ?_)
      exact ⟨1, 0, G1, c1, V1, S1, ⟨hG1, hO1⟩, rfl, .inr rfl, rfl, C1.hs, C1, .inr (.inr (.inl ⟨rfl, I1.brk hbr, I1, by omega⟩))⟩
    | false =>
      have f1 : aload (TT gt) h1 4 (.ptr V1.p 12) = some (.bool false) := hbr ▸ f1
      have R := hR hbr
      repeat (first | refine EvO.plain rfl rfl rfl rfl rfl rfl ?_ | refine EvO.plain rfl rfl rfl rfl rfl (by assumption) ?_ | refine EvC.seq ?_ | refine EvC.region rfl ?_ | refine EvO.nil ?_ | refine at_normal ?_)
      refine EvC.cond (t := true) rfl (fun _ => ?_) (fun e => nomatch e)
      clear f1 hR
      have hel := R.elen
      repeat (first | refine EvO.plain rfl rfl rfl rfl rfl rfl ?_ | refine EvC.seq ?_ | refine EvC.region rfl ?_ | refine at_normal ?_ | refine EvC.skip ?_ | refine EvC.block ?_)
      (refine EvO.cons rfl rfl rfl (EvP.callF rfl rfl rfl rfl (EvF.mono (spread_spec C1 R.W R.T R.C (by omega)) ?_)))
      rintro r2 h2 _ ⟨c2, V2, S2, hp2, ⟨hcp2, hrn2⟩, A2, C2, P2, W2, T2, CI2, hres⟩
      have I2 := R.I.spr R.W.two P2
      have K2 := P2.kept R.W.two
      have hOB := P2.kept2
      obtain ⟨hwk2, hle2⟩ := hOB
      have hbr2 : S2.broken = false := K2.brk.trans hbr
      have hOB := K2.pre
      obtain ⟨t2, ht2⟩ := hOB
      have htl2 := T2.len
      have htr2 : S1.s.tr.length ≤ S2.s.tr.length := by rw [ht2, List.length_append]; omega
      have hc2 := Step.none A2 (c := 19) (by decide) (by decide) hc1
      have hO2 : OwnN B G1 V2.rn := by rw [hrn2]; exact hO1
      have Ah2 : Ah ls S2.s.ends.length S2 := by rw [K2.ends]; exact R.ah.spr R.I R.W.two P2
      have R2 : RnA n L ls S2 w := ⟨W2, T2, CI2, I2, hbr2, hwk2.trans R.wk, hw, by rw [hle2]; exact hlw, by rw [K2.len]; exact R.cl, by rw [K2.ends]; have := R.el; omega, fun i hi => by rw [K2.ends] at hi ⊢; exact R.ei i hi, fun he => R.nc (by rw [← K2.ends]; exact he), Ah2⟩
      rw [← hp2]
      rcases hres with ⟨rfl, hh⟩ | ⟨k, hk, rfl, hall⟩
      · repeat (first | refine EvO.plain rfl rfl rfl rfl rfl rfl ?_ | refine EvC.seq ?_ | refine EvC.region rfl ?_ | refine EvO.nil ?_ | refine at_normal ?_)
        refine EvC.cond (t := false) rfl (fun e => nomatch e) (fun _ => ?_)
        repeat (first | refine EvO.plain rfl rfl rfl rfl rfl rfl ?_ | refine EvC.seq ?_ | refine EvC.region rfl ?_ | refine EvO.nil ?_ | refine at_normal ?_ | refine EvC.skip ?_ | refine EvC.block ?_)
        generalize hp3 : V2.p = p3
        refine EvC.loop (fun m σ h' => ∃ (c3 : Nat → Nat) (V3 : Lay) (S3 : Sr) (E : Nat → AV), V3.p = p3 ∧ At G1 h' c3 n V3 S3 ∧ RnA n L ls S3 w ∧ S3.s.head = S3.s.tr.length ∧ ((∀ i, c3 i ≠ 19) ∧ OwnN B G1 V3.rn) ∧ S1.s.tr.length ≤ S3.s.tr.length ∧ m = ls.length - S3.s.ends.length ∧ σ = upds [(0, .ptr p3 0), (1, av), (12, .int .i64 0)] E) (ls.length - S2.s.ends.length) ?_ ?_
        · exact ⟨c2, V2, S2, _, hp3, C2, R2, hh, ⟨hc2, hO2⟩, htr2, rfl, hold ⟨rfl, rfl, rfl, trivial⟩⟩
        · clear hO2 hrn2 C2 W2 T2 CI2 I2 hbr2 hwk2 hle2 K2 ht2 hh hc2 htl2 htr2 Ah2 R2 hp3 hp2 hcp2 P2 A2
          rintro m _ h2 ⟨c2, V2, S2, E, rfl, C2, R2, hh, ⟨hc2, hO2⟩, htr2, rfl, rfl⟩
          have W2 := R2.W
          have T2 := R2.T
          have CI2 := R2.C
          have I2 := R2.I
          have hbr2 := R2.br
          have htl2 := T2.len
          have hel2' := R2.elen
          have f1 := C2.fld (gt := gt) (t := 35) (off := 6) rfl rfl rfl
          have ln := C2.ends.row.len (T := TT gt) (t := 35) rfl
          have ln2 := RowOf.len_any (T := TT gt) (t := 35) ra rfl h2
          repeat (first | refine EvO.plain rfl rfl rfl rfl rfl rfl ?_ | refine EvO.plain rfl rfl rfl rfl rfl (by assumption) ?_ | refine EvC.seq ?_ | refine EvC.region rfl ?_ | refine EvO.nil ?_ | refine at_normal ?_)
          clear f1 ln ln2
          refine EvC.decide rfl (fun hneg => ?_) (fun hneg => ?_)
          · have hil : S2.s.ends.length < ls.length := by omega
            have f1 := C2.fld (gt := gt) (t := 35) (off := 6) rfl rfl rfl
            have ln := C2.ends.row.len (T := TT gt) (t := 35) rfl
            have hOB := (RowOf.mono (fun i o e => C2.hs.le _ _ (hG1 _ _ e)) ra).at1 (T := TT gt) (t := 35) (e := 3) rfl rfl rfl rfl (k := .i64) (i := (S2.s.ends.length : Nat)) (by omega) (by omega)
            obtain ⟨qa, b1, b2⟩ := hOB
            rw [Int.toNat_natCast] at b2
            have hx := hls _ (getD_mem hil)
            have hxm := getD_mem hil
            have hOB : ∃ y, ls.getD S2.s.ends.length 0 = y := ⟨_, rfl⟩
            obtain ⟨y, hy⟩ := hOB
            rw [hy] at b2 hx hxm
            have hy0 : y ≠ 0 := hx.1
            repeat (first | refine EvO.plain rfl rfl rfl rfl rfl rfl ?_ | refine EvO.plain rfl rfl rfl rfl rfl (by assumption) ?_ | refine EvC.seq ?_ | refine EvC.region rfl ?_ | refine EvO.nil ?_ | refine at_normal ?_ | refine EvC.skip ?_ | refine EvC.block ?_)
            (refine EvO.cons rfl rfl rfl (EvP.callF rfl rfl rfl rfl (EvF.mono (of_spec C2 y hx T2.cons) ?_)))
            rintro _ h2 _ ⟨rfl, rfl⟩
            clear f1 ln b1 b2
            repeat (first | refine EvO.plain rfl rfl rfl rfl rfl rfl ?_ | refine EvO.nil ?_ | refine at_normal ?_)
            by_cases hm1 : ofT S2.s.tr y = -1
            · refine EvC.cond (t := true) (isT (beq_true hm1)) (fun _ => ?_) (fun e => nomatch e)
              repeat (first | refine EvO.plain rfl rfl rfl rfl rfl rfl ?_ | refine EvC.seq ?_ | refine EvC.region rfl ?_ | refine EvO.nil ?_ | refine at_normal ?_ | refine EvC.ret ?_ | refine at_ret ?_ | refine be_ret ?_ | refine ro_ret ?_)
              (refine ret_are (vs := [.int .i64 3, .int .i64 y]) rfl rfl ?_)
              exact ⟨3, y, G1, c2, V2, S2, ⟨hG1, hO2⟩, rfl, .inl rfl, rfl, C2.hs, C2, .inr (.inr (.inr ⟨rfl, W2, T2, I2, R2.ah, by omega, hxm, ofT_neg1 hm1⟩))⟩
            · refine EvC.cond (t := false) (isT (beq_false hm1)) (fun e => nomatch e) (fun _ => ?_)
              repeat (first | refine EvC.seq ?_ | refine at_normal ?_ | refine EvC.skip ?_)
              have f1 := C2.fld (gt := gt) (t := 35) (off := 6) rfl rfl rfl
              have f2 := C2.fld (gt := gt) (t := 35) (off := 5) rfl rfl rfl
              have ln := C2.trl.row.len (T := TT gt) (t := 35) rfl
              have hgl := C2.hs.le
              refine EvC.drawnH 1 (G1) (p := [⟨0, false, 0, 1⟩, ⟨1, false, 0, 0⟩, ⟨2, false, 0, 0⟩, ⟨3, false, 0, 0⟩, ⟨4, false, 0, 0⟩, ⟨5, false, 0, 0⟩, ⟨6, false, 0, 0⟩, ⟨7, false, 0, 0⟩, ⟨8, false, 0, 0⟩, ⟨9, false, 0, 0⟩, ⟨10, false, 0, 0⟩, ⟨11, true, 0, 1⟩, ⟨12, false, 1, 1⟩, ⟨13, false, 1, 1⟩, ⟨14, true, 1, 2⟩]) rfl (by kernel_rfl) (by kernel_rfl) ?_
              repeat (first | refine EvH.easy1 rfl rfl rfl rfl rfl rfl rfl rfl rfl rfl ?_ | refine EvH.easy1 rfl rfl rfl rfl rfl rfl rfl rfl rfl (by assumption) ?_ | refine EvH.easyG (by assumption) rfl rfl rfl rfl rfl rfl rfl rfl rfl rfl (by first | exact veq_s rfl | assumption) ?_)
              refine EvH.new (b := .cells [.int .i64 S2.s.tr.length] 3 false) (mk := .slice 1 1 true) C2.hs hgl rfl rfl rfl rfl rfl rfl rfl rfl rfl (by simp [oeq, veqs, veq]) (fun h3 id A3 N3 hle3 gl3 _ o3 cid hid => ?_)
              have C3 := C2.more A3 N3 hle3
              clear f1 f2 ln
              skip
              (refine EvH.act rfl rfl rfl rfl rfl rfl rfl (EvP.appendC N3 C3.ends (by decide) rfl rfl rfl rfl rfl rfl rfl rfl rfl (by decide) rfl rfl (afirst_all o3 rfl) rfl (by decide) rfl (by show (S2.s.ends.length + 1) * 8 ≤ 70368744177664; omega) (by show S2.s.ends.length + 1 ≤ 1099511627776; omega) (fun ev h4 c4 A4 N4 X4 => ⟨fun _ => N4.le, ?_⟩)))
              have X4 : Vec c4 26 h4 3 1 ev (S2.s.ends ++ [S2.s.tr.length]).length ((S2.s.ends ++ [S2.s.tr.length]).map fun e : Nat => AV.int .i64 e) := by
                rw [List.length_append, List.map_append]; exact X4
              have hgl4 := N4.le
              have hob4 := A4.get C3.hs.wf C3.obj (by rw [C3.cpp]; decide)
              repeat (refine EvH.easy1 rfl rfl rfl rfl rfl rfl rfl rfl rfl rfl ?_)
              (refine EvH.act0 rfl rfl rfl rfl rfl rfl (EvP.store1 (u := ev) N4 20 hob4.1 (hob4.2.trans C3.cpp) (by decide) rfl rfl rfl rfl X4.sc (by show 6 < 13; decide) (fun h5 A5 N5 o5 _ _ => ⟨fun e => absurd e (by decide), ?_⟩)))
              have C5 := (C3.setEnds A4 X4 A5 N5 o5).less (G' := G1) hle3 C2.lear
              have hc5 := Step.none ((A3.mono (R' := fun c => 20 ≤ c) fun c e => e.elim).trans ((A4.mono fun c e => by omega).trans (A5.mono fun c e => by omega))) (c := 19) (by decide) (by decide) hc2
              clear hob4 o5 X4 hgl4 hgl C3 N3 N4 N5 A3 A4 A5
              have hOf := of_spec (gt := gt) C5 y hx T2.cons
              repeat (first | refine EvO.plain rfl rfl rfl rfl rfl rfl ?_ | refine EvC.seq ?_ | refine EvC.region rfl ?_ | refine at_normal ?_ | refine EvH.nil ?_)
              (refine EvO.cons rfl rfl rfl (EvP.callF rfl rfl rfl rfl (EvF.mono (hOf) ?_)))
              rintro _ h5 _ ⟨rfl, rfl⟩
              repeat (first | refine EvO.plain rfl rfl rfl rfl rfl rfl ?_ | refine EvO.nil ?_ | refine at_normal ?_)
              by_cases h0 : ofT S2.s.tr y = 0
              · refine EvC.cond (t := true) (isT (beq_true h0)) (fun _ => ?_) (fun e => nomatch e)
                have hTk := take_spec (gt := gt) C5 y none hx h0 (fun k e => nomatch e) (by show S2.s.tr.length ≤ _; omega) (by show (S2.s.ends ++ [S2.s.tr.length]).length ≤ _; rw [List.length_append, List.length_singleton]; omega)
                have RT := R2.level1take hL hh hx h0 (.inr ⟨hil, hy.symm⟩)
                repeat (first | refine EvO.plain rfl rfl rfl rfl rfl rfl ?_ | refine EvC.seq ?_ | refine EvC.region rfl ?_ | refine EvO.nil ?_ | refine at_normal ?_ | refine EvC.exit ?_ | refine be_same rfl ?_ | refine be_other rfl ?_ | refine ro_exit ?_)
                refine EvC.cond (t := false) (isT (beq_false hy0)) (fun e => nomatch e) (fun _ => ?_)
                repeat (first | refine EvO.plain rfl rfl rfl rfl rfl rfl ?_ | refine EvC.region rfl ?_ | refine at_normal ?_ | refine EvC.skip ?_)
                (refine EvO.cons rfl rfl rfl (EvP.callF rfl rfl rfl rfl (EvF.mono (hTk) ?_)))
                rintro _ h6 _ ⟨rfl, c6, tv6, A6, C6⟩
                repeat (first | refine EvO.nil ?_ | refine be_normal ?_ | refine ro_normal ?_)
                have htl6 := RT.T.len
                have htl6 : S2.s.tr.length + 1 ≤ n := by
                  have h7 : (S2.s.tr ++ [y]).length ≤ n := htl6
                  rwa [List.length_append] at h7
                refine ⟨(20000 - w) * (n + 2) + (n - (S2.s.tr.length + 1)), by omega, w, G1, c6, { V2 with ev := ev, tv := tv6 }, S2.level1.take y none, _, rfl, ⟨hG1, hO2⟩, Step.none A6 (by unfold SR; omega) (by decide) hc5, C6, RT.I, fun _ => RT, hw, RT.ln, ?_, hold ⟨rfl, rfl, trivial⟩⟩
                show _ = (20000 - w) * (n + 2) + (n - (S2.s.tr ++ [y]).length)
                rw [List.length_append, List.length_singleton]
              · have h1 : ofT S2.s.tr y = 1 := by rcases ofT_rng S2.s.tr y with h | h | h <;> first | exact h | exact absurd h hm1 | exact absurd h h0
                refine EvC.cond (t := false) (isT (beq_false h0)) (fun e => nomatch e) (fun _ => ?_)
                repeat (first | refine EvC.skip ?_ | refine be_normal ?_ | refine ro_normal ?_)
                have hOB := mem_pos (ofT_one.1 h1)
                obtain ⟨p, hp, hpe⟩ := hOB
                have RL := R2.level1 hL hh R2.el (by omega) (.inr ⟨p, hp, hpe.trans hy.symm⟩)
                refine ⟨ls.length - (S2.s.ends.length + 1), by omega, _, { V2 with ev := ev }, S2.level1, _, rfl, C5, RL, hh, ⟨hc5, hO2⟩, htr2, ?_, hold ⟨rfl, rfl, rfl, trivial⟩⟩
                show _ = ls.length - (S2.s.ends ++ [S2.s.tr.length]).length
                rw [List.length_append, List.length_singleton]
          · have hfull : ls.length ≤ S2.s.ends.length := by omega
            repeat (first | refine EvO.plain rfl rfl rfl rfl rfl rfl ?_ | refine EvC.seq ?_ | refine EvC.region rfl ?_ | refine EvO.nil ?_ | refine at_normal ?_ | refine EvC.exit ?_ | refine at_exit ?_ | refine be_same rfl ?_ | refine ro_exit ?_)
            refine EvC.cond (t := true) rfl (fun _ => ?_) (fun e => nomatch e)
            repeat (first | refine EvO.plain rfl rfl rfl rfl rfl rfl ?_ | refine EvC.seq ?_ | refine EvC.region rfl ?_)
            (refine EvO.cons rfl rfl rfl (EvP.callF rfl rfl rfl rfl (EvF.mono (pick_spec C2) ?_)))
            rintro _ h2 _ ⟨rfl, b, rfl, hb⟩
            have hbn : b ≤ n := by rcases hb with h | h <;> omega
            repeat (first | refine EvO.plain rfl rfl rfl rfl rfl rfl ?_ | refine EvC.seq ?_ | refine EvC.region rfl ?_ | refine EvO.nil ?_ | refine at_normal ?_ | refine EvO.cons rfl rfl rfl (EvP.neg64 rfl (by omega) ?_))
            by_cases hb0 : b = 0
            · refine EvC.cond (t := true) (isT (beq_true (show -((b : Nat) : Int) = 0 by omega))) (fun _ => ?_) (fun e => nomatch e)
              have hall : ∀ x, ok n x → x ∈ S2.s.tr ∨ -x ∈ S2.s.tr := fun x hx => by
                obtain ⟨x0, x1, x2⟩ := hx
                have h3 := (hb.resolve_right fun h => by omega).2 x.natAbs (by omega) (by omega)
                have h4 : x ∈ S2.s.tr ∨ -x ∈ S2.s.tr := Classical.byContradiction fun hno => by
                  have h5 : x ∉ S2.s.tr := fun h => hno (.inl h)
                  have h6 : -x ∉ S2.s.tr := fun h => hno (.inr h)
                  refine h3 (ofT_zero.2 ?_)
                  have hOB := Int.natAbs_eq x
                  rcases hOB with h7 | h7
                  · rw [← h7]; exact ⟨h5, h6⟩
                  · have h8 : ((x.natAbs : Nat) : Int) = -x := by omega
                    rw [h8, Int.neg_neg]; exact ⟨h6, h5⟩
                exact h4
              repeat (first | refine EvO.plain rfl rfl rfl rfl rfl rfl ?_ | refine EvC.seq ?_ | refine EvC.region rfl ?_ | refine EvO.nil ?_ | refine at_normal ?_ | refine EvC.ret ?_ | refine at_ret ?_ | refine be_ret ?_ | refine ro_ret ?_)
              (refine ret_are (vs := [.int .i64 0, .int .i64 0]) rfl rfl ?_)
              exact ⟨0, 0, G1, c2, V2, S2, ⟨hG1, hO2⟩, rfl, .inr rfl, rfl, C2.hs, C2, .inl ⟨rfl, hall, T2.cons, I2.found W2 T2 CI2 hh hbr2 hall hL, R2.ah.all hfull⟩⟩
            · refine EvC.cond (t := false) (isT (beq_false (show -((b : Nat) : Int) ≠ 0 by omega))) (fun e => nomatch e) (fun _ => ?_)
              have hOB := hb.resolve_left fun h => hb0 h.1
              obtain ⟨hb1, _, hbz⟩ := hOB
              repeat (first | refine at_normal ?_ | refine EvC.skip ?_)
              have f1 := C2.fld (gt := gt) (t := 35) (off := 6) rfl rfl rfl
              have f2 := C2.fld (gt := gt) (t := 35) (off := 5) rfl rfl rfl
              have ln := C2.trl.row.len (T := TT gt) (t := 35) rfl
              have hgl := C2.hs.le
              refine EvC.drawnH 1 (G1) (p := [⟨0, false, 0, 1⟩, ⟨1, false, 0, 0⟩, ⟨2, false, 0, 0⟩, ⟨3, false, 0, 0⟩, ⟨4, false, 0, 0⟩, ⟨5, false, 0, 0⟩, ⟨6, false, 0, 0⟩, ⟨7, false, 0, 0⟩, ⟨8, false, 0, 0⟩, ⟨9, false, 0, 0⟩, ⟨10, false, 0, 0⟩, ⟨11, true, 0, 1⟩, ⟨12, false, 1, 1⟩, ⟨13, false, 1, 1⟩, ⟨14, true, 1, 2⟩]) rfl (by kernel_rfl) (by kernel_rfl) ?_
              repeat (first | refine EvH.easy1 rfl rfl rfl rfl rfl rfl rfl rfl rfl rfl ?_ | refine EvH.easy1 rfl rfl rfl rfl rfl rfl rfl rfl rfl (by assumption) ?_ | refine EvH.easyG (by assumption) rfl rfl rfl rfl rfl rfl rfl rfl rfl rfl (by first | exact veq_s rfl | assumption) ?_)
              refine EvH.new (b := .cells [.int .i64 S2.s.tr.length] 3 false) (mk := .slice 1 1 true) C2.hs hgl rfl rfl rfl rfl rfl rfl rfl rfl rfl (by simp [oeq, veqs, veq]) (fun h3 id A3 N3 hle3 gl3 _ o3 cid hid => ?_)
              have C3 := C2.more A3 N3 hle3
              clear f1 f2 ln
              skip
              (refine EvH.act rfl rfl rfl rfl rfl rfl rfl (EvP.appendC N3 C3.ends (by decide) rfl rfl rfl rfl rfl rfl rfl rfl rfl (by decide) rfl rfl (afirst_all o3 rfl) rfl (by decide) rfl (by show (S2.s.ends.length + 1) * 8 ≤ 70368744177664; omega) (by show S2.s.ends.length + 1 ≤ 1099511627776; omega) (fun ev h4 c4 A4 N4 X4 => ⟨fun _ => N4.le, ?_⟩)))
              have X4 : Vec c4 26 h4 3 1 ev (S2.s.ends ++ [S2.s.tr.length]).length ((S2.s.ends ++ [S2.s.tr.length]).map fun e : Nat => AV.int .i64 e) := by
                rw [List.length_append, List.map_append]; exact X4
              have hgl4 := N4.le
              have hob4 := A4.get C3.hs.wf C3.obj (by rw [C3.cpp]; decide)
              repeat (refine EvH.easy1 rfl rfl rfl rfl rfl rfl rfl rfl rfl rfl ?_)
              (refine EvH.act0 rfl rfl rfl rfl rfl rfl (EvP.store1 (u := ev) N4 20 hob4.1 (hob4.2.trans C3.cpp) (by decide) rfl rfl rfl rfl X4.sc (by show 6 < 13; decide) (fun h5 A5 N5 o5 _ _ => ⟨fun e => absurd e (by decide), ?_⟩)))
              have C5 := (C3.setEnds A4 X4 A5 N5 o5).less (G' := G1) hle3 C2.lear
              repeat (first | refine EvO.plain rfl rfl rfl rfl rfl rfl ?_ | refine EvC.region rfl ?_ | refine at_normal ?_ | refine EvH.nil ?_)
              have hnb : ok n (-(b : Int)) := ⟨by omega, by omega, by omega⟩
              have hfb : ofT S2.s.tr (-(b : Int)) = 0 := by
                have := ofT_zero.1 hbz
                exact ofT_zero.2 ⟨this.2, by rw [Int.neg_neg]; exact this.1⟩
              (refine EvO.cons rfl rfl rfl (EvP.callF rfl rfl rfl rfl (EvF.mono (take_spec C5 (-(b : Int)) none hnb hfb (fun k e => nomatch e) (by show S2.s.tr.length ≤ _; omega) (by show (S2.s.ends ++ [S2.s.tr.length]).length ≤ _; rw [List.length_append, List.length_singleton]; omega)) ?_)))
              rintro _ h6 _ ⟨rfl, c6, tv6, A6, C6⟩
              repeat (first | refine EvO.nil ?_ | refine be_normal ?_ | refine ro_normal ?_)
              have RT := R2.level1take hL hh hnb hfb (.inl hfull)
              have htl6 := RT.T.len
              have htl6 : S2.s.tr.length + 1 ≤ n := by
                have h7 : (S2.s.tr ++ [-(b : Int)]).length ≤ n := htl6
                rwa [List.length_append] at h7
              have hA6 := (((A3.mono (R' := fun c => 20 ≤ c) fun c e => e.elim).trans (A4.mono fun c e => by omega)).trans (A5.mono fun c e => by omega)).trans (A6.mono fun c e => e.1)
              refine ⟨(20000 - w) * (n + 2) + (n - (S2.s.tr.length + 1)), by omega, w, G1, c6, { V2 with ev := ev, tv := tv6 }, S2.level1.take (-(b : Int)) none, _, rfl, ⟨hG1, hO2⟩, Step.none hA6 (by decide) (by decide) hc2, C6, RT.I, fun _ => RT, hw, RT.ln, ?_, hold ⟨rfl, rfl, trivial⟩⟩
              show _ = (20000 - w) * (n + 2) + (n - (S2.s.tr ++ [-(b : Int)]).length)
              rw [List.length_append, List.length_singleton]
      · have eptr : ptrV V1.cp k = .ptr (V2.cp.getD k 0) 0 := by rw [← hcp2]; rfl
        rw [eptr]
        repeat (first | refine EvO.plain rfl rfl rfl rfl rfl rfl ?_ | refine EvC.seq ?_ | refine EvC.region rfl ?_ | refine EvO.nil ?_ | refine at_normal ?_)
        refine EvC.cond (t := true) rfl (fun _ => ?_) (fun e => nomatch e)
        have f1 := C2.fld (gt := gt) (t := 35) (off := 6) rfl rfl rfl
        have ln := C2.ends.row.len (T := TT gt) (t := 35) rfl
        repeat (first | refine EvO.plain rfl rfl rfl rfl rfl rfl ?_ | refine EvO.plain rfl rfl rfl rfl rfl (by assumption) ?_ | refine EvC.seq ?_ | refine EvC.region rfl ?_ | refine EvO.nil ?_ | refine at_normal ?_)
        clear f1 ln
        by_cases he : S2.s.ends = []
        · refine EvC.cond (t := true) (isT (beq_true (show ((S2.s.ends.length : Nat) : Int) = 0 by rw [he]; rfl))) (fun _ => ?_) (fun e => nomatch e)
          repeat (first | refine EvO.plain rfl rfl rfl rfl rfl rfl ?_ | refine EvC.seq ?_ | refine EvC.region rfl ?_)
          refine EvO.cons0 rfl rfl (EvP.store1 (u := .bool true) C2.hs 20 C2.obj C2.cpp (by decide) rfl rfl rfl rfl ⟨rfl, rfl⟩ (by show 12 < 13; decide) (fun h3 A3 N3 o3 _ _ => ?_))
          have C3 := C2.setBroken (b := true) A3 N3 o3
          repeat (first | refine EvO.plain rfl rfl rfl rfl rfl rfl ?_ | refine EvC.seq ?_ | refine EvC.region rfl ?_ | refine EvO.nil ?_ | refine at_normal ?_ | refine EvC.ret ?_ | refine EvC.exit ?_ | refine at_exit ?_ | refine be_same rfl ?_ | refine be_other rfl ?_ | refine ro_exit ?_)
          (refine ret_are (vs := [.int .i64 1, .int .i64 0]) rfl rfl ?_)
          exact ⟨1, 0, G1, c2, V2, { S2 with broken := true }, ⟨hG1, hO2⟩, rfl, .inr rfl, rfl, C3.hs, C3, .inr (.inr (.inl ⟨rfl, clash0 (S := S2) I2 he hk hall, ⟨I2.ll, I2.wl, I2.srt, I2.ele, I2.lvs, I2.wy, I2.wn, I2.sub, I2.der, I2.rup, fun _ => clash0 (S := S2) I2 he hk hall, fun e => nomatch e⟩, by show S2.learnt.length ≤ _; have := R2.ln; omega⟩))⟩
        · have hel1 : 0 < S2.s.ends.length := List.length_pos_iff.2 he
          refine EvC.cond (t := false) (isT (beq_false (show ((S2.s.ends.length : Nat) : Int) ≠ 0 by omega))) (fun e => nomatch e) (fun _ => ?_)
          have f1 := C2.fld (gt := gt) (t := 3) (off := 11) rfl rfl rfl
          rw [hwk2, R.wk] at f1
          repeat (first | refine EvO.plain rfl rfl rfl rfl rfl rfl ?_ | refine EvO.plain rfl rfl rfl rfl rfl (by assumption) ?_ | refine EvC.seq ?_ | refine EvC.region rfl ?_ | refine at_normal ?_ | refine EvC.skip ?_ | refine EvO.cons rfl rfl rfl (EvP.add64 rfl rfl (by omega) ?_))
          refine EvO.cons0 rfl rfl (EvP.store1 (u := .int .i64 ((w : Int) + 1)) C2.hs 20 C2.obj C2.cpp (by decide) rfl rfl rfl rfl ⟨rfl, rfl⟩ (by show 11 < 13; decide) (fun h3 A3 N3 o3 _ _ => ?_))
          have C3 := C2.setWork (z := (w : Int) + 1) A3 N3 o3
          clear f1
          have f1 := C3.fld (gt := gt) (t := 3) (off := 11) rfl rfl rfl
          repeat (first | refine EvO.plain rfl rfl rfl rfl rfl rfl ?_ | refine EvO.plain rfl rfl rfl rfl rfl (by assumption) ?_ | refine EvC.seq ?_ | refine EvC.region rfl ?_ | refine EvO.nil ?_ | refine at_normal ?_)
          clear f1
          by_cases hgt : (w : Int) + 1 > 20000
          · refine EvC.cond (t := true) (isT (decide_eq_true hgt)) (fun _ => ?_) (fun e => nomatch e)
            repeat (first | refine EvO.plain rfl rfl rfl rfl rfl rfl ?_ | refine EvC.seq ?_ | refine EvC.region rfl ?_ | refine EvO.nil ?_ | refine at_normal ?_ | refine EvC.ret ?_ | refine at_ret ?_ | refine be_ret ?_ | refine ro_ret ?_)
            (refine ret_are (vs := [.int .i64 2, .int .i64 0]) rfl rfl ?_)
            exact ⟨2, 0, G1, c2, V2, _, ⟨hG1, hO2⟩, rfl, .inr rfl, rfl, C3.hs, C3, .inr (.inl ⟨rfl, R2.nc he⟩)⟩
          · refine EvC.cond (t := false) (isT (decide_eq_false hgt)) (fun e => nomatch e) (fun _ => ?_)
            have I3 : LInv n L { S2 with work := (w : Int) + 1 } := I2.upd S2.score S2.bump _
            generalize hS3 : ({ S2 with work := (w : Int) + 1 } : Sr) = S3 at C3 I3
            have es3 : S3.s = S2.s := by rw [← hS3]
            have el3 : S3.learnt = S2.learnt := by rw [← hS3]
            have eb3 : S3.broken = S2.broken := by rw [← hS3]
            have ew3 : S3.work = (w : Int) + 1 := by rw [← hS3]
            have hcl3 : S3.s.cls.length ≤ L.length + w := by rw [es3, K2.len]; exact R.cl
            have hel3 : S3.s.ends.length ≤ S3.s.tr.length + ls.length := by rw [es3]; exact R2.el
            have hei3 : ∀ i, i < S3.s.ends.length → i ≤ S3.s.ends.getD i 0 + ls.length := fun i hi => by rw [es3] at hi ⊢; exact R2.ei i hi
            have hah3 : Ah ls S3.s.ends.length S3 := by rw [es3]; exact Ah2.same (by rw [es3]) (by rw [es3]) (by rw [← hS3])
            have hncl : ¬ Clash L [] := R.nc (by rw [← K2.ends]; exact he)
            rw [← es3] at W2 T2 CI2 hk hall he hel1 C3
            repeat (first | refine EvO.plain rfl rfl rfl rfl rfl rfl ?_ | refine EvC.seq ?_ | refine EvC.region rfl ?_ | refine at_normal ?_ | refine EvC.skip ?_)
            refine EvO.cons rfl rfl rfl (EvP.callF rfl rfl rfl rfl (EvF.mono (learn_spec C3 W2 T2 CI2 I3 he hk hall) ?_))
            rintro _ h4 _ ⟨c4, v, K, lev, sc, rfl, A4, C4, X4, lt⟩
            have hc3 := Step.none A3 (c := 19) (by decide) (by decide) hc2
            have hc4 := Step.none A4 (c := 19) (by decide) (by decide) hc3
            have hKl : K.length ≤ 2 ^ 30 := by
              have h8 := nodup_len (m := (List.range (2 * n + 1)).map fun i : Nat => (i : Int) - n) lt.nod fun x hx => by
                have hOB := lt.oks x hx
                obtain ⟨_, h1, h2⟩ := hOB
                exact List.mem_map.2 ⟨(x + n).toNat, List.mem_range.2 (by omega), by omega⟩
              rw [List.length_map, List.length_range] at h8; omega
            have hll : S3.learnt.length ≤ 20000 := by rw [el3, hle2]; omega
            repeat (first | refine EvO.plain rfl rfl rfl rfl rfl rfl ?_ | refine EvC.seq ?_ | refine EvO.nil ?_ | refine at_normal ?_)
            have ho4 := C4.obj
            have gle : (G1.add V2.p (.cells (objV n V2 { S3 with score := sc }) 121 false)).le h4 := AH.add_le C4.hs.le ho4
            have f1 := load1 (T := TT gt) (t := 22) (off := 10) (AH.get_add G1 V2.p (.cells (objV n V2 { S3 with score := sc }) 121 false)) rfl rfl rfl
            have q1 := C4.lea.veq
            generalize hGR : G1.add V2.p (.cells (objV n V2 { S3 with score := sc }) 121 false) = GR at *
            refine EvC.drawnH 2 (GR) (p := [⟨0, false, 0, 2⟩, ⟨1, false, 0, 1⟩, ⟨2, false, 0, 1⟩, ⟨3, false, 0, 1⟩, ⟨4, false, 0, 1⟩, ⟨5, false, 0, 0⟩, ⟨6, true, 0, 1⟩, ⟨7, false, 1, 1⟩, ⟨8, true, 1, 2⟩, ⟨9, false, 2, 2⟩, ⟨10, false, 2, 2⟩, ⟨11, true, 2, 3⟩]) rfl (by kernel_rfl) (by kernel_rfl) ?_
            repeat (first | refine EvH.easy1 rfl rfl rfl rfl rfl rfl rfl rfl rfl rfl ?_ | refine EvH.easyG (by assumption) rfl rfl rfl rfl rfl rfl rfl rfl rfl rfl (by first | exact veq_s rfl | assumption) ?_ | refine EvH.easyG (by assumption) rfl rfl rfl rfl rfl rfl rfl rfl rfl (by assumption) (by first | exact veq_s rfl | assumption) ?_)
            refine EvH.act rfl rfl rfl rfl rfl rfl rfl (EvP.callF rfl rfl rfl rfl (EvF.mono (clone_spec C4.hs 19 (by decide) (Vec.ints X4) (fun h' col' A => Vec.ints (X4.step A C4.hs.wf (by omega))) X4.nz (by omega)) ?_))
            rintro r5 h5 _ ⟨c5, A5, N5, X5⟩
            have ho5 := A5.get C4.hs.wf ho4 (by rw [C4.cpp]; decide)
            have gle5 : GR.le h5 := by rw [← hGR]; exact AH.add_le N5.le ho5.1
            refine ⟨fun _ => gle5, ?_⟩
            have hOB := X5.block lt.pos
            obtain ⟨rid, rcap, rex, rtail, hr2, hr3, hr4⟩ := hOB
            subst hr2
            refine EvH.new (b := .cells [.slice rid 0 K.length rcap rex] 35 false) (mk := .slice 1 1 true) N5 gle5 rfl rfl rfl rfl rfl rfl rfl rfl rfl (by simp [oeq, veqs, veq]) (fun h6 id A6 N6 hle6 gl6 _ o6 cid hid => ?_)
            have VL6 := (C4.lea.step A5 C4.hs.wf (by decide)).step A6 N5.wf (fun e => e)
            have ho6 := A6.get N5.wf ho5.1 (fun e => e)
            skip
            (refine EvH.act rfl rfl rfl rfl rfl rfl rfl (EvP.appendC N6 VL6 (by decide) rfl rfl rfl rfl rfl rfl rfl rfl rfl (by decide) rfl rfl (afirst_all o6 rfl) rfl (by decide) rfl (by show (S3.learnt.length + 1) * 24 ≤ 70368744177664; omega) (by show S3.learnt.length + 1 ≤ 1099511627776; omega) (fun nv h7 c7 A7 N7 X7 => ⟨fun _ => ?_, ?_⟩)))
            · refine AH.add_le ?_ (N7.le _ _ (AH.get_add ..))
              rw [← hGR]
              exact AH.add_le (fun i o e => N7.le _ _ (hle6 _ _ e)) (A7.get N6.wf ho6.1 (by rw [ho6.2, ho5.2, C4.cpp]; decide)).1
            have ho7 := A7.get N6.wf ho6.1 (by rw [ho6.2, ho5.2, C4.cpp]; decide)
            repeat (refine EvH.easy1 rfl rfl rfl rfl rfl rfl rfl rfl rfl rfl ?_)
            (refine EvH.act0 rfl rfl rfl rfl rfl rfl (EvP.store1 (u := nv) N7 20 ho7.1 (ho7.2.trans (ho6.2.trans (ho5.2.trans C4.cpp))) (by decide) rfl rfl rfl rfl X7.sc (by show 10 < 13; decide) (fun h8 A8 N8 o8 _ _ => ⟨fun e => absurd e (by decide), ?_⟩)))
            have A48 : Step (fun c => c = 19 ∨ c = 28 ∨ c = 20) c4 h4 c7 h8 := ((A5.mono fun c e => .inl e).trans (A6.mono fun c e => e.elim)).trans ((A7.mono fun c e => .inr (.inl e)).trans (A8.mono fun c e => .inr (.inr e)))
            have XC8 := ((X5.step A6 N5.wf (fun e => e)).step A7 N6.wf (by decide)).step A8 N7.wf (by decide)
            have hOB := fadeO (N8.down hle6) XC8 (by decide) (by omega)
            obtain ⟨G2, NF, hG2, rowK, ownK⟩ := hOB
            have hO9 : OwnN B G2 (V2.rn ++ [.slice rid 0 K.length rcap rex]) := (hO2.mono hG2).snoc (ownK B (fun i o e => hG1 _ _ (hB _ _ e)))
            have D := C4.setLea (nv := nv) (u := .slice rid 0 K.length rcap rex) (K := K) hG2 A48 NF o8 (X7.step A8 N7.wf (by decide)) rowK
            have XR := vfade (X4.step A48 C4.hs.wf (by omega)) (c := 19) (by omega)
            have hc8 : ∀ i, Sa.fade c7 19 i ≠ 19 := fade_no c7 (by decide)
            generalize Sa.fade c7 19 = c8 at D XR hc8 NF
            have ID : LInv n L { S3 with score := sc, learnt := S3.learnt ++ [K] } := (I3.upd sc S3.bump S3.work).learn lt.cl lt.oks lt.nod
            have hG02 : G.le G2 := fun i o e => hG2 _ _ (hG1 _ _ e)
            clear gle gle5 gl6 XC8 ho4 ho5 ho6 ho7 hGR X5 X7 VL6 o6 o8 A5 A6 A7 A8 N5 N6 N7 N8 NF rowK f1 q1 A48 X4 C4 C3 A4 A3 A2 C2 C1
            repeat (first | refine EvO.plain rfl rfl rfl rfl rfl rfl ?_ | refine EvC.seq ?_ | refine EvC.region rfl ?_ | refine at_normal ?_ | refine EvH.nil ?_)
            refine EvO.cons rfl rfl rfl (EvP.callF rfl rfl rfl rfl (EvF.mono (back_spec D T2 ID lt.lt) ?_))
            rintro _ h9 _ ⟨rfl, c9, tv9, ev9, A9, C9⟩
            have XR9 := XR.step A9 D.hs.wf (by unfold SR; omega)
            have w9 := C9.hs.wf
            have hc9 := Step.none A9 (c := 19) (by unfold SR; omega) (by decide) hc8
            have TB := T2.back ID.srt lt.lt
            have IB := ID.back T2 lt.lt
            have CB := CI2.back ID.srt lt.lt
            have AB : Ah ls lev (Sr.back { S3 with score := sc, learnt := S3.learnt ++ [K] } lev) := (hah3.same (S' := { S3 with score := sc, learnt := S3.learnt ++ [K] }) rfl rfl rfl).back ID T2 lt.lt (Nat.le_of_lt lt.lt)
            have WB := W2.back lev
            generalize hSB : Sr.back { S3 with score := sc, learnt := S3.learnt ++ [K] } lev = SB at C9 IB AB
            have esb : SB.s = S3.s.back lev := by rw [← hSB]; rfl
            have f1 := C9.fld (gt := gt) (t := 3) (off := 9) rfl rfl rfl
            repeat (first | refine EvC.seq ?_ | refine EvO.nil ?_ | refine at_normal ?_)
            refine EvC.drawn (p := [⟨0, false, 0, 0⟩, ⟨1, false, 0, 0⟩, ⟨2, false, 0, 0⟩, ⟨3, false, 0, 0⟩, ⟨4, false, 0, 0⟩, ⟨5, false, 0, 0⟩, ⟨6, false, 0, 0⟩, ⟨7, false, 0, 0⟩, ⟨8, false, 0, 0⟩, ⟨9, false, 0, 0⟩, ⟨10, false, 0, 0⟩, ⟨11, false, 0, 0⟩, ⟨12, false, 0, 0⟩, ⟨13, true, 0, 1⟩]) rfl (by kernel_rfl) (by kernel_rfl) rfl ?_
            repeat (first | refine EvR.plain rfl rfl rfl rfl rfl rfl rfl ?_ | refine EvR.plain rfl rfl rfl rfl rfl rfl (by assumption) ?_)
            (refine EvR.cons rfl rfl rfl rfl (EvP.quietI rfl ⟨_, rfl⟩ (fun z1 => ?_)))
            skip
            (refine EvR.cons rfl rfl rfl rfl (EvP.quietI rfl ⟨_, rfl⟩ (fun z2 => ?_)))
            skip
            (refine EvR.cons rfl rfl rfl rfl (EvP.quietI rfl ⟨_, rfl⟩ (fun z3 => ?_)))
            repeat (refine EvR.plain rfl rfl rfl rfl rfl rfl rfl ?_)
            (refine EvR.cons0 rfl rfl rfl (EvP.store1 (u := .int .i64 z3) C9.hs 20 C9.obj C9.cpp (by decide) rfl rfl rfl rfl ⟨rfl, rfl⟩ (by show 9 < 13; decide) (fun h10 A10 N10 o10 _ _ => ?_)))
            have C10 := C9.setBump (z := z3) A10 N10 o10
            clear f1
            have f1 := C10.fld (gt := gt) (t := 3) (off := 9) rfl rfl rfl
            repeat (first | refine EvO.plain rfl rfl rfl rfl rfl rfl ?_ | refine EvO.plain rfl rfl rfl rfl rfl (by assumption) ?_ | refine EvC.seq ?_ | refine EvC.region rfl ?_ | refine EvO.nil ?_ | refine at_normal ?_ | refine EvR.nil ?_)
            clear f1
            refine EvC.join (fun σ h' => ∃ (sc' : List Int) (b' : Int) (cx : Nat → Nat) (E : Nat → AV), Step (fun c => c = 20 ∨ c = 27) c9 h9 cx h' ∧ At G2 h' cx n { V2 with nv := nv, rn := V2.rn ++ [.slice rid 0 K.length rcap rex], tv := tv9, ev := ev9 } { SB with score := sc', bump := b' } ∧ σ = upds [(0, .ptr V2.p 0), (1, av), (7, v)] E) ?_ ?_
            · refine EvC.decide rfl (fun hbg => ?_) (fun hbg => ?_)
              · have f1 := C10.fld (gt := gt) (t := 35) (off := 8) rfl rfl rfl
                have ln := C10.sco.row.len (T := TT gt) (t := 35) rfl
                repeat (first | refine EvO.plain rfl rfl rfl rfl rfl rfl ?_ | refine EvO.plain rfl rfl rfl rfl rfl (by assumption) ?_ | refine EvC.seq ?_ | refine EvC.region rfl ?_ | refine EvO.nil ?_ | refine at_normal ?_ | refine EvC.block ?_)
                clear f1 ln
                refine EvC.loop (fun m σ h' => ∃ (i : Nat) (sc' : List Int) (cx : Nat → Nat) (E : Nat → AV), Step (fun c => c = 20 ∨ c = 27) c9 h9 cx h' ∧ At G2 h' cx n { V2 with nv := nv, rn := V2.rn ++ [.slice rid 0 K.length rcap rex], tv := tv9, ev := ev9 } { SB with score := sc', bump := z3 } ∧ i ≤ n + 1 ∧ m = n + 1 - i ∧ σ = upds [(0, .ptr V2.p 0), (1, av), (7, v), (86, .int .i64 (n + 1 : Nat)), (87, .int .i64 i)] E) (n + 1) ?_ ?_
                · exact ⟨0, SB.score, c9, _, A10.mono fun c e => .inl e, C10, Nat.zero_le _, rfl, hold ⟨rfl, rfl, rfl, rfl, rfl, trivial⟩⟩
                · rintro m _ h11 ⟨i, sc', c11, E, A11, C11, hi, rfl, rfl⟩
                  repeat (first | refine EvO.plain rfl rfl rfl rfl rfl rfl ?_ | refine EvC.seq ?_ | refine EvC.region rfl ?_ | refine EvO.nil ?_ | refine at_normal ?_)
                  refine EvC.decide rfl (fun hil => ?_) (fun hil => ?_)
                  · have hil : i < n + 1 := by omega
                    have f1 := C11.fld (gt := gt) (t := 35) (off := 8) rfl rfl rfl
                    have hscl : sc'.length = n + 1 := by have := C11.sco.count; simpa using this
                    have vs : Vec c11 27 h11 3 1 V2.sv sc'.length (sc'.map (AV.int .i64)) := hscl.symm ▸ C11.sco
                    have hOB := Vec.atI (gt := gt) vs (i := i) (by omega) (by omega)
                    obtain ⟨xa, xb, d1, d2⟩ := hOB
                    clear vs
                    repeat (first | refine EvO.plain rfl rfl rfl rfl rfl rfl ?_ | refine EvO.plain rfl rfl rfl rfl rfl (by assumption) ?_ | refine EvC.seq ?_ | refine EvC.region rfl ?_ | refine EvO.nil ?_ | refine at_normal ?_ | refine EvC.skip ?_ | refine EvC.block ?_)
                    (refine EvO.cons rfl rfl rfl (EvP.quietI rfl ⟨_, rfl⟩ (fun z4 => ?_)))
                    repeat (refine EvO.plain rfl rfl rfl rfl rfl (by assumption) ?_)
                    refine EvO.cons0 rfl rfl (EvP.setV (T := TT gt) (t := 35) (k := .i64) (i := i) (u := .int .i64 z4) C11.hs C11.sco (by decide) rfl rfl rfl (by omega) (by omega) d1 rfl rfl rfl rfl (fun h12 A12 N12 X12 _ => ?_))
                    rw [← List.map_set] at X12
                    have C12 := C11.setSco A12 N12 X12
                    clear f1 d1 d2
                    repeat (first | refine EvO.plain rfl rfl rfl rfl rfl rfl ?_ | refine EvC.region rfl ?_ | refine EvO.nil ?_ | refine at_normal ?_ | refine be_normal ?_ | refine ro_normal ?_ | refine EvO.cons rfl rfl rfl (EvP.add64 rfl rfl (by omega) ?_))
                    exact ⟨n + 1 - (i + 1), by omega, i + 1, _, c11, _, A11.trans (A12.mono fun c e => .inr e), C12, by omega, rfl, hold ⟨rfl, rfl, rfl, rfl, rfl, trivial⟩⟩
                  · have f1 := C11.fld (gt := gt) (t := 3) (off := 9) rfl rfl rfl
                    repeat (first | refine EvO.plain rfl rfl rfl rfl rfl rfl ?_ | refine EvO.plain rfl rfl rfl rfl rfl (by assumption) ?_ | refine EvC.region rfl ?_ | refine at_normal ?_ | refine EvC.exit ?_ | refine at_exit ?_ | refine be_same rfl ?_ | refine ro_exit ?_)
                    (refine EvO.cons rfl rfl rfl (EvP.quietI rfl ⟨_, rfl⟩ (fun z5 => ?_)))
                    repeat (refine EvO.plain rfl rfl rfl rfl rfl rfl ?_)
                    refine EvO.cons0 rfl rfl (EvP.store1 (u := .int .i64 z5) C11.hs 20 C11.obj C11.cpp (by decide) rfl rfl rfl rfl ⟨rfl, rfl⟩ (by show 9 < 13; decide) (fun h12 A12 N12 o12 _ _ => ?_))
                    have C12 := C11.setBump (z := z5) A12 N12 o12
                    clear f1
                    repeat (first | refine EvO.nil ?_ | refine jo_normal ?_)
                    exact ⟨sc', z5, c11, _, A11.trans (A12.mono fun c e => .inl e), C12, hold ⟨rfl, rfl, rfl, trivial⟩⟩
              · repeat (first | refine EvC.skip ?_ | refine jo_normal ?_)
                exact ⟨SB.score, z3, c9, _, A10.mono fun c e => .inl e, C10, hold ⟨rfl, rfl, rfl, trivial⟩⟩
            · clear C9 C10 A10 N10 o10 D ID
              rintro _ h11 ⟨sc', b', c11, E, A11, C11, rfl⟩
              have hc11 := Step.none A11 (c := 19) (by decide) (by decide) hc9
              have XR11 := XR9.step A11 w9 (by omega)
              have hE9 : S3.s.ends.getD lev 0 ≤ S3.s.tr.length := I3.ele _ (ends_at lt.lt)
              have etr : SB.s.tr = S3.s.tr.take (S3.s.ends.getD lev 0) := by rw [esb]; rfl
              have een : SB.s.ends = S3.s.ends.take lev := by rw [esb]; rfl
              have ecl : SB.s.cls = S3.s.cls := by rw [esb]; rfl
              have eln : SB.learnt = S3.learnt ++ [K] := by rw [← hSB]; rfl
              have ebr : SB.broken = false := by rw [← hSB]; exact eb3.trans hbr2
              have ewk : SB.work = ((w + 1 : Nat) : Int) := by rw [← hSB]; exact ew3
              have elv : SB.level = S3.level := by rw [← hSB]; rfl
              rw [← esb] at TB CB WB
              have htl9 : SB.s.tr.length = S3.s.ends.getD lev 0 := by rw [etr, List.length_take]; omega
              have hel9 : SB.s.ends.length = lev := by rw [een, List.length_take]; have := lt.lt; omega
              have elB : SB.s.ends.length ≤ SB.s.tr.length + ls.length := by rw [hel9, htl9]; exact hei3 lev lt.lt
              rw [← hel9] at AB
              have eiB : ∀ i, i < SB.s.ends.length → i ≤ SB.s.ends.getD i 0 + ls.length := fun i hi => by
                rw [hel9] at hi
                have h8 := hei3 i (by have := lt.lt; omega)
                rw [een, List.getD_eq_getElem?_getD, List.getElem?_take_of_lt hi, ← List.getD_eq_getElem?_getD]; exact h8
              have hlnB : SB.learnt.length ≤ w + 1 := by rw [eln, List.length_append, List.length_singleton, el3, hle2]; omega
              have hclB : SB.s.cls.length ≤ L.length + (w + 1) := by rw [ecl]; omega
              have IB2 : LInv n L { SB with score := sc', bump := b' } := IB.upd sc' b' SB.work
              have hf0 : ofT SB.s.tr (K.getD 0 0) = 0 := ofT_zero.2 ⟨fun hm => lt.fr.2 (by rw [etr] at hm; exact List.mem_of_mem_take hm), fun hm => lt.fr.1 (by rw [etr] at hm; exact hm)⟩
              have hmul : (20000 - w) * (n + 2) = (20000 - (w + 1)) * (n + 2) + (n + 2) := by rw [show 20000 - w = (20000 - (w + 1)) + 1 by omega, Nat.succ_mul]
              have htB := TB.len
              have ln := XR11.row.len (T := TT gt) (t := 35) rfl
              repeat (first | refine EvO.plain rfl rfl rfl rfl rfl rfl ?_ | refine EvO.plain rfl rfl rfl rfl rfl (by assumption) ?_ | refine EvC.seq ?_ | refine EvC.region rfl ?_ | refine EvO.nil ?_ | refine at_normal ?_)
              clear ln
              by_cases h1 : K.length = 1
              · refine EvC.cond (t := true) (isT (beq_true (show ((K.length : Nat) : Int) = 1 by omega))) (fun _ => ?_) (fun e => nomatch e)
                have hOB := List.length_eq_one_iff.1 h1
                obtain ⟨x, rfl⟩ := hOB
                have hxo := lt.oks x (List.mem_singleton.2 rfl)
                have hf0 : ofT SB.s.tr x = 0 := hf0
                have hlev0 := lt.one rfl
                have hOB := Vec.atI (gt := gt) XR11 (i := 0) (by omega) (by show (0 : Int) < 1; omega)
                obtain ⟨xa, xb, d1, d2⟩ := hOB
                have d2 : aload (TT gt) h11 3 (.ptr xa xb) = some (.int .i64 x) := d2
                repeat (first | refine EvO.plain rfl rfl rfl rfl rfl rfl ?_ | refine EvO.plain rfl rfl rfl rfl rfl (by assumption) ?_ | refine EvC.seq ?_ | refine EvC.region rfl ?_)
                refine EvO.cons rfl rfl rfl (EvP.callF rfl rfl rfl rfl (EvF.mono (of_spec C11 x hxo TB.cons) ?_))
                rintro _ h11 _ ⟨rfl, rfl⟩
                repeat (first | refine EvO.plain rfl rfl rfl rfl rfl rfl ?_ | refine EvO.nil ?_ | refine at_normal ?_)
                refine EvC.cond (t := false) (isT (p := (ofT SB.s.tr x == -1)) (by rw [hf0]; rfl)) (fun e => nomatch e) (fun _ => ?_)
                repeat (first | refine EvO.plain rfl rfl rfl rfl rfl rfl ?_ | refine EvO.plain rfl rfl rfl rfl rfl (by assumption) ?_ | refine EvC.seq ?_ | refine EvC.region rfl ?_ | refine at_normal ?_ | refine EvC.skip ?_)
                refine EvO.cons rfl rfl rfl (EvP.callF rfl rfl rfl rfl (EvF.mono (of_spec C11 x hxo TB.cons) ?_))
                rintro _ h11 _ ⟨rfl, rfl⟩
                repeat (first | refine EvO.plain rfl rfl rfl rfl rfl rfl ?_ | refine EvO.nil ?_ | refine at_normal ?_)
                refine EvC.cond (t := true) (isT (p := (ofT SB.s.tr x == 0)) (by rw [hf0]; rfl)) (fun _ => ?_) (fun e => nomatch e)
                repeat (first | refine EvO.plain rfl rfl rfl rfl rfl rfl ?_ | refine EvO.plain rfl rfl rfl rfl rfl (by assumption) ?_ | refine EvC.region rfl ?_)
                refine EvO.cons rfl rfl rfl (EvP.callF rfl rfl rfl rfl (EvF.mono (take_spec C11 x none hxo hf0 (fun k e => nomatch e) (by show SB.s.tr.length ≤ _; omega) (by show SB.s.ends.length ≤ _; omega)) ?_))
                rintro _ h12 _ ⟨rfl, c12, tv12, A12, C12⟩
                clear d1 d2
                repeat (first | refine EvO.nil ?_ | refine at_normal ?_ | refine EvC.exit ?_ | refine at_exit ?_ | refine be_same rfl ?_ | refine ro_normal ?_)
                have hf' := ofT_zero.1 hf0
                have he0 : SB.s.ends = [] := List.eq_nil_of_length_eq_zero (by omega)
                have I12 : LInv n L (({ SB with score := sc', bump := b' } : Sr).take x none) := IB2.take hxo hf0 (fun k e => nomatch e) (fun _ => .inl he0) fun _ => by
                  refine .unit (c := [x]) ?_ (List.mem_singleton.2 rfl) fun y hy hne => absurd (List.mem_singleton.1 hy) hne
                  show [x] ∈ L ++ SB.learnt
                  rw [eln]; simp
                have hlt12 : (SB.s.tr ++ [x]).length = SB.s.tr.length + 1 := by simp
                refine ⟨(20000 - (w + 1)) * (n + 2) + (n - (SB.s.tr.length + 1)), by omega, w + 1, G2, c12, { V2 with nv := nv, rn := V2.rn ++ [.slice rid 0 1 rcap rex], tv := tv12, ev := ev9 }, ({ SB with score := sc', bump := b' } : Sr).take x none, _, rfl, ⟨hG02, hO9⟩, Step.none A12 (by unfold SR; omega) (by decide) hc11, C12, I12, fun _ => ?_, by omega, hlnB, ?_, hold ⟨rfl, rfl, trivial⟩⟩
                · exact ⟨WB.push x, TB.push hxo hf'.1 hf'.2, CB.push TB x, I12, ebr, ewk, by omega, hlnB, hclB, by show SB.s.ends.length ≤ (SB.s.tr ++ [x]).length + ls.length; omega, eiB, fun _ => hncl, (AB.same (S' := ({ SB with score := sc', bump := b' } : Sr)) rfl rfl rfl).take IB2.wl IB2.ele hxo hf0 (fun _ => .inl he0)⟩
                · show _ = (20000 - (w + 1)) * (n + 2) + (n - (SB.s.tr ++ [x]).length)
                  rw [hlt12]
              · refine EvC.cond (t := false) (isT (beq_false (show ((K.length : Nat) : Int) ≠ 1 by omega))) (fun e => nomatch e) (fun _ => ?_)
                have hK2 : 2 ≤ K.length := by have := lt.pos; omega
                rw [← ecl] at XR11
                have hinit : ∀ j, 1 ≤ j → j < 2 → SB.level.getD (K.getD j 0).natAbs 0 ≤ SB.level.getD (K.getD 1 0).natAbs 0 := fun j h2 h3 => by
                  have hj1 : j = 1 := by omega
                  rw [hj1]; exact Int.le_refl _
                repeat (first | refine EvO.plain rfl rfl rfl rfl rfl rfl ?_ | refine EvC.seq ?_ | refine EvC.region rfl ?_ | refine EvO.nil ?_ | refine at_normal ?_ | refine EvC.skip ?_ | refine EvC.block ?_)
                refine EvC.loop (fun m σ h' => ∃ (i : Nat) (K' : List Int) (cx : Nat → Nat) (E : Nat → AV), Step (fun c => c = 43 + 2 * n + 2 * SB.s.cls.length) c11 h11 cx h' ∧ At G2 h' cx n { V2 with nv := nv, rn := V2.rn ++ [.slice rid 0 K.length rcap rex], tv := tv9, ev := ev9 } { SB with score := sc', bump := b' } ∧ Vec cx (43 + 2 * n + 2 * SB.s.cls.length) h' 3 1 v K'.length (K'.map (AV.int .i64)) ∧ K'.length = K.length ∧ (∀ x, x ∈ K' ↔ x ∈ K) ∧ K'.Nodup ∧ K'.getD 0 0 = K.getD 0 0 ∧ (∀ j, 1 ≤ j → j < i → SB.level.getD (K'.getD j 0).natAbs 0 ≤ SB.level.getD (K'.getD 1 0).natAbs 0) ∧ 2 ≤ i ∧ i ≤ K.length ∧ m = K.length - i ∧ σ = upds [(0, .ptr V2.p 0), (1, av), (7, v), (10, .int .i64 i)] E) (K.length - 2) ?_ ?_
                · exact ⟨2, K, c11, _, Step.refl C11.hs, C11, XR11, rfl, fun _ => Iff.rfl, lt.nod, rfl, hinit, Nat.le_refl _, hK2, rfl, hold ⟨rfl, rfl, rfl, rfl, trivial⟩⟩
                · clear C11 XR11 XR9 A11
                  rintro m _ h12 ⟨i, K', c12, E, A12, C12, XR, hKl', hKm, hKn, hK0, hKx, hi2, hiK, rfl, rfl⟩
                  have ln := XR.row.len (T := TT gt) (t := 35) rfl
                  repeat (first | refine EvO.plain rfl rfl rfl rfl rfl rfl ?_ | refine EvO.plain rfl rfl rfl rfl rfl (by assumption) ?_ | refine EvC.seq ?_ | refine EvC.region rfl ?_ | refine EvO.nil ?_ | refine at_normal ?_)
                  clear ln
                  refine EvC.decide rfl (fun hil => ?_) (fun hil => ?_)
                  · have hil : i < K'.length := by omega
                    have hoi := lt.oks _ ((hKm _).1 (mem_getD hil))
                    have ho1 := lt.oks _ ((hKm _).1 (mem_getD (show 1 < K'.length by omega)))
                    have hOB := Vec.atI (gt := gt) XR (i := i) (by omega) (by omega)
                    obtain ⟨xa, xb, d1, d2⟩ := hOB
                    have hOB := Vec.atI (gt := gt) XR (i := 1) (by omega) (by omega)
                    obtain ⟨ya, yb, g1, g2⟩ := hOB
                    rw [Int.toNat_natCast] at d2
                    have g2 : aload (TT gt) h12 3 (.ptr ya yb) = some (.int .i64 (K'.getD 1 0)) := g2
                    have hsl := swap_len K' 1 i
                    have hsa := fun m => swap_at K' (i := 1) (j := i) (by omega) hil m
                    have hsm := fun x => swap_mem (l := K') (i := 1) (j := i) (x := x) (by omega) hil
                    have hsn := swap_nodup (l := K') (i := 1) (j := i) (by omega) hil hKn
                    have hsw : swap K' 1 i = (K'.set 1 (K'.getD i 0)).set i (K'.getD 1 0) := rfl
                    have hnxt := hKx
                    generalize hxi : K'.getD i 0 = x at *
                    generalize hy1 : K'.getD 1 0 = y at *
                    obtain ⟨x0, x1, x2⟩ := hoi
                    obtain ⟨y0, y1, y2⟩ := ho1
                    have f1 := C12.fld (gt := gt) (t := 35) (off := 2) rfl rfl rfl
                    have hll : SB.level.length = n + 1 := IB.ll
                    have vl : Vec c12 22 h12 3 1 V2.lv SB.level.length (SB.level.map (AV.int .i64)) := hll.symm ▸ C12.lev
                    have hOB := Vec.atI (gt := gt) vl (i := max x (-x)) (by omega) (by omega)
                    obtain ⟨ua, ub, k1, k2⟩ := hOB
                    have hOB := Vec.atI (gt := gt) vl (i := max y (-y)) (by omega) (by omega)
                    obtain ⟨va, vb, l1, l2⟩ := hOB
                    clear vl
                    rw [natAbs_max] at k2 l2
                    repeat (first | refine EvC.seq ?_ | refine at_normal ?_ | refine EvC.skip ?_ | refine EvC.block ?_)
                    refine EvC.drawn (p := [⟨0, false, 0, 0⟩, ⟨1, false, 0, 0⟩, ⟨2, false, 0, 0⟩, ⟨3, false, 0, 0⟩, ⟨4, false, 0, 0⟩, ⟨5, false, 0, 0⟩, ⟨6, false, 0, 0⟩, ⟨7, false, 0, 0⟩, ⟨8, false, 0, 0⟩, ⟨9, false, 0, 0⟩, ⟨10, false, 0, 0⟩, ⟨11, false, 0, 0⟩, ⟨12, false, 0, 0⟩, ⟨13, false, 0, 0⟩, ⟨14, false, 0, 0⟩, ⟨15, false, 0, 0⟩, ⟨16, false, 0, 0⟩, ⟨17, false, 0, 0⟩, ⟨18, false, 0, 0⟩, ⟨19, false, 0, 0⟩, ⟨20, false, 0, 0⟩, ⟨21, false, 0, 0⟩, ⟨22, false, 0, 0⟩, ⟨23, false, 0, 0⟩, ⟨24, false, 0, 0⟩, ⟨25, false, 0, 0⟩, ⟨26, false, 0, 0⟩, ⟨27, false, 0, 0⟩, ⟨28, false, 0, 0⟩, ⟨29, false, 0, 0⟩, ⟨30, false, 0, 0⟩]) rfl (by kernel_rfl) (by kernel_rfl) rfl ?_
                    repeat (first | refine at_normal ?_ | refine EvR.nil ?_ | refine EvR.plain rfl rfl rfl rfl rfl rfl rfl ?_ | refine EvR.plain rfl rfl rfl rfl rfl rfl (by assumption) ?_ | refine EvR.cons rfl rfl rfl rfl (EvP.neg64 rfl (by omega) ?_) | refine EvR.cons rfl rfl rfl rfl (EvP.max rfl rfl rfl rfl ?_))
                    refine EvC.decide rfl (fun hgr => ?_) (fun hgr => ?_)
                    · have hgl := C12.hs.le
                      clear f1 k1 k2 l1 l2
                      skip
                      refine EvC.drawnH 1 (G2) (p := [⟨0, false, 0, 0⟩, ⟨1, false, 0, 1⟩, ⟨2, false, 0, 1⟩, ⟨3, false, 0, 0⟩, ⟨4, false, 0, 0⟩, ⟨5, false, 0, 0⟩, ⟨6, false, 0, 0⟩, ⟨7, false, 0, 0⟩, ⟨8, false, 0, 0⟩, ⟨9, false, 0, 0⟩, ⟨10, false, 0, 0⟩, ⟨11, true, 0, 1⟩, ⟨12, false, 1, 1⟩, ⟨13, true, 1, 2⟩]) rfl (by kernel_rfl) (by kernel_rfl) ?_
                      have hq := XR.veq
                      repeat (first | refine EvH.easy1 rfl rfl rfl rfl rfl rfl rfl rfl rfl rfl ?_ | refine EvH.easy1 rfl rfl rfl rfl rfl rfl rfl rfl rfl (by assumption) ?_ | refine EvH.easyG (by assumption) rfl rfl rfl rfl rfl rfl rfl rfl rfl rfl (by first | exact veq_s rfl | assumption) ?_)
                      (refine EvH.act0 rfl rfl rfl rfl rfl rfl (EvP.setV (T := TT gt) (t := 35) (k := .i64) (i := 1) (u := .int .i64 x) C12.hs XR (by omega) rfl rfl rfl (by omega) (by omega) g1 rfl rfl rfl rfl (fun h13 A13 N13 X13 _ => ⟨fun _ => N13.le, ?_⟩)))
                      clear d2 g2
                      have hgl2 := N13.le
                      repeat (refine EvH.easy1 rfl rfl rfl rfl rfl rfl rfl rfl rfl (by assumption) ?_)
                      (refine EvH.act0 rfl rfl rfl rfl rfl rfl (EvP.setV (T := TT gt) (t := 35) (k := .i64) (i := i) (u := .int .i64 y) N13 X13 (by omega) rfl rfl rfl (by omega) (by omega) d1 rfl rfl rfl rfl (fun h14 A14 N14 X14 _ => ⟨fun e => absurd e (by decide), ?_⟩)))
                      rw [← List.map_set, ← List.map_set, Int.toNat_natCast] at X14
                      have X14 : Vec c12 (43 + 2 * n + 2 * SB.s.cls.length) h14 3 1 v (swap K' 1 i).length ((swap K' 1 i).map (AV.int .i64)) := by rw [hsl, hsw]; exact X14
                      have C14 := (C12.aside (.inr rfl) A13 N13).aside (.inr rfl) A14 N14
                      repeat (first | refine EvO.plain rfl rfl rfl rfl rfl rfl ?_ | refine EvC.region rfl ?_ | refine EvO.nil ?_ | refine at_normal ?_ | refine be_normal ?_ | refine EvH.nil ?_ | refine ro_normal ?_ | refine EvO.cons rfl rfl rfl (EvP.add64 rfl rfl (by omega) ?_))
                      refine ⟨K.length - (i + 1), by omega, i + 1, swap K' 1 i, c12, _, (A12.trans A13).trans A14, C14, X14, hsl.trans hKl', fun x => (hsm x).trans (hKm x), hsn, ?_, fun j h2 h3 => ?_, by omega, by omega, rfl, hold ⟨rfl, rfl, rfl, rfl, trivial⟩⟩
                      · rw [hsa, if_neg (by omega), if_neg (by omega)]; exact hK0
                      · rw [hsa, hsa, if_neg (show ¬ 1 = i by omega), if_pos rfl]
                        by_cases hji : j = i
                        · rw [if_pos hji]; omega
                        · rw [if_neg hji]
                          by_cases hj1 : j = 1
                          · rw [if_pos hj1]; exact Int.le_refl _
                          · rw [if_neg hj1]
                            have := hnxt j h2 (by omega)
                            omega
                    · clear f1 k1 k2 l1 l2 d1 d2 g1 g2
                      repeat (first | refine EvO.plain rfl rfl rfl rfl rfl rfl ?_ | refine EvC.region rfl ?_ | refine EvO.nil ?_ | refine at_normal ?_ | refine EvC.skip ?_ | refine be_normal ?_ | refine ro_normal ?_ | refine EvO.cons rfl rfl rfl (EvP.add64 rfl rfl (by omega) ?_))
                      refine ⟨K.length - (i + 1), by omega, i + 1, K', c12, _, A12, C12, XR, hKl', hKm, hKn, hK0, fun j h2 h3 => ?_, by omega, by omega, rfl, hold ⟨rfl, rfl, rfl, rfl, trivial⟩⟩
                      rw [hy1]
                      by_cases hji : j = i
                      · rw [hji, hxi]; omega
                      · exact hnxt j h2 (by omega)
                  · have hend : i = K.length := by omega
                    subst hend
                    have hOB := XR.block (by omega)
                    obtain ⟨vid, vcap, vex, vtail, hv2, hv3, hv4⟩ := hOB
                    subst hv2
                    clear hv3 hv4
                    have hKo : ∀ y ∈ K', ok n y := fun y hy => lt.oks y ((hKm y).1 hy)
                    have hlen2 : 2 ≤ K'.length := by omega
                    have h1m : K'.getD 1 0 ∈ K' := mem_getD (by omega)
                    have hlv1 : SB.level.getD (K'.getD 1 0).natAbs 0 = (lev : Int) ∧ 1 ≤ lev := by
                      have hOB := lt.mx (by omega)
                      obtain ⟨x, hx, hx0, hxl⟩ := hOB
                      have hOB := mem_pos ((hKm x).2 hx)
                      obtain ⟨j, hj, e⟩ := hOB
                      have hj0 : 1 ≤ j := Nat.pos_of_ne_zero fun h0 => hx0 (by rw [← e, h0, hK0])
                      have h5 := hKx j hj0 (by omega)
                      rw [e, elv, hxl] at h5
                      have hne : K'.getD 1 0 ≠ K.getD 0 0 := by
                        rw [← hK0]; exact getD_ne hKn (by omega) (by omega) (by omega)
                      have hOB := lt.fl _ ((hKm _).1 h1m) hne
                      obtain ⟨_, h6, h7⟩ := hOB
                      rw [elv]; omega
                    have hrow : ∀ j, ∀ k ∈ SB.s.row j, k < SB.s.cls.length := fun j k hk => (WB.wof j k hk).1
                    have hcnt : SB.s.cls.length + 1 ≤ 2 ^ 30 := by omega
                    repeat (first | refine EvO.plain rfl rfl rfl rfl rfl rfl ?_ | refine EvC.seq ?_ | refine EvC.region rfl ?_ | refine at_normal ?_ | refine EvC.exit ?_ | refine at_exit ?_ | refine be_same rfl ?_ | refine ro_exit ?_)
                    (refine EvO.cons rfl rfl rfl (EvP.newC (b := .cells [.slice vid 0 K'.length vcap vex] 158 false) (mk := .ptr) C12.hs (42 + 2 * n + 2 * SB.s.cls.length) rfl rfl (by omega) (fun h13 id c13 A13 N13 o13 cc13 _ => ?_)))
                    have C13 := C12.addCl (l := K') (Step.refl C12.hs) XR A13 N13 o13 cc13 hcnt hrow
                    have eK : (V2.cp ++ [id]).getD SB.s.cls.length 0 = id := by
                      have : V2.cp.length = SB.s.cls.length := C12.clp
                      rw [← this]; exact getD_new
                    have eV : (V2.cl ++ [AV.slice vid 0 K'.length vcap vex]).getD SB.s.cls.length .nilPtr = .slice vid 0 K'.length vcap vex := by
                      have : V2.cl.length = SB.s.cls.length := C12.cll
                      rw [← this]; exact getD_new
                    have ec : Ws.c { SB.s with cls := SB.s.cls ++ [K'] } SB.s.cls.length = K' := getD_new
                    have LS := lay_spec (gt := gt) (k := SB.s.cls.length) C13 (by simp) (by show 2 ≤ (Ws.c { SB.s with cls := SB.s.cls ++ [K'] } SB.s.cls.length).length; rw [ec]; exact hlen2) (by show ∀ y ∈ Ws.c { SB.s with cls := SB.s.cls ++ [K'] } SB.s.cls.length, ok n y; rw [ec]; exact hKo) WB.len (fun j => by have h9 := rows_len WB j; exact Nat.le_trans h9 (by omega))
                    dsimp only at LS
                    rw [eK] at LS
                    repeat (first | refine EvO.plain rfl rfl rfl rfl rfl rfl ?_ | refine EvC.seq ?_ | refine EvC.region rfl ?_ | refine EvO.nil ?_ | refine at_normal ?_)
                    refine EvO.cons rfl rfl rfl (EvP.callF rfl rfl rfl rfl (EvF.mono (LS) ?_))
                    rintro _ h14 _ ⟨rfl, c14, rw14, A14, C14⟩
                    have ew : ∀ i, Ws.w { SB.s with cls := SB.s.cls ++ [K'] } SB.s.cls.length i = K'.getD i 0 := fun i => congrArg (fun z : List Int => z.getD i 0) ec
                    rw [ew, ew] at C14
                    have v14 := C14.cli SB.s.cls.length (by simp)
                    have ec14 : (SB.s.cls ++ [K']).getD SB.s.cls.length [] = K' := getD_new
                    have v14 : Vec c14 (43 + 2 * n + 2 * SB.s.cls.length) h14 3 1 (.slice vid 0 K'.length vcap vex) K'.length (K'.map (AV.int .i64)) := by
                      have v15 : Vec c14 (43 + 2 * n + 2 * SB.s.cls.length) h14 3 1 ((V2.cl ++ [AV.slice vid 0 K'.length vcap vex]).getD SB.s.cls.length .nilPtr) ((SB.s.cls ++ [K']).getD SB.s.cls.length []).length (((SB.s.cls ++ [K']).getD SB.s.cls.length []).map (AV.int .i64)) := v14
                      rw [eV, ec14] at v15; exact v15
                    have hOB := Vec.atI (gt := gt) v14 (i := 0) (by omega) (by omega)
                    obtain ⟨xa, xb, d1, d2⟩ := hOB
                    have d2 : aload (TT gt) h14 3 (.ptr xa xb) = some (.int .i64 (K'.getD 0 0)) := d2
                    have hf0' : ofT SB.s.tr (K'.getD 0 0) = 0 := by rw [hK0]; exact hf0
                    have h0m : K'.getD 0 0 ∈ K' := mem_getD (by omega)
                    have Tk := take_spec (gt := gt) C14 (K'.getD 0 0) (some SB.s.cls.length) (hKo _ h0m) hf0' (fun k e => by cases e; show SB.s.cls.length < (SB.s.cls ++ [K']).length; simp) (by show SB.s.tr.length ≤ _; omega) (by show SB.s.ends.length ≤ _; omega)
                    have ewp : whyV (V2.cp ++ [id]) (some SB.s.cls.length) = .ptr id 0 := by show AV.ptr _ 0 = _; rw [eK]
                    dsimp only at Tk
                    rw [ewp] at Tk
                    repeat (first | refine EvO.plain rfl rfl rfl rfl rfl rfl ?_ | refine EvO.plain rfl rfl rfl rfl rfl (by assumption) ?_ | refine EvC.seq ?_ | refine EvC.region rfl ?_ | refine EvO.nil ?_ | refine at_normal ?_)
                    refine EvO.cons rfl rfl rfl (EvP.callF rfl rfl rfl rfl (EvF.mono (Tk) ?_))
                    rintro _ h15 _ ⟨rfl, c15, tv15, A15, C15⟩
                    clear d1 d2
                    repeat (first | refine EvO.nil ?_ | refine at_normal ?_ | refine EvC.exit ?_ | refine at_exit ?_ | refine be_same rfl ?_ | refine ro_normal ?_)
                    have hf' := ofT_zero.1 hf0'
                    have hWL : WI n (SB.s.lay K') := WB.lay hKn hlen2 hKo
                    have hTL : TI n (SB.s.lay K') := ⟨TB.oks, TB.cons, TB.nodup, TB.hle, TB.ends⟩
                    have hnc : ∀ e ∈ SB.s.ends, -(K'.getD 1 0) ∉ SB.s.tr.take e := fun e he' hm => by
                      have hOB := mem_pos hm
                      obtain ⟨p, hp, e2⟩ := hOB
                      rw [List.length_take] at hp
                      rw [take_getD (by omega)] at e2
                      have h5 := IB.lvs p (by omega)
                      rw [e2, Int.natAbs_neg, hlv1.1] at h5
                      have h6 : lv SB.s.ends p = SB.s.ends.length := by omega
                      have := lv_full.1 h6 e he'
                      omega
                    have I15 : LInv n L (({ SB with score := sc', bump := b', s := SB.s.lay K' } : Sr).take (K'.getD 0 0) (some SB.s.cls.length)) := by
                      refine LInv.take (LInv.lay IB2 ⟨K, by show K ∈ L ++ SB.learnt; rw [eln]; simp, hKm⟩) (hKo _ h0m) hf0' (fun k e => ?_) (fun e => nomatch e) fun he' => ?_
                      · cases e
                        refine ⟨by show _ < (SB.s.lay K').cls.length; rw [lay_len]; omega, by show _ ∈ (SB.s.lay K').c _; rw [lay_c_new]; exact h0m, fun y hy hne => ?_⟩
                        have hy : y ∈ (SB.s.lay K').c SB.s.cls.length := hy
                        rw [lay_c_new] at hy
                        show -y ∈ SB.s.tr
                        rw [etr]
                        exact (lt.fl y ((hKm y).1 hy) (by rw [← hK0]; exact hne)).1
                      · have he' : SB.s.ends = [] := he'
                        have : SB.s.ends.length = 0 := by rw [he']; rfl
                        omega
                    have hlt15 : (SB.s.tr ++ [K'.getD 0 0]).length = SB.s.tr.length + 1 := by simp
                    refine ⟨(20000 - (w + 1)) * (n + 2) + (n - (SB.s.tr.length + 1)), by omega, w + 1, G2, c15, _, ({ SB with score := sc', bump := b', s := SB.s.lay K' } : Sr).take (K'.getD 0 0) (some SB.s.cls.length), _, ?_, ⟨hG02, hO9⟩, Step.none A15 (by unfold SR; omega) (by decide) (Step.none A14 (by decide) (by decide) (Step.none A13 (by omega) (by decide) (Step.none A12 (by omega) (by decide) hc11))), C15, I15, fun _ => ?_, by omega, hlnB, ?_, hold ⟨rfl, rfl, trivial⟩⟩
                    · rfl
                    · exact ⟨hWL.push _, hTL.push (hKo _ h0m) hf'.1 hf'.2, CB.learn1 WB TB (by rw [hK0]; exact (ofT_zero.1 hf0).2) hnc, I15, ebr, ewk, by omega, hlnB, by show (SB.s.lay K').cls.length ≤ _; rw [lay_len, ecl]; omega, by show SB.s.ends.length ≤ (SB.s.tr ++ [K'.getD 0 0]).length + ls.length; omega, eiB, fun _ => hncl, (AB.same (S' := ({ SB with score := sc', bump := b', s := SB.s.lay K' } : Sr)) rfl rfl rfl).take IB2.wl IB2.ele (hKo _ h0m) hf0' (fun e => nomatch e)⟩
                    · show _ = (20000 - (w + 1)) * (n + 2) + (n - (SB.s.tr ++ [K'.getD 0 0]).length)
                      rw [hlt15]
end
end Sa
end Pf
end Go.Proofs.YtfjloafebkjadaaGreatDoor
/- A search runs, nothing taken ahead. -/
namespace Go.Proofs.YtfjloafebkjadaaGreatDoor
namespace Pf
namespace Sa
open Go Go.AI Go.Proofs
variable {gt : Tree (List AV)}
section
variable {G h : AH} {col : Nat → Nat} {n : Nat} {V : Lay} {S : Sr}
/-- What a search came to. -/
def RunSays (n : Nat) (L : List (List Int)) (S : Sr) (r : Int) : Prop :=
  (r = 0 ∧ (∀ x, ok n x → x ∈ S.s.tr ∨ -x ∈ S.s.tr) ∧ (∀ x, x ∈ S.s.tr → -x ∉ S.s.tr) ∧ (∀ l ∈ L, ∃ x ∈ l, x ∈ S.s.tr)) ∨
  (r = 2 ∧ ¬ Clash L []) ∨
  (r = 1 ∧ Clash (L ++ S.learnt) [] ∧ S.learnt.length ≤ 20001 ∧ ∀ i, i < S.learnt.length → Clash (L ++ S.learnt.take i) ((S.learnt.getD i []).map (- ·)) ∧ (∀ x ∈ S.learnt.getD i [], ok n x) ∧ (S.learnt.getD i []).Nodup)
theorem run_spec {B : AH} {L : List (List Int)} (hL : ∀ l ∈ L, ∀ x ∈ l, ok n x) (hLl : L.length ≤ 200000) (hc19 : ∀ i, col i ≠ 19) (C : At G h col n V S) (W : WI n S.s) (T : TI n S.s) (CIs : CI S.s) (I : LInv n L S) (hw0 : S.work = 0) (hln : S.learnt = []) (hcl : S.s.cls.length ≤ L.length) (hen : S.s.ends = []) (hB : B.le G) (hO : OwnN B G V.rn) :
    EvF (TT gt) X 71 [.ptr V.p 0, .nilSlice] h (fun r h' => ∃ k G' col' V' S', (G.le G' ∧ OwnN B G' V'.rn) ∧ r = .tuple [.int .i64 k, .int .i64 0] ∧ V'.p = V.p ∧ HS G' h' col' ∧ At G' h' col' n V' S' ∧ RunSays n L S' k) := by
  refine EvF.mono (runA_spec hL hLl hc19 C W T CIs I hw0 hln hcl hen (ls := []) .nil (by decide) (fun x hx => nomatch hx) hB hO) ?_
  rintro r h' _ ⟨k, bad, G', col', V', S', h1, rfl, hb0, h2, h3, h4, hR⟩
  rcases hR with ⟨rfl, a1, a2, a3, _⟩ | ⟨rfl, a1⟩ | ⟨rfl, a1, a2, a3⟩ | ⟨rfl, _, _, _, _, _, hb, _⟩
  · have hOB := hb0.resolve_left (by decide)
    obtain rfl := hOB
    exact ⟨0, G', col', V', S', h1, rfl, h2, h3, h4, .inl ⟨rfl, a1, a2, a3⟩⟩
  · have hOB := hb0.resolve_left (by decide)
    obtain rfl := hOB
    exact ⟨2, G', col', V', S', h1, rfl, h2, h3, h4, .inr (.inl ⟨rfl, a1⟩)⟩
  · have hOB := hb0.resolve_left (by decide)
    obtain rfl := hOB
    exact ⟨1, G', col', V', S', h1, rfl, h2, h3, h4, .inr (.inr ⟨rfl, a1, a3, a2.rup⟩)⟩
  · cases hb
end
end Sa
end Pf
end Go.Proofs.YtfjloafebkjadaaGreatDoor
