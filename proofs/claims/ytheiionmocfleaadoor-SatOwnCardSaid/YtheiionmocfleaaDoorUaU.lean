/- What Under answers. -/
import Derived.Test.YtheiionmocfleaaDoorSbX
import Derived.Test.YtheiionmocfleaaDoorUaC
/- What Under answers. -/
namespace Go.Proofs.YtheiionmocfleaaDoor
namespace Pf
namespace Sa
open Go Go.AI Go.Proofs
variable {gt : Tree (List AV)}
/-- What Under answers of a valid set and literals of its variables. -/
def UnderSays (h' : AH) (n : Nat) (L : List (List Int)) (ls : List Int) (r : AV) : Prop :=
  (∃ mv m, r = .tuple [.bool true, mv, .nilSlice, .int .i64 0] ∧ BoolRow h' mv m ∧ m.length = n ∧ allB L m ∧ ∀ x ∈ ls, holdsB m x = true) ∨
  (r = .tuple [.bool false, .nilSlice, .nilSlice, .int .i64 24] ∧ 12 < n ∧ ¬ Clash L ls) ∨
  (∃ cv out, r = .tuple [.bool false, .nilSlice, cv, .int .i64 0] ∧ (IntRow h' cv out ∧ NZ cv) ∧ out.Sublist ls ∧ NoM n L out)
theorem told_holds {S : Sr} {n : Nat} {bs : List Bool} (hbs : ∀ v : Nat, v < n → bs.getD v false = decide (((v + 1 : Nat) : Int) ∈ S.s.tr)) (hcons : ∀ x, x ∈ S.s.tr → -x ∉ S.s.tr) {x : Int} (hx : ok n x) (hm : x ∈ S.s.tr) : holdsB bs x = true := by
  obtain ⟨x0, x1, x2⟩ := hx
  unfold holdsB absI
  by_cases hp : x > 0
  · rw [if_neg (by omega), hbs _ (by omega), show (((x - 1).toNat + 1 : Nat) : Int) = x by omega, decide_eq_true hm, decide_eq_true hp]; rfl
  · rw [if_pos (by omega), hbs _ (by omega), show (((-x - 1).toNat + 1 : Nat) : Int) = -x by omega, decide_eq_false (hcons x hm), decide_eq_false hp]; rfl
set_option maxHeartbeats 8000000 in
theorem under_spec {h : AH} (hw : WF h) {vars : Int} {cl : AV} {L : List (List Int)} {cv : Nat → AV} (C : CnfAt h vars cl L cv) {tv : AV} {ls : List Int} (rt : IntRow h tv ls) (nt : NZ tv) (hll : ls.length ≤ 1000) :
    EvF (TT gt) X 31 [.agg [.int .i64 vars, cl], tv] h (fun r h' => (h.le h' ∧ WF h') ∧ ((¬ (valid vars L ∧ ∀ x ∈ ls, ok vars x) ∧ r = .tuple [.bool false, .nilSlice, .nilSlice, .int .i64 2]) ∨ ((valid vars L ∧ ∀ x ∈ ls, ok vars x) ∧ UnderSays h' vars.toNat L ls r))) := by
  have S0 := HS.all hw
  refine EvF.enter rfl rfl rfl ?_
  repeat (first | refine EvC.seq ?_ | refine EvC.region rfl ?_)
  (refine EvO.cons rfl rfl rfl (EvP.newR (b := .cells [.int .i64 vars, cl] 24 false) (mk := .ptr) S0 rfl rfl (fun h1 b A1 S1 hle1 o1 _ _ => ?_)))
  have f1 := loadAgg (T := TT gt) (t := 24) (off := 0) (n := 2) (r := [.int .i64 vars, cl]) o1 rfl rfl
  repeat (first | refine EvO.plain rfl rfl rfl rfl rfl rfl ?_ | refine EvO.plain rfl rfl rfl rfl rfl (by assumption) ?_ | refine EvC.seq ?_ | refine EvC.region rfl ?_ | refine EvO.nil ?_ | refine at_normal ?_)
  (refine EvO.cons rfl rfl rfl (EvP.callF rfl rfl rfl rfl (EvF.mono (valid_spec (facts gt) S1.wf (C.mono (fun i o e => S1.le _ _ (hle1 _ _ e)))) ?_)))
  rintro _ h2 _ ⟨hg2, rfl⟩
  have hle2 : h.le h2 := fun i o e => hg2.le _ _ (S1.le _ _ (hle1 _ _ e))
  have f2 := loadAgg (T := TT gt) (t := 24) (off := 0) (n := 2) (r := [.int .i64 vars, cl]) (hg2.le _ _ o1) rfl rfl
  clear f1
  by_cases hv : valid vars L
  · rw [decide_eq_true hv]
    have hvars : 0 ≤ vars ∧ vars ≤ 1000000 := ⟨hv.1, by have := hv.2.1; omega⟩
    have ln := RowOf.len_any (T := TT gt) (t := 25) rt rfl h2
    repeat (first | refine EvO.plain rfl rfl rfl rfl rfl rfl ?_ | refine EvO.plainOn rfl rfl rfl rfl rfl rfl ?_ | refine EvO.plainOn rfl rfl rfl rfl rfl (by assumption) ?_)
    refine EvO.on rfl rfl rfl (EvP.quiet (v := .bool false) rfl (isB (decide_eq_false (by omega))) ?_)
    clear ln
    repeat (first | refine EvO.plain rfl rfl rfl rfl rfl rfl ?_ | refine EvO.plainOn rfl rfl rfl rfl rfl rfl ?_ | refine EvO.plainOn rfl rfl rfl rfl rfl (by assumption) ?_)
    refine EvO.on rfl rfl rfl (EvP.callF rfl rfl rfl rfl (EvF.mono (within_spec (facts gt) hg2.wf (RowOf.mono hle2 rt) (by omega) hvars) ?_))
    rintro _ h3 _ ⟨hg3, rfl⟩
    have hle3 : h.le h3 := fun i o e => hg3.le _ _ (hle2 _ _ e)
    have o3 := hg3.le _ _ (hg2.le _ _ o1)
    clear f2
    by_cases hok : ∀ x ∈ ls, ok vars x
    · rw [decide_eq_true hok]
      have f3 := loadAgg (T := TT gt) (t := 24) (off := 0) (n := 2) (r := [.int .i64 vars, cl]) o3 rfl rfl
      repeat (first | refine EvO.plain rfl rfl rfl rfl rfl rfl ?_ | refine EvO.nil ?_ | refine at_normal ?_ | refine EvO.plainOn rfl rfl rfl rfl rfl rfl ?_)
      refine EvC.cond (t := false) rfl (fun e => nomatch e) (fun _ => ?_)
      have hOB : ∃ n : Nat, vars = n := ⟨vars.toNat, by have := hv.1; omega⟩
      obtain ⟨n, rfl⟩ := hOB
      have S3 : HS h3 h3 (fun _ => 0) := HS.all hg3.wf
      have hLok := valid_oks hv
      have hall : ∀ i, i < L.length → ∀ x ∈ L.getD i [], ok n x := fun i hi => hLok _ (getDL_mem hi)
      repeat (first | refine EvO.plain rfl rfl rfl rfl rfl (by assumption) ?_ | refine EvC.seq ?_ | refine EvC.region rfl ?_ | refine at_normal ?_ | refine EvC.skip ?_)
      (refine EvO.cons rfl rfl rfl (EvP.callF rfl rfl rfl rfl (EvF.mono (begin_spec S3 (fun _ e => nomatch e) (C.mono hle3) hv) ?_)))
      rintro _ h4 _ ⟨c4, V4, Z4, rfl, A4, C4, B4⟩
      have BI4 := B4.inv hLok
      have CI4 : CI Z4.s := (BI4.ui []).ci
      clear f3
      repeat (refine EvO.plain rfl rfl rfl rfl rfl rfl ?_)
      (refine EvO.cons rfl rfl rfl (EvP.callF rfl rfl rfl rfl (EvF.mono (clash_spec hLok C4 BI4.W BI4.T CI4 (BI4.linv B4) BI4.en (RowOf.mono hle3 rt) (by omega) hok) ?_)))
      rintro _ h5 _ ⟨G5, c5, hG5, S5, hCS⟩
      have hle5 : h.le h5 := fun i o e => S5.le _ _ (hG5 _ _ (hle3 _ _ e))
      have o5 := S5.le _ _ (hG5 _ _ o3)
      rcases hCS with ⟨kv, out, rfl, hrow, hsub, hno⟩ | ⟨rfl, hncl⟩
      · repeat (first | refine EvO.plain rfl rfl rfl rfl rfl rfl ?_ | refine EvC.seq ?_ | refine EvC.region rfl ?_ | refine EvO.nil ?_ | refine at_normal ?_)
        refine EvC.cond (t := true) rfl (fun _ => ?_) (fun e => nomatch e)
        repeat (first | refine EvO.plain rfl rfl rfl rfl rfl rfl ?_ | refine EvC.seq ?_ | refine EvC.region rfl ?_ | refine EvO.nil ?_ | refine at_normal ?_ | refine EvC.ret ?_ | refine at_ret ?_)
        (refine ret_are (vs := [.bool false, .nilSlice, kv, .int .i64 0]) rfl rfl ?_)
        exact ⟨⟨hle5, S5.wf⟩, .inr ⟨⟨hv, hok⟩, .inr (.inr ⟨kv, out, rfl, hrow, hsub, hno⟩)⟩⟩
      · have f5 := loadAgg (T := TT gt) (t := 24) (off := 0) (n := 2) (r := [.int .i64 n, cl]) o5 rfl rfl
        have S5' : HS h5 h5 (fun _ => 0) := HS.all S5.wf
        repeat (first | refine EvO.plain rfl rfl rfl rfl rfl rfl ?_ | refine EvC.seq ?_ | refine EvC.region rfl ?_ | refine EvO.nil ?_ | refine at_normal ?_)
        refine EvC.cond (t := false) rfl (fun e => nomatch e) (fun _ => ?_)
        repeat (first | refine EvO.plain rfl rfl rfl rfl rfl (by assumption) ?_ | refine EvC.seq ?_ | refine EvC.region rfl ?_ | refine at_normal ?_ | refine EvC.skip ?_)
        (refine EvO.cons rfl rfl rfl (EvP.callF rfl rfl rfl rfl (EvF.mono (begin_spec S5' (fun _ e => nomatch e) (C.mono hle5) hv) ?_)))
        rintro _ h6 _ ⟨c6, V6, Z6, rfl, A6, C6, B6⟩
        have BI6 := B6.inv hLok
        have CI6 : CI Z6.s := (BI6.ui []).ci
        clear f5
        have hLl : L.length ≤ 200000 := hv.2.2.1
        repeat (first | refine EvO.plain rfl rfl rfl rfl rfl rfl ?_ | refine EvC.seq ?_ | refine EvC.region rfl ?_ | refine EvO.nil ?_ | refine at_normal ?_)
        (refine EvO.cons rfl rfl rfl (EvP.callF rfl rfl rfl rfl (EvF.mono (runA_spec hLok hLl (Step.none A6 (by decide) (by decide) (fun _ e => nomatch e)) C6 BI6.W BI6.T CI6 (BI6.linv B6) B6.work B6.learnt BI6.cl BI6.en (RowOf.mono hle5 rt) hll hok (B := h5) (fun _ _ e => e) (B6.own C6)) ?_)))
        rintro _ h7 _ ⟨k, bad, G7, c7, V7, Z7, ⟨hG7, _⟩, rfl, _, hp7, S7, C7, hR⟩
        have hle7 : h.le h7 := fun i o e => S7.le _ _ (hG7 _ _ (hle5 _ _ e))
        have o7 := S7.le _ _ (hG7 _ _ o5)
        rw [← hp7]
        rcases hR with ⟨rfl, hfull, hcons, hmod, hasm⟩ | ⟨rfl, _⟩ | ⟨rfl, hcl, hI, _⟩ | ⟨rfl, hW, hT, hI, hAh, hel, hbl, hbt⟩
        · repeat (first | refine EvO.plain rfl rfl rfl rfl rfl rfl ?_ | refine EvC.seq ?_ | refine EvC.region rfl ?_ | refine EvO.nil ?_ | refine at_normal ?_ | refine EvC.block ?_)
          refine EvC.cond (t := true) rfl (fun _ => ?_) (fun e => nomatch e)
          repeat (first | refine EvO.plain rfl rfl rfl rfl rfl rfl ?_ | refine EvC.seq ?_ | refine EvC.region rfl ?_)
          (refine EvO.cons rfl rfl rfl (EvP.callF rfl rfl rfl rfl (EvF.mono (told_spec C7) ?_)))
          rintro r8 h8 _ ⟨c8, bs, S8, row8, hbl, hbs⟩
          repeat (first | refine EvO.plain rfl rfl rfl rfl rfl rfl ?_ | refine EvO.nil ?_ | refine at_normal ?_ | refine EvC.ret ?_ | refine at_ret ?_ | refine be_ret ?_)
          (refine ret_are (vs := [.bool true, r8, .nilSlice, .int .i64 0]) rfl rfl ?_)
          exact ⟨⟨fun i o e => S8.le _ _ (hG7 _ _ (hle5 _ _ e)), S8.wf⟩, .inr ⟨⟨hv, hok⟩, .inl ⟨r8, bs, rfl, row8, hbl, found_model hbl hbs hcons hmod hLok, fun x hx => told_holds hbs hcons (hok x hx) (hasm x hx)⟩⟩⟩
        · have f7 := load1 (T := TT gt) (t := 3) (off := 0) o7 rfl rfl rfl
          repeat (first | refine EvO.plain rfl rfl rfl rfl rfl rfl ?_ | refine EvC.seq ?_ | refine EvC.region rfl ?_ | refine EvO.nil ?_ | refine at_normal ?_ | refine EvC.block ?_)
          refine EvC.cond (t := false) rfl (fun e => nomatch e) (fun _ => ?_)
          repeat (first | refine EvO.plain rfl rfl rfl rfl rfl rfl ?_ | refine EvC.seq ?_ | refine EvC.region rfl ?_ | refine EvO.nil ?_ | refine at_normal ?_)
          refine EvC.cond (t := true) rfl (fun _ => ?_) (fun e => nomatch e)
          repeat (first | refine EvO.plain rfl rfl rfl rfl rfl rfl ?_ | refine EvO.plain rfl rfl rfl rfl rfl (by assumption) ?_ | refine EvC.seq ?_ | refine EvC.region rfl ?_ | refine EvO.nil ?_ | refine at_normal ?_)
          clear f7
          by_cases hn : (n : Int) > 12
          · refine EvC.cond (t := true) (isT (decide_eq_true hn)) (fun _ => ?_) (fun e => nomatch e)
            repeat (first | refine EvO.plain rfl rfl rfl rfl rfl rfl ?_ | refine EvC.seq ?_ | refine EvC.region rfl ?_ | refine EvO.nil ?_ | refine at_normal ?_ | refine EvC.ret ?_ | refine at_ret ?_ | refine be_ret ?_)
            (refine ret_are (vs := [.bool false, .nilSlice, .nilSlice, .int .i64 24]) rfl rfl ?_)
            exact ⟨⟨hle7, S7.wf⟩, .inr ⟨⟨hv, hok⟩, .inr (.inl ⟨rfl, by show 12 < n; omega, hncl⟩)⟩⟩
          · refine EvC.cond (t := false) (isT (decide_eq_false hn)) (fun e => nomatch e) (fun _ => ?_)
            have f8 := loadAgg (T := TT gt) (t := 24) (off := 0) (n := 2) (r := [.int .i64 n, cl]) o7 rfl rfl
            repeat (first | refine EvO.plain rfl rfl rfl rfl rfl rfl ?_ | refine EvO.plain rfl rfl rfl rfl rfl (by assumption) ?_ | refine EvC.seq ?_ | refine EvC.region rfl ?_ | refine at_normal ?_ | refine EvC.skip ?_)
            (refine EvO.cons rfl rfl rfl (EvP.callF rfl rfl rfl rfl (EvF.mono (through_spec S7.wf (by omega) (C.mono hle7) hall (RowOf.mono hle7 rt) hok (by omega)) ?_)))
            rintro _ h8 _ ⟨⟨hle78, hw8⟩, hT⟩
            clear f8
            have hle8 : h.le h8 := fun i o e => hle78 _ _ (hle7 _ _ e)
            rcases hT with ⟨rfl, hno⟩ | ⟨id, m, rfl, rowm, hml, hA, hlm⟩
            · have S8 : HS h8 h8 (fun _ => 0) := HS.all hw8
              repeat (first | refine EvO.plain rfl rfl rfl rfl rfl rfl ?_ | refine EvC.seq ?_ | refine EvC.region rfl ?_ | refine EvO.nil ?_ | refine at_normal ?_)
              refine EvC.cond (t := false) rfl (fun e => nomatch e) (fun _ => ?_)
              repeat (first | refine EvO.plain rfl rfl rfl rfl rfl rfl ?_ | refine EvC.seq ?_ | refine EvC.region rfl ?_ | refine at_normal ?_ | refine EvC.skip ?_)
              (refine EvO.cons rfl rfl rfl (EvP.callF rfl rfl rfl rfl (EvF.mono (clone_spec S8 19 (by decide) (RowOf.mono hle8 rt) (fun h1 col1 A => RowOf.mono (S8.step A (by decide)).le (RowOf.mono hle8 rt)) nt (by omega)) ?_)))
              rintro r9 h9 _ ⟨c9, A9, S9, X9⟩
              repeat (first | refine EvO.plain rfl rfl rfl rfl rfl rfl ?_ | refine EvO.nil ?_ | refine at_normal ?_ | refine EvC.ret ?_ | refine at_ret ?_ | refine be_ret ?_)
              (refine ret_are (vs := [.bool false, .nilSlice, r9, .int .i64 0]) rfl rfl ?_)
              refine ⟨⟨fun i o e => S9.le _ _ (hle8 _ _ e), S9.wf⟩, .inr ⟨⟨hv, hok⟩, .inr (.inr ⟨r9, ls, rfl, ⟨Vec.ints X9, X9.nz⟩, List.Sublist.refl _, fun B hB hA hall2 => ?_⟩)⟩⟩
              have hOB := bits_all B
              obtain ⟨s, hs1, hs2⟩ := hOB
              have hB : B.length = n := hB
              rw [hB] at hs1 hs2
              exact hno s hs1 ⟨fun x hx => by rw [hs2]; exact hall2 x hx, by rw [hs2]; exact hA⟩
            · repeat (first | refine EvO.plain rfl rfl rfl rfl rfl rfl ?_ | refine EvC.seq ?_ | refine EvC.region rfl ?_ | refine EvO.nil ?_ | refine at_normal ?_)
              refine EvC.cond (t := true) rfl (fun _ => ?_) (fun e => nomatch e)
              repeat (first | refine EvO.plain rfl rfl rfl rfl rfl rfl ?_ | refine EvC.seq ?_ | refine EvC.region rfl ?_ | refine EvO.nil ?_ | refine at_normal ?_ | refine EvC.ret ?_ | refine at_ret ?_ | refine be_ret ?_)
              (refine ret_are (vs := [.bool true, .slice id 0 n n true, .nilSlice, .int .i64 0]) rfl rfl ?_)
              exact ⟨⟨hle8, hw8⟩, .inr ⟨⟨hv, hok⟩, .inl ⟨_, m, rfl, rowm, hml, hA, hlm⟩⟩⟩
        · repeat (first | refine EvO.plain rfl rfl rfl rfl rfl rfl ?_ | refine EvC.seq ?_ | refine EvC.region rfl ?_ | refine EvO.nil ?_ | refine at_normal ?_ | refine EvC.block ?_)
          refine EvC.cond (t := false) rfl (fun e => nomatch e) (fun _ => ?_)
          repeat (first | refine EvO.plain rfl rfl rfl rfl rfl rfl ?_ | refine EvC.seq ?_ | refine EvC.region rfl ?_ | refine EvO.nil ?_ | refine at_normal ?_)
          refine EvC.cond (t := false) rfl (fun e => nomatch e) (fun _ => ?_)
          repeat (first | refine EvO.plain rfl rfl rfl rfl rfl rfl ?_ | refine EvC.seq ?_ | refine EvC.region rfl ?_ | refine EvO.nil ?_ | refine at_normal ?_)
          refine EvC.cond (t := true) rfl (fun _ => ?_) (fun e => nomatch e)
          repeat (first | refine EvO.plain rfl rfl rfl rfl rfl rfl ?_ | refine EvC.seq ?_ | refine EvC.region rfl ?_ | refine EvO.nil ?_ | refine at_normal ?_ | refine EvC.ret ?_ | refine at_ret ?_ | refine be_ret ?_)
          (refine ret_are (vs := [.bool false, .nilSlice, .nilSlice, .int .i64 0]) rfl rfl ?_)
          exact ⟨⟨hle7, S7.wf⟩, .inr ⟨⟨hv, hok⟩, .inr (.inr ⟨.nilSlice, [], rfl, ⟨.nil, trivial⟩, List.nil_sublist _, clash_none hI hLok hcl []⟩)⟩⟩
        · repeat (first | refine EvO.plain rfl rfl rfl rfl rfl rfl ?_ | refine EvC.seq ?_ | refine EvC.region rfl ?_ | refine EvO.nil ?_ | refine at_normal ?_ | refine EvC.block ?_)
          refine EvC.cond (t := false) rfl (fun e => nomatch e) (fun _ => ?_)
          repeat (first | refine EvO.plain rfl rfl rfl rfl rfl rfl ?_ | refine EvC.seq ?_ | refine EvC.region rfl ?_ | refine EvO.nil ?_ | refine at_normal ?_)
          refine EvC.cond (t := false) rfl (fun e => nomatch e) (fun _ => ?_)
          repeat (first | refine EvO.plain rfl rfl rfl rfl rfl rfl ?_ | refine EvC.seq ?_ | refine EvC.region rfl ?_ | refine EvO.nil ?_ | refine at_normal ?_)
          refine EvC.cond (t := false) rfl (fun e => nomatch e) (fun _ => ?_)
          have hbok := hok bad hbl
          repeat (first | refine EvO.plain rfl rfl rfl rfl rfl rfl ?_ | refine EvC.seq ?_ | refine EvC.region rfl ?_ | refine at_normal ?_ | refine EvC.skip ?_ | refine be_normal ?_)
          (refine EvO.cons rfl rfl rfl (EvP.callF rfl rfl rfl rfl (EvF.mono (core_spec C7 hW hT hI (RowOf.mono (fun i o e => hG7 _ _ (hle5 _ _ e)) rt) (by omega) hok hbok) ?_)))
          rintro r8 h8 _ ⟨c8, out, nd, S8, row8, hF⟩
          repeat (first | refine EvO.plain rfl rfl rfl rfl rfl rfl ?_ | refine EvO.nil ?_ | refine at_normal ?_ | refine EvC.ret ?_)
          (refine ret_are (vs := [.bool false, .nilSlice, r8, .int .i64 0]) rfl rfl ?_)
          refine ⟨⟨fun i o e => S8.le _ _ (hG7 _ _ (hle5 _ _ e)), S8.wf⟩, .inr ⟨⟨hv, hok⟩, .inr (.inr ⟨r8, out, rfl, row8, hF.sub, fun B hB hA hout => ?_⟩)⟩⟩
          have h6 := hF.opp hI hT hLok (fun p hp h1 h2 => hAh.dec p hp h1 h2 (by have := lv_le Z7.s.ends p; omega)) (fun x hx' => by rw [of_decide_eq_true hx']; exact hbl) (fun x hx' => by rw [List.mem_singleton.1 hx']; exact hbt) hB hA hout bad (List.mem_singleton.2 rfl)
          have h7 := hout bad (hF.has bad hbl (hF.old bad (decide_eq_true rfl)))
          rw [holdsB_neg (by rw [hB]; exact hbok), h7] at h6
          cases h6
    · rw [decide_eq_false hok]
      repeat (first | refine EvO.plain rfl rfl rfl rfl rfl rfl ?_ | refine EvO.nil ?_ | refine at_normal ?_ | refine EvO.plainOn rfl rfl rfl rfl rfl rfl ?_)
      refine EvC.cond (t := true) rfl (fun _ => ?_) (fun e => nomatch e)
      repeat (first | refine EvO.plain rfl rfl rfl rfl rfl rfl ?_ | refine EvC.seq ?_ | refine EvC.region rfl ?_ | refine EvO.nil ?_ | refine at_normal ?_ | refine EvC.ret ?_ | refine at_ret ?_)
      (refine ret_are (vs := [.bool false, .nilSlice, .nilSlice, .int .i64 2]) rfl rfl ?_)
      exact ⟨⟨hle3, hg3.wf⟩, .inl ⟨fun e => hok e.2, rfl⟩⟩
  · rw [decide_eq_false hv]
    repeat (first | refine EvO.plain rfl rfl rfl rfl rfl rfl ?_ | refine EvO.nil ?_ | refine at_normal ?_ | refine EvO.off rfl rfl rfl ?_)
    refine EvC.cond (t := true) rfl (fun _ => ?_) (fun e => nomatch e)
    repeat (first | refine EvO.plain rfl rfl rfl rfl rfl rfl ?_ | refine EvC.seq ?_ | refine EvC.region rfl ?_ | refine EvO.nil ?_ | refine at_normal ?_ | refine EvC.ret ?_ | refine at_ret ?_)
    (refine ret_are (vs := [.bool false, .nilSlice, .nilSlice, .int .i64 2]) rfl rfl ?_)
    exact ⟨⟨hle2, hg2.wf⟩, .inl ⟨fun e => hv e.1, rfl⟩⟩
end Sa
end Pf
end Go.Proofs.YtheiionmocfleaaDoor
