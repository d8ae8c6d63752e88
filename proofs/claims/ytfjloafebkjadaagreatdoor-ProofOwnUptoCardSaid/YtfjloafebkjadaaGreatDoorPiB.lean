/- What is needed for a clash, as the program finds it. -/
import Derived.Test.YtfjloafebkjadaaGreatDoorPiA
import Derived.Test.YtfjloafebkjadaaGreatDoorPhB
import Derived.Test.YtfjloafebkjadaaGreatDoorAIAuto
namespace Go.Proofs.YtfjloafebkjadaaGreatDoor
namespace Pf
open Go Go.AI Go.Proofs
variable {gt : Tree (List AV)}
/-- A map of numbers to bools, as those to which it says true. -/
def BM (m : List (Int × AV)) (p : Int → Bool) : Prop := ∀ x, (mget m x).getD (.bool false) = .bool (p x)
theorem BM.nil : BM [] (fun _ => false) := fun _ => rfl
theorem BM.put {m : List (Int × AV)} {p : Int → Bool} (b : BM m p) (k : Int) : BM (mput m k (.bool true)) (fun x => decide (k = x) || p x) := fun x => by
  show _ = AV.bool (decide (k = x) || p x)
  rw [mget_mput]
  by_cases h : k = x
  · rw [if_pos h, decide_eq_true h]; rfl
  · rw [if_neg h, decide_eq_false h, Bool.false_or]; exact b x
theorem keyed_set (k : Int) : keyed (TT gt) 95 (.int .i64 k) = some ((3, .int .i64), .bool false) := rfl
theorem BM.look {col : Nat → Nat} {c : Nat} {h : AH} {mv : AV} {m : List (Int × AV)} {p : Int → Bool} (b : BM m p) (M : MapI col c h mv m) {k : Int} {t : Bool} (e : p k = t) : alookup (TT gt) h 95 mv (.int .i64 k) false = some (.bool t) := by
  rw [M.look keyed_set k, b k, e]
theorem mem_take_next {l : List Int} {i : Nat} (hi : i < l.length) {y : Int} : y ∈ l.take (i + 1) ↔ y ∈ l.take i ∨ y = l.getD i 0 := by
  have ht : l.take (i + 1) = l.take i ++ [l.getD i 0] := by
    rw [List.take_add_one, List.getD_eq_getElem?_getD, List.getElem?_eq_getElem hi]; rfl
  rw [ht, List.mem_append, List.mem_singleton]
set_option maxHeartbeats 4000000 in
theorem needed_spec {G h : AH} {col : Nat → Nat} {n : Nat} {V : Lay} {S : Ch} (C : ChAt G h col n V S) (hok : ∀ c ∈ S.all, ∀ l ∈ c, ok n l) (hsh : ∀ c ∈ S.all, c.length ≤ 2 ^ 30) (hm : S.all.length ≤ 2 ^ 30) (ht : ∀ x ∈ S.trail, ok n x) (htl : S.trail.length ≤ n) (nd : S.trail.Nodup) {taken : List Int} (W : Why n S.all taken S.trail S.why) {k : Nat} (hk : k < S.all.length) :
    EvF (TT gt) X 61 [.ptr V.p 0, .int .i64 k] h (fun r h' => ∃ (col1 : Nat → Nat) (out : List Int) (p : Int → Bool), Step (fun x => x = 1 ∨ x = 2) (fun _ => 0) h col1 h' ∧ Vec col1 1 h' 3 1 r out.length (out.map (AV.int .i64)) ∧ Needs S.all S.trail S.why k 0 (fun x => p x = true) out ∧ out.length ≤ S.trail.length + 1) := by
  have S0 := HS.all C.hs.wf
  have hs := C.sml
  have hok' : ∀ {j : Nat}, j < S.all.length → (∀ l ∈ S.all.getD j [], ok n l) ∧ (S.all.getD j []).length ≤ 2 ^ 30 := fun hj => ⟨hok _ (getDL_mem hj), hsh _ (getDL_mem hj)⟩
  refine EvF.enter rfl rfl rfl ?_
  repeat (first | refine EvO.plain rfl rfl rfl rfl rfl rfl ?_ | refine EvC.seq ?_ | refine EvC.region rfl ?_ | refine EvO.nil ?_ | refine at_normal ?_)
  (refine EvO.cons rfl rfl rfl (EvP.newC (b := .cells [.int .i64 k] 3 false) (mk := .slice 1 1 true) S0 1 rfl (show abuildSlice (TT gt) 35 1 [(0, .int .i64 k)] = _ from build1 rfl rfl rfl rfl ⟨rfl, rfl⟩) (by decide) (fun h1 id1 col1 A1 S1 o1 c1 _ => ?_)))
  have V1 : Vec col1 1 h1 3 1 (.slice id1 0 1 1 true) 1 ([(k : Int)].map (AV.int .i64)) := .mk (tail := []) o1 c1 rfl (fun _ => ⟨Nat.le_refl _, rfl⟩)
  repeat (first | refine EvO.plain rfl rfl rfl rfl rfl rfl ?_ | refine EvC.seq ?_ | refine EvC.region rfl ?_ | refine EvO.nil ?_ | refine at_normal ?_)
  (refine EvO.cons rfl rfl rfl (EvP.newC (b := .map [] 0) (mk := .map) S1 2 rfl rfl (by decide) (fun h2 id2 col2 A2 S2 o2 c2 _ => ?_)))
  have M2 : MapI col2 2 h2 (.map id2) [] := .new o2 c2
  have V2 := V1.step A2 S1.wf (by decide)
  have B2 : Step (fun x => x = 1 ∨ x = 2) (fun _ => 0) h col2 h2 := (A1.mono (fun _ e => .inl e)).trans (A2.mono (fun _ e => .inr e))
  have f0 := load1 (T := TT gt) (t := 22) (off := 0) (S2.le _ _ C.obj) rfl rfl rfl
  have hOB := (C.all.le S2.le).at1 (T := TT gt) (t := 22) (k := .i64) (i := k) rfl rfl rfl rfl (by omega) (by omega)
  obtain ⟨pa, ua, i1, i2, i3⟩ := hOB
  have hOB := C.alls k hk
  obtain ⟨a', k1, ra⟩ := hOB
  rw [Int.toNat_natCast, k1] at i3
  cases i3
  have ra := ra.mono C.hs.le
  have ln := RowOf.len_any (T := TT gt) (t := 35) ra rfl h2
  have hOB := hok' hk
  obtain ⟨hk1, hk2⟩ := hOB
  repeat (first | refine EvO.plain rfl rfl rfl rfl rfl rfl ?_ | refine EvO.plain rfl rfl rfl rfl rfl (by assumption) ?_ | refine EvC.seq ?_ | refine EvC.region rfl ?_ | refine EvO.nil ?_ | refine at_normal ?_ | refine EvC.block ?_)
  clear f0 i1 i2 ln V1 o1 o2 c2 S1 A1 A2 c1
  refine EvC.loop (fun m σ h' => ∃ (i : Nat) (mm : List (Int × AV)) (p : Int → Bool) (E : Nat → AV), Step (fun x => x = 1 ∨ x = 2) (fun _ => 0) h col2 h' ∧ Vec col2 1 h' 3 1 (.slice id1 0 1 1 true) 1 ([(k : Int)].map (AV.int .i64)) ∧ MapI col2 2 h' (.map id2) mm ∧ BM mm p ∧ (∀ x, p x = true ↔ ∃ y ∈ (S.all.getD k []).take i, x = -y) ∧ i ≤ (S.all.getD k []).length ∧ m = (S.all.getD k []).length - i ∧ σ = upds [(0, .ptr V.p 0), (5, .slice id1 0 1 1 true), (6, .map id2), (23, ua), (24, .int .i64 (S.all.getD k []).length), (25, .int .i64 i)] E) ((S.all.getD k []).length) ?_ ?_
  · exact ⟨0, [], fun _ => false, _, B2, V2, M2, BM.nil, fun x => ⟨(fun e => nomatch e), (fun ⟨y, hy, _⟩ => by simp at hy)⟩, Nat.zero_le _, rfl, hold ⟨rfl, rfl, rfl, rfl, rfl, rfl, trivial⟩⟩
  · clear B2 V2 M2 S2
    rintro m _ h3 ⟨i, mm, p, E, B3, V3, M3, bm, hp, hi, rfl, rfl⟩
    have S3 := S0.step B3 (by decide)
    repeat (first | refine EvO.plain rfl rfl rfl rfl rfl rfl ?_ | refine EvC.seq ?_ | refine EvC.region rfl ?_ | refine EvO.nil ?_ | refine at_normal ?_)
    refine EvC.decide rfl (fun hc => ?_) (fun hc => ?_)
    · have hlt : i < (S.all.getD k []).length := by omega
      have hOB := (ra.mono S3.le).at1 (T := TT gt) (t := 35) (e := 3) rfl rfl rfl rfl (k := .i64) (i := i) (by omega) (by omega)
      obtain ⟨q, b1, b2⟩ := hOB
      rw [Int.toNat_natCast] at b2
      have hx := hk1 _ (getD_mem hlt)
      obtain ⟨x0, x1, x2⟩ := hx
      repeat (first | refine EvO.plain rfl rfl rfl rfl rfl rfl ?_ | refine EvO.plain rfl rfl rfl rfl rfl (by assumption) ?_ | refine EvC.seq ?_ | refine EvC.region rfl ?_ | refine EvO.nil ?_ | refine at_normal ?_ | refine EvC.skip ?_ | refine EvC.block ?_ | refine EvO.cons rfl rfl rfl (EvP.neg64 rfl (by omega) ?_))
      (refine EvO.cons0 rfl rfl (EvP.mapPut S3 M3 (by decide) keyed_set rfl rfl rfl (fun h4 A4 S4 M4 => ?_)))
      clear b1 b2
      repeat (first | refine EvO.plain rfl rfl rfl rfl rfl rfl ?_ | refine EvC.region rfl ?_ | refine EvO.nil ?_ | refine at_normal ?_ | refine be_normal ?_ | refine ro_normal ?_ | refine EvO.cons rfl rfl rfl (EvP.add64 rfl rfl (by omega) ?_))
      refine ⟨(S.all.getD k []).length - (i + 1), by omega, i + 1, _, _, _, B3.trans (A4.mono (fun _ e => .inr e)), V3.step A4 S3.wf (by decide), M4, bm.put _, fun x => ?_, by omega, rfl, hold ⟨rfl, rfl, rfl, rfl, rfl, rfl, trivial⟩⟩
      rw [Bool.or_eq_true, decide_eq_true_eq, hp]
      constructor
      · rintro (e | ⟨y, hy, e⟩)
        · exact ⟨_, (mem_take_next hlt).2 (.inr rfl), e.symm⟩
        · exact ⟨y, (mem_take_next hlt).2 (.inl hy), e⟩
      · rintro ⟨y, hy, e⟩
        have hOB := (mem_take_next hlt).1 hy
        rcases hOB with h' | h'
        · exact .inr ⟨y, h', e⟩
        · exact .inl (by rw [e, h'])
    · have hOB : i = (S.all.getD k []).length := by omega
      obtain rfl := hOB
      rw [List.take_length] at hp
      have f0 := load1 (T := TT gt) (t := 35) (off := 3) (S3.le _ _ C.obj) rfl rfl rfl
      have ln := C.trail.row.len_any (T := TT gt) (t := 35) rfl h3
      repeat (first | refine EvO.plain rfl rfl rfl rfl rfl rfl ?_ | refine EvO.plain rfl rfl rfl rfl rfl (by assumption) ?_ | refine EvC.seq ?_ | refine EvC.region rfl ?_ | refine EvO.nil ?_ | refine at_normal ?_ | refine EvC.block ?_ | refine EvC.exit ?_ | refine at_exit ?_ | refine be_same rfl ?_ | refine ro_exit ?_ | refine EvO.cons rfl rfl rfl (EvP.sub64 rfl rfl (by omega) ?_))
      clear f0 ln
      refine EvC.loop (fun m σ h' => ∃ (i : Nat) (col' : Nat → Nat) (ov : AV) (out : List Int) (mm : List (Int × AV)) (p : Int → Bool) (E : Nat → AV), Step (fun x => x = 1 ∨ x = 2) (fun _ => 0) h col' h' ∧ Vec col' 1 h' 3 1 ov out.length (out.map (AV.int .i64)) ∧ MapI col' 2 h' (.map id2) mm ∧ BM mm p ∧ Needs S.all S.trail S.why k i (fun x => p x = true) out ∧ out.length + i ≤ S.trail.length + 1 ∧ i ≤ S.trail.length ∧ m = i ∧ σ = upds [(0, .ptr V.p 0), (5, ov), (6, .map id2), (9, .int .i64 ((i : Int) - 1))] E) (S.trail.length) ?_ ?_
      · refine ⟨S.trail.length, col2, _, [(k : Int)], mm, p, _, B3, V3, M3, bm, ⟨fun y hy => (hp _).2 ⟨y, hy, rfl⟩, List.mem_singleton.2 rfl, fun x hx => ⟨k, List.mem_singleton.1 hx, hk⟩, fun j h1 h2 => by omega⟩, by simp; omega, Nat.le_refl _, rfl, hold ⟨rfl, rfl, rfl, rfl, trivial⟩⟩
      · clear B3 V3 M3 bm hp S3 hk1 hk2 ra hc hi
        rintro i _ h4 ⟨_, col4, ov, out, mm, p, E, B4, V4, M4, bm, N4, ho4, hi4, rfl, rfl⟩
        have S4 := S0.step B4 (by decide)
        repeat (first | refine EvO.plain rfl rfl rfl rfl rfl rfl ?_ | refine EvC.seq ?_ | refine EvC.region rfl ?_ | refine EvO.nil ?_ | refine at_normal ?_)
        refine EvC.decide rfl (fun hi0 => ?_) (fun hi0 => ?_)
        · have hOB : ∃ i', i = i' + 1 := ⟨i - 1, by omega⟩
          obtain ⟨i, rfl⟩ := hOB
          have hil : i < S.trail.length := by omega
          have hlo := ht _ (getD_mem hil)
          have hlo' := hlo
          obtain ⟨o0, o1, o2⟩ := hlo'
          have f3 := load1 (T := TT gt) (t := 35) (off := 3) (S4.le _ _ C.obj) rfl rfl rfl
          have hOB := vec_int_at (gt := gt) (C.trail.le S4.le) (i := ((i + 1 : Nat) : Int) - 1) (by omega) (by omega)
          obtain ⟨pa, i1, i2⟩ := hOB
          rw [show (((i + 1 : Nat) : Int) - 1).toNat = i by omega] at i2
          have f2 := load1 (T := TT gt) (t := 35) (off := 2) (S4.le _ _ C.obj) rfl rfl rfl
          have hwv : Vec col 4 h4 3 1 V.wv S.why.length (S.why.map (AV.int .i64)) := by rw [W.1]; exact C.why.le S4.le
          have hwl := W.1
          have hOB := vec_int_at (gt := gt) hwv (i := max (S.trail.getD i 0) (-S.trail.getD i 0)) (by omega) (by omega)
          obtain ⟨pb, j1, j2⟩ := hOB
          have rs := W.2 i hil
          generalize hwe : S.why.getD (max (S.trail.getD i 0) (-S.trail.getD i 0)).toNat 0 = w at rs j2
          cases hpl : p (S.trail.getD i 0) with
          | false =>
            have fm := bm.look (gt := gt) M4 hpl
            repeat (first | refine EvO.plain rfl rfl rfl rfl rfl rfl ?_ | refine EvO.plain rfl rfl rfl rfl rfl (by assumption) ?_ | refine EvC.seq ?_ | refine EvC.region rfl ?_ | refine EvO.nil ?_ | refine at_normal ?_ | refine EvC.skip ?_ | refine EvC.block ?_ | refine EvO.cons rfl rfl rfl (EvP.neg64 rfl (by omega) ?_) | refine EvO.cons rfl rfl rfl (EvP.max rfl rfl rfl rfl ?_) | refine EvO.off rfl rfl rfl ?_)
            refine EvC.cond (t := true) rfl (fun _ => ?_) (fun e => nomatch e)
            clear f3 i1 i2 f2 j1 j2 fm
            repeat (first | refine EvO.plain rfl rfl rfl rfl rfl rfl ?_ | refine EvC.region rfl ?_ | refine EvO.nil ?_ | refine at_normal ?_ | refine EvC.exit ?_ | refine at_exit ?_ | refine be_same rfl ?_ | refine ro_normal ?_ | refine EvO.cons rfl rfl rfl (EvP.sub64 rfl rfl (by omega) ?_))
            exact ⟨i, by omega, i, col4, ov, out, mm, p, _, B4, V4, M4, bm, N4.skip (.inl (by rw [hpl]; exact fun e => nomatch e)), by omega, by omega, rfl, hold ⟨rfl, rfl, rfl, congrArg (AV.int .i64) (by omega), trivial⟩⟩
          | true =>
            have fm := bm.look (gt := gt) M4 hpl
            repeat (first | refine EvO.plain rfl rfl rfl rfl rfl rfl ?_ | refine EvO.plain rfl rfl rfl rfl rfl (by assumption) ?_ | refine EvC.seq ?_ | refine EvC.region rfl ?_ | refine EvO.nil ?_ | refine at_normal ?_ | refine EvC.skip ?_ | refine EvC.block ?_ | refine EvO.cons rfl rfl rfl (EvP.neg64 rfl (by omega) ?_) | refine EvO.cons rfl rfl rfl (EvP.max rfl rfl rfl rfl ?_) | refine EvO.plainOn rfl rfl rfl rfl rfl rfl ?_)
            (refine EvO.on rfl rfl rfl (EvP.bool rfl rfl (fun q1 => ?_) (fun q1 => ?_)))
            · have q1 := of_decide_eq_true q1
              repeat (first | refine EvO.plain rfl rfl rfl rfl rfl rfl ?_ | refine EvO.nil ?_ | refine at_normal ?_)
              refine EvC.cond (t := true) rfl (fun _ => ?_) (fun e => nomatch e)
              clear f3 i1 i2 f2 j1 j2 fm
              repeat (first | refine EvO.plain rfl rfl rfl rfl rfl rfl ?_ | refine EvC.region rfl ?_ | refine EvO.nil ?_ | refine at_normal ?_ | refine EvC.exit ?_ | refine at_exit ?_ | refine be_same rfl ?_ | refine ro_normal ?_ | refine EvO.cons rfl rfl rfl (EvP.sub64 rfl rfl (by omega) ?_))
              exact ⟨i, by omega, i, col4, ov, out, mm, p, _, B4, V4, M4, bm, N4.skip (.inr (by rw [hwe]; exact q1)), by omega, by omega, rfl, hold ⟨rfl, rfl, rfl, congrArg (AV.int .i64) (by omega), trivial⟩⟩
            · have q1 := of_decide_eq_false q1
              rcases rs with ⟨e, _⟩ | ⟨wn, rfl, hwn, hxin, hoth⟩
              · omega
              · clear f3 i1 i2 f2 j1 j2 fm
                repeat (first | refine EvO.plain rfl rfl rfl rfl rfl rfl ?_ | refine EvO.nil ?_ | refine at_normal ?_)
                refine EvC.cond (t := false) rfl (fun e => nomatch e) (fun _ => ?_)
                repeat (first | refine EvO.plain rfl rfl rfl rfl rfl rfl ?_ | refine EvC.seq ?_ | refine EvC.region rfl ?_ | refine at_normal ?_ | refine EvC.skip ?_)
                (refine EvO.cons rfl rfl rfl (EvP.newR (b := .cells [.int .i64 wn] 3 false) (mk := .slice 1 1 true) S4 rfl rfl (fun h5 id5 A5 S5 hle5 o5 _ _ => ?_)))
                have hsm : out.length ≤ 2000000 := by omega
                (refine EvO.cons rfl rfl rfl (EvP.appendC S5 (V4.step A5 S4.wf (fun e => e)) (by decide) rfl rfl rfl rfl rfl rfl rfl rfl rfl (by decide) rfl rfl (afirst_all o5 rfl) rfl (by decide) rfl (by show (out.length + 1) * 8 ≤ 70368744177664; omega) (by show out.length + 1 ≤ 1099511627776; omega) (fun w' h6 col6 A6 S6 V6 => ?_)))
                have B6 := (B4.trans (A5.mono (fun _ e => e.elim))).trans (A6.mono (fun _ e => .inl e))
                have M6 := (M4.step A5 S4.wf (fun e => e)).step A6 S5.wf (by decide)
                have V6 : Vec col6 1 h6 3 1 w' (out ++ [(wn : Int)]).length ((out ++ [(wn : Int)]).map (AV.int .i64)) := by rw [List.length_append, List.map_append]; exact V6
                have S6 := S0.step B6 (by decide)
                have f0 := load1 (T := TT gt) (t := 22) (off := 0) (S6.le _ _ C.obj) rfl rfl rfl
                have hOB := (C.all.le S6.le).at1 (T := TT gt) (t := 22) (k := .i64) (i := wn) rfl rfl rfl rfl (by omega) (by omega)
                obtain ⟨pc, uc, i1, i2, i3⟩ := hOB
                have hOB := C.alls wn hwn
                obtain ⟨a', k1, ra⟩ := hOB
                rw [Int.toNat_natCast, k1] at i3
                cases i3
                have ra := ra.mono C.hs.le
                have ln := RowOf.len_any (T := TT gt) (t := 35) ra rfl h6
                have hOB := hok' hwn
                obtain ⟨hk1, hk2⟩ := hOB
                repeat (first | refine EvO.plain rfl rfl rfl rfl rfl rfl ?_ | refine EvO.plain rfl rfl rfl rfl rfl (by assumption) ?_ | refine EvC.seq ?_ | refine EvC.region rfl ?_ | refine EvO.nil ?_ | refine at_normal ?_ | refine EvC.block ?_)
                clear f0 i1 i2 ln V4 M4 S4 B4 A5 S5 o5 A6 hle5
                refine EvC.loop (fun m σ h' => ∃ (j : Nat) (mm' : List (Int × AV)) (p' : Int → Bool) (E : Nat → AV), Step (fun x => x = 1 ∨ x = 2) (fun _ => 0) h col6 h' ∧ Vec col6 1 h' 3 1 w' (out ++ [(wn : Int)]).length ((out ++ [(wn : Int)]).map (AV.int .i64)) ∧ MapI col6 2 h' (.map id2) mm' ∧ BM mm' p' ∧ (∀ x, p' x = true ↔ p x = true ∨ ∃ y ∈ (S.all.getD wn []).take j, y ≠ S.trail.getD i 0 ∧ x = -y) ∧ j ≤ (S.all.getD wn []).length ∧ m = (S.all.getD wn []).length - j ∧ σ = upds [(0, .ptr V.p 0), (5, w'), (6, .map id2), (9, .int .i64 (((i + 1 : Nat) : Int) - 1)), (10, .int .i64 (S.trail.getD i 0)), (78, uc), (79, .int .i64 (S.all.getD wn []).length), (80, .int .i64 j)] E) ((S.all.getD wn []).length) ?_ ?_
                · exact ⟨0, mm, p, _, B6, V6, M6, bm, fun x => ⟨.inl, fun e => e.elim id (fun ⟨y, hy, _⟩ => by simp at hy)⟩, Nat.zero_le _, rfl, hold ⟨rfl, rfl, rfl, rfl, rfl, rfl, rfl, rfl, trivial⟩⟩
                · clear B6 V6 M6 S6
                  rintro m _ h7 ⟨j, mm', p', E, B7, V7, M7, bm', hp', hj, rfl, rfl⟩
                  have S7 := S0.step B7 (by decide)
                  repeat (first | refine EvO.plain rfl rfl rfl rfl rfl rfl ?_ | refine EvC.seq ?_ | refine EvC.region rfl ?_ | refine EvO.nil ?_ | refine at_normal ?_)
                  refine EvC.decide rfl (fun hc => ?_) (fun hc => ?_)
                  · have hlt : j < (S.all.getD wn []).length := by omega
                    have hOB := (ra.mono S7.le).at1 (T := TT gt) (t := 35) (e := 3) rfl rfl rfl rfl (k := .i64) (i := j) (by omega) (by omega)
                    obtain ⟨q, b1, b2⟩ := hOB
                    rw [Int.toNat_natCast] at b2
                    have hx := hk1 _ (getD_mem hlt)
                    obtain ⟨x0, x1, x2⟩ := hx
                    repeat (first | refine EvO.plain rfl rfl rfl rfl rfl rfl ?_ | refine EvO.plain rfl rfl rfl rfl rfl (by assumption) ?_ | refine EvC.seq ?_ | refine EvC.region rfl ?_ | refine EvO.nil ?_ | refine at_normal ?_ | refine EvC.skip ?_ | refine EvC.block ?_)
                    clear b1 b2
                    by_cases hne : (S.all.getD wn []).getD j 0 = S.trail.getD i 0
                    · refine EvC.cond (t := false) (isT (bne_false hne)) (fun e => nomatch e) (fun _ => ?_)
                      repeat (first | refine EvO.plain rfl rfl rfl rfl rfl rfl ?_ | refine EvC.region rfl ?_ | refine EvO.nil ?_ | refine at_normal ?_ | refine EvC.skip ?_ | refine be_normal ?_ | refine ro_normal ?_ | refine EvO.cons rfl rfl rfl (EvP.add64 rfl rfl (by omega) ?_))
                      refine ⟨(S.all.getD wn []).length - (j + 1), by omega, j + 1, mm', p', _, B7, V7, M7, bm', fun x => ?_, by omega, rfl, hold ⟨rfl, rfl, rfl, rfl, rfl, rfl, rfl, rfl, trivial⟩⟩
                      rw [hp']
                      refine or_congr_right ⟨fun ⟨y, h1, h2, h3⟩ => ⟨y, (mem_take_next hlt).2 (.inl h1), h2, h3⟩, fun ⟨y, h1, h2, h3⟩ => ⟨y, ((mem_take_next hlt).1 h1).elim id (fun e => absurd (e.trans hne) h2), h2, h3⟩⟩
                    · refine EvC.cond (t := true) (isT (bne_true hne)) (fun _ => ?_) (fun e => nomatch e)
                      repeat (first | refine EvO.plain rfl rfl rfl rfl rfl rfl ?_ | refine EvC.region rfl ?_ | refine EvO.cons rfl rfl rfl (EvP.neg64 rfl (by omega) ?_))
                      (refine EvO.cons0 rfl rfl (EvP.mapPut S7 M7 (by decide) keyed_set rfl rfl rfl (fun h8 A8 S8 M8 => ?_)))
                      repeat (first | refine EvO.plain rfl rfl rfl rfl rfl rfl ?_ | refine EvC.region rfl ?_ | refine EvO.nil ?_ | refine at_normal ?_ | refine be_normal ?_ | refine ro_normal ?_ | refine EvO.cons rfl rfl rfl (EvP.add64 rfl rfl (by omega) ?_))
                      refine ⟨(S.all.getD wn []).length - (j + 1), by omega, j + 1, _, _, _, B7.trans (A8.mono (fun _ e => .inr e)), V7.step A8 S7.wf (by decide), M8, bm'.put _, fun x => ?_, by omega, rfl, hold ⟨rfl, rfl, rfl, rfl, rfl, rfl, rfl, rfl, trivial⟩⟩
                      rw [Bool.or_eq_true, decide_eq_true_eq, hp']
                      constructor
                      · rintro (e | e | ⟨y, h1, h2, h3⟩)
                        · exact .inr ⟨_, (mem_take_next hlt).2 (.inr rfl), hne, e.symm⟩
                        · exact .inl e
                        · exact .inr ⟨y, (mem_take_next hlt).2 (.inl h1), h2, h3⟩
                      · rintro (e | ⟨y, h1, h2, h3⟩)
                        · exact .inr (.inl e)
                        · have hOB := (mem_take_next hlt).1 h1
                          rcases hOB with h' | h'
                          · exact .inr (.inr ⟨y, h', h2, h3⟩)
                          · exact .inl (by rw [h3, h'])
                  · have hOB : j = (S.all.getD wn []).length := by omega
                    obtain rfl := hOB
                    rw [List.take_length] at hp'
                    repeat (first | refine EvO.plain rfl rfl rfl rfl rfl rfl ?_ | refine EvC.region rfl ?_ | refine EvO.nil ?_ | refine at_normal ?_ | refine EvC.exit ?_ | refine at_exit ?_ | refine be_same rfl ?_ | refine ro_exit ?_ | refine be_normal ?_ | refine ro_normal ?_ | refine EvO.cons rfl rfl rfl (EvP.sub64 rfl rfl (by omega) ?_))
                    exact ⟨i, by omega, i, col6, w', out ++ [(wn : Int)], mm', p', _, B7, V7, M7, bm', N4.take hil nd W hwe hwn hoth hp', by simp; omega, by omega, rfl, hold ⟨rfl, rfl, rfl, congrArg (AV.int .i64) (by omega), trivial⟩⟩
        · have hOB : i = 0 := by omega
          obtain rfl := hOB
          repeat (first | refine EvO.plain rfl rfl rfl rfl rfl rfl ?_ | refine EvC.seq ?_ | refine EvC.region rfl ?_ | refine EvO.nil ?_ | refine at_normal ?_ | refine EvC.ret ?_ | refine EvC.exit ?_ | refine at_exit ?_ | refine be_same rfl ?_ | refine ro_exit ?_)
          (refine ret_is (v := ov) rfl rfl ?_)
          exact ⟨col4, out, p, B4, V4, N4, by omega⟩
end Pf
end Go.Proofs.YtfjloafebkjadaaGreatDoor
