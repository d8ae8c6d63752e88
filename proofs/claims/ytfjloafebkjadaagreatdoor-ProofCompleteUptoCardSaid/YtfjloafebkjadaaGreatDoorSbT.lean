/- The model that is told; all bools are gone through. -/
import Derived.Test.YtfjloafebkjadaaGreatDoorPf1
import Derived.Test.YtfjloafebkjadaaGreatDoorSbR
/- sat's holds and model (as in layer 26's first text), for seats whose first text has them not. -/
namespace Go.Proofs.YtfjloafebkjadaaGreatDoor
namespace Pf
open Go Go.AI Go.Proofs
variable {gt : Tree (List AV)}
theorem holds_spec (_F : Facts (TT gt)) {h : AH} {v : AV} {m : List Bool} (hm : BoolRow h v m) (hlen : m.length ≤ 1000000) (x : Int) (hx : ok m.length x) : EvF (TT gt) X 110 [v, .int .i64 x] h (fun r h' => h' = h ∧ r = .bool (holdsB m x)) := by
  have ha := absI_ok hx
  have hx2 := hx.2
  have hOB := hm.at1 (T := TT gt) (t := 25) (e := 4) rfl rfl rfl rfl (k := .i64) (i := absI x - 1) (by omega) (by omega)
  obtain ⟨q, d1, d2⟩ := hOB
  have hmx : max x (-x) = absI x := by unfold absI; split <;> omega
  rw [← hmx] at d1 d2
  refine EvF.enter rfl rfl rfl ?_
  repeat (first | refine EvO.plain rfl rfl rfl rfl rfl rfl ?_ | refine EvO.plain rfl rfl rfl rfl rfl (by assumption) ?_ | refine EvC.seq ?_ | refine EvC.region rfl ?_ | refine EvO.nil ?_ | refine at_normal ?_ | refine EvC.ret ?_ | refine EvO.cons rfl rfl rfl (EvP.sub64 rfl rfl (by omega) ?_) | refine EvO.cons rfl rfl rfl (EvP.neg64 rfl (by omega) ?_) | refine EvO.cons rfl rfl rfl (EvP.max rfl rfl rfl rfl ?_))
  (refine ret_is (v := .bool (m.getD (max x (-x) - 1).toNat false == decide (x > 0))) rfl rfl ?_)
  rw [hmx]; exact ⟨rfl, rfl⟩
theorem model1_spec {h : AH} {b : Nat} {mv : AV} {m : List Bool} (hb : h.t.get b = some (.cells [mv] 25 false)) (hm : BoolRow h mv m) (hlen : m.length ≤ 1000000) (x : Int) (hx : ok m.length x) :
    EvF (TT gt) X 131 ([.int .i64 x] ++ [.ptr b 0]) h (fun r h' => h' = h ∧ r = .bool (holdsB m x)) := by
  have f1 := load1 (T := TT gt) (t := 25) (off := 0) hb rfl rfl rfl
  refine EvF.enter rfl rfl rfl ?_
  repeat (first | refine EvO.plain rfl rfl rfl rfl rfl rfl ?_ | refine EvO.plain rfl rfl rfl rfl rfl (by assumption) ?_ | refine EvC.seq ?_ | refine EvC.region rfl ?_ | refine EvO.nil ?_ | refine at_normal ?_)
  (refine EvO.cons rfl rfl rfl (EvP.callF rfl rfl rfl rfl (EvF.mono (holds_spec (facts gt) hm hlen x hx) ?_)))
  rintro _ h _ ⟨rfl, rfl⟩
  repeat (first | refine EvO.plain rfl rfl rfl rfl rfl rfl ?_ | refine EvO.nil ?_ | refine at_normal ?_ | refine EvC.ret ?_)
  (refine ret_is (v := .bool (holdsB m x)) rfl rfl ?_)
  exact ⟨rfl, rfl⟩
set_option maxHeartbeats 4000000 in
theorem model_spec (_F : Facts (TT gt)) {h : AH} (hw : WF h) {vars : Int} {cl : AV} {L : List (List Int)} {cv : Nat → AV} (C : CnfAt h vars cl L cv) {mv : AV} {m : List Bool} (hm : BoolRow h mv m) (hlen : m.length ≤ 1000000) (hall : ∀ i, i < L.length → ∀ x ∈ L.getD i [], ok m.length x) :
    EvF (TT gt) X 111 [.agg [.int .i64 vars, cl], mv] h (fun r h' => Grew h h' ∧ r = .bool (decide (allB L m))) := by
  have S0 := HS.all hw
  have hmany := C.many
  refine EvF.enter rfl rfl rfl ?_
  repeat (first | refine EvC.seq ?_ | refine EvC.region rfl ?_)
  (refine EvO.cons rfl rfl rfl (EvP.newR (b := .cells [.int .i64 vars, cl] 24 false) (mk := .ptr) S0 rfl rfl (fun h1 b A1 S1 hle1 o1 _ _ => ?_)))
  skip
  have hsc := hm.sc
  (refine EvO.cons rfl rfl rfl (EvP.newR (b := .cells mv.cells 25 false) (mk := .ptr) S1 rfl (box1 rfl (scalar_known hsc.2)) (fun h2 b2 A2 S2 hle2 o2 _ _ => ?_)))
  rw [hsc.1] at o2
  have hle : h.le h2 := fun i o e => S2.le _ _ (hle2 _ _ (hle1 _ _ e))
  have hg : Grew h h2 := ⟨hle, S2.wf, Nat.le_trans A1.nx A2.nx⟩
  have p1 := S2.le _ _ (hle2 _ _ (AH.get_add h b (.cells [.int .i64 vars, cl] 24 false)))
  have f1 := load1 (T := TT gt) (t := 22) (off := 1) p1 rfl rfl rfl
  have ln := RowOf.len_any (T := TT gt) (t := 22) C.rows rfl h2
  repeat (first | refine EvO.plain rfl rfl rfl rfl rfl rfl ?_ | refine EvO.plain rfl rfl rfl rfl rfl (by assumption) ?_ | refine EvC.seq ?_ | refine EvC.region rfl ?_ | refine EvO.nil ?_ | refine at_normal ?_ | refine EvC.block ?_)
  clear f1 ln
  have hm2 : BoolRow h2 mv m := RowOf.mono hle hm
  refine EvC.loop (fun k σ h' => h' = h2 ∧ ∃ (i : Nat) (E : Nat → AV), i ≤ L.length ∧ (∀ j, j < i → (L.getD j []).any (holdsB m) = true) ∧ k = L.length - i ∧ σ = upds [(3, .ptr b2 0), (8, cl), (9, .int .i64 L.length), (10, .int .i64 i)] E) (L.length) ?_ ?_
  · exact ⟨rfl, 0, _, Nat.zero_le _, fun j hj => absurd hj (Nat.not_lt_zero _), rfl, hold ⟨rfl, rfl, rfl, rfl, trivial⟩⟩
  · rintro k _ h2 ⟨rfl, i, E, hi, hin, rfl, rfl⟩
    repeat (first | refine EvO.plain rfl rfl rfl rfl rfl rfl ?_ | refine EvC.seq ?_ | refine EvC.region rfl ?_ | refine EvO.nil ?_ | refine at_normal ?_)
    refine EvC.decide rfl (fun hlt => ?_) (fun hlt => ?_)
    · have hlt : i < L.length := by omega
      have hOB := (RowOf.mono hle C.rows).at1 (T := TT gt) (t := 22) (e := 35) rfl rfl rfl rfl (k := .i64) (i := i) (by omega) (by omega)
      obtain ⟨qa, b1, d2⟩ := hOB
      rw [Int.toNat_natCast] at d2
      have hrow : IntRow h2 (cv i) (L.getD i []) := RowOf.mono hle (C.ints i hlt)
      have hln : (L.getD i []).length ≤ 2 ^ 48 := C.lens _ (getDL_mem hlt)
      repeat (first | refine EvO.plain rfl rfl rfl rfl rfl rfl ?_ | refine EvO.plain rfl rfl rfl rfl rfl (by assumption) ?_ | refine EvC.seq ?_ | refine EvC.region rfl ?_ | refine EvO.nil ?_ | refine at_normal ?_ | refine EvC.skip ?_ | refine EvC.block ?_)
      (refine EvO.cons rfl rfl rfl (EvP.callF rfl rfl rfl rfl (EvF.mono (containsFunc_spec (facts gt) hrow (by omega) (g := 131) (cap := [.ptr b2 0]) rfl (holdsB m) (fun x hx => model1_spec o2 hm2 hlen x (hall i hlt x hx))) ?_)))
      rintro _ h2 _ ⟨rfl, rfl⟩
      clear b1 d2
      cases hany : (L.getD i []).any (holdsB m) with
      | false =>
        repeat (first | refine EvO.plain rfl rfl rfl rfl rfl rfl ?_ | refine EvO.nil ?_ | refine at_normal ?_)
        refine EvC.cond (t := true) rfl (fun _ => ?_) (fun e => nomatch e)
        repeat (first | refine EvO.plain rfl rfl rfl rfl rfl rfl ?_ | refine EvC.seq ?_ | refine EvC.region rfl ?_ | refine EvO.nil ?_ | refine at_normal ?_ | refine EvC.ret ?_ | refine at_ret ?_ | refine be_ret ?_ | refine ro_ret ?_)
        (refine ret_is (v := .bool false) rfl rfl ?_)
        refine ⟨hg, ?_⟩
        rw [decide_eq_false (p := allB L m) (fun hA => by rw [hA i hlt] at hany; cases hany)]
      | true =>
        repeat (first | refine EvO.plain rfl rfl rfl rfl rfl rfl ?_ | refine EvO.nil ?_ | refine at_normal ?_)
        refine EvC.cond (t := false) rfl (fun e => nomatch e) (fun _ => ?_)
        repeat (first | refine EvO.plain rfl rfl rfl rfl rfl rfl ?_ | refine EvC.region rfl ?_ | refine EvO.nil ?_ | refine at_normal ?_ | refine EvC.skip ?_ | refine be_normal ?_ | refine ro_normal ?_ | refine EvO.cons rfl rfl rfl (EvP.add64 rfl rfl (by omega) ?_))
        refine ⟨L.length - (i + 1), by omega, rfl, i + 1, _, by omega, fun j hj => ?_, rfl, hold ⟨rfl, rfl, rfl, rfl, trivial⟩⟩
        have hOB := Nat.lt_or_ge j i
        rcases hOB with h3 | h3
        · exact hin j h3
        · have hOB : j = i := by omega
          obtain rfl := hOB
          exact hany
    · have hend : i = L.length := by omega
      subst hend
      repeat (first | refine EvO.plain rfl rfl rfl rfl rfl rfl ?_ | refine EvC.seq ?_ | refine EvC.region rfl ?_ | refine EvO.nil ?_ | refine at_normal ?_ | refine EvC.ret ?_ | refine EvC.exit ?_ | refine at_exit ?_ | refine be_same rfl ?_ | refine ro_exit ?_)
      (refine ret_is (v := .bool true) rfl rfl ?_)
      exact ⟨hg, by rw [decide_eq_true (p := allB L m) hin]⟩
end Pf
end Go.Proofs.YtfjloafebkjadaaGreatDoor
/- The model that was found, as it is told. -/
namespace Go.Proofs.YtfjloafebkjadaaGreatDoor
namespace Pf
namespace Sa
open Go Go.AI Go.Proofs
variable {gt : Tree (List AV)}
theorem bool_row {col : Nat → Nat} {c : Nat} {h : AH} {v : AV} {bs : List Bool} (V : Vec col c h 4 1 v bs.length (bs.map AV.bool)) : BoolRow h v bs := by
  have h1 := V.row
  refine h1.congr fun i hi => ?_
  rw [Nat.mul_one, List.take_one, List.head?_drop, List.getElem?_map, List.getElem?_eq_getElem hi, List.getD_eq_getElem?_getD, List.getElem?_eq_getElem hi]
  rfl
section
variable {G h : AH} {col : Nat → Nat} {n : Nat} {V : Lay} {S : Sr}
set_option maxHeartbeats 8000000 in
theorem told_spec (C : At G h col n V S) :
    EvF (TT gt) X 72 [.ptr V.p 0] h (fun r h' => ∃ (col' : Nat → Nat) (bs : List Bool), HS G h' col' ∧ BoolRow h' r bs ∧ bs.length = n ∧ ∀ v : Nat, v < n → bs.getD v false = decide (((v + 1 : Nat) : Int) ∈ S.s.tr)) := by
  have hsml := C.sml
  have f0 := C.fld (gt := gt) (t := 3) (off := 0) rfl rfl rfl
  refine EvF.enter rfl rfl rfl ?_
  repeat (first | refine EvO.plain rfl rfl rfl rfl rfl rfl ?_ | refine EvO.plain rfl rfl rfl rfl rfl (by assumption) ?_ | refine EvC.seq ?_ | refine EvC.region rfl ?_ | refine EvO.nil ?_ | refine at_normal ?_)
  (refine EvO.cons rfl rfl rfl (EvP.newC C.hs 30 rfl (make_vec (T := TT gt) (n := n) (t := 25) rfl rfl rfl (by omega) (by show ((n : Nat) : Int) * (1 : Nat) ≤ ((70368744177664 : Nat) : Int); omega)) (by decide) (fun h1 id col1 A1 N1 o1 c1 _ => ?_)))
  have V1 : Vec col1 30 h1 4 1 (.slice id 0 n n true) n ((List.replicate n false).map AV.bool) := .mk (tail := []) (by rw [List.append_nil, List.map_replicate, ← rep_one]; exact o1) c1 (by simp) (fun _ => ⟨Nat.le_refl _, by simp⟩)
  have C1 := C.aside (.inl rfl) A1 N1
  clear f0
  repeat (first | refine EvO.plain rfl rfl rfl rfl rfl rfl ?_ | refine EvC.seq ?_ | refine EvC.region rfl ?_ | refine EvO.nil ?_ | refine at_normal ?_ | refine EvC.block ?_)
  generalize hbv : AV.slice id 0 n n true = bv at *
  refine EvC.loop (fun m σ h' => ∃ (v : Nat) (bs : List Bool) (E : Nat → AV), At G h' col1 n V S ∧ Vec col1 30 h' 4 1 bv n (bs.map AV.bool) ∧ bs.length = n ∧ (∀ i, i + 1 < v → bs.getD i false = decide (((i + 1 : Nat) : Int) ∈ S.s.tr)) ∧ 1 ≤ v ∧ v ≤ n + 1 ∧ m = n + 1 - v ∧ σ = upds [(0, .ptr V.p 0), (3, bv), (4, .int .i64 v)] E) (n) ?_ ?_
  · exact ⟨1, List.replicate n false, _, C1, V1, by simp, fun i hi => absurd hi (by omega), Nat.le_refl _, by omega, by omega, hold ⟨rfl, hbv, rfl, trivial⟩⟩
  · clear C1 V1 N1 A1 hbv
    rintro m _ h2 ⟨v, bs, E, C2, V2, hbl, hbs, hv1, hv2, rfl, rfl⟩
    have f0 := C2.fld (gt := gt) (t := 3) (off := 0) rfl rfl rfl
    repeat (first | refine EvO.plain rfl rfl rfl rfl rfl rfl ?_ | refine EvO.plain rfl rfl rfl rfl rfl (by assumption) ?_ | refine EvC.seq ?_ | refine EvC.region rfl ?_ | refine EvO.nil ?_ | refine at_normal ?_)
    clear f0
    refine EvC.decide rfl (fun hle => ?_) (fun hle => ?_)
    · have hle : v ≤ n := by omega
      have f1 := C2.fld (gt := gt) (t := 107) (off := 1) rfl rfl rfl
      have hOB := C2.val.at1 (T := TT gt) (t := 107) (k := .i64) (i := v) rfl rfl rfl rfl (by omega) (by omega)
      obtain ⟨p, u, a1, a2, a3⟩ := hOB
      rw [Int.toNat_natCast, valT_at (by omega)] at a3
      cases a3
      have hOB := V2.at1 (T := TT gt) (t := 25) (k := .i64) (i := (v : Int) - 1) rfl rfl rfl rfl (by omega) (by omega)
      obtain ⟨q, u2, d1, d2, d3⟩ := hOB
      clear d2 d3
      repeat (first | refine EvO.plain rfl rfl rfl rfl rfl rfl ?_ | refine EvO.plain rfl rfl rfl rfl rfl (by assumption) ?_ | refine EvC.seq ?_ | refine EvC.region rfl ?_ | refine at_normal ?_ | refine EvC.skip ?_ | refine EvC.block ?_ | refine EvO.cons rfl rfl rfl (EvP.sub64 rfl rfl (by omega) ?_))
      refine EvO.cons0 rfl rfl (EvP.setV (T := TT gt) (t := 25) (k := .i64) (i := (v : Int) - 1) (u := .bool (ofT S.s.tr v == 1)) C2.hs V2 (by decide) rfl rfl rfl (by omega) (by omega) d1 rfl rfl rfl rfl (fun h3 A3 N3 X3 _ => ?_))
      have C3 := C2.aside (.inl rfl) A3 N3
      rw [← List.map_set, show ((v : Int) - 1).toNat = v - 1 by omega] at X3
      clear f1 a1 a2 d1
      repeat (first | refine EvO.plain rfl rfl rfl rfl rfl rfl ?_ | refine EvC.region rfl ?_ | refine EvO.nil ?_ | refine at_normal ?_ | refine be_normal ?_ | refine ro_normal ?_ | refine EvO.cons rfl rfl rfl (EvP.add64 rfl rfl (by omega) ?_))
      refine ⟨n + 1 - (v + 1), by omega, v + 1, _, _, C3, X3, by rw [List.length_set]; exact hbl, fun i hi => ?_, by omega, by omega, rfl, hold ⟨rfl, rfl, rfl, trivial⟩⟩
      rw [getD_set (by omega)]
      by_cases e : v - 1 = i
      · subst e
        rw [if_pos rfl, show v - 1 + 1 = v by omega, Bool.eq_iff_iff, beq_iff_eq, decide_eq_true_iff]
        exact ofT_one
      · rw [if_neg e]; exact hbs i (by omega)
    · have hend : v = n + 1 := by omega
      subst hend
      repeat (first | refine EvO.plain rfl rfl rfl rfl rfl rfl ?_ | refine EvC.seq ?_ | refine EvC.region rfl ?_ | refine EvO.nil ?_ | refine at_normal ?_ | refine EvC.ret ?_ | refine EvC.exit ?_ | refine at_exit ?_ | refine be_same rfl ?_ | refine ro_exit ?_)
      (refine ret_is (v := bv) rfl rfl ?_)
      exact ⟨col1, bs, C2.hs, bool_row (by rw [hbl]; exact V2), hbl, fun i hi => hbs i (by omega)⟩
end
end Sa
end Pf
end Go.Proofs.YtfjloafebkjadaaGreatDoor
/- The bits of a number, as the machine tells them; all bools are told so. -/
namespace Go.Proofs.YtfjloafebkjadaaGreatDoor
namespace Pf
namespace Sa
open Go Go.AI Go.Proofs
/-- A bit, by the machine's own reckoning. -/
theorem bit_val (s v : Nat) (hs : s < 2 ^ 40) (hv : v ≤ 40) : IntKind.i64.wrap ((BitVec.ofInt IntKind.i64.bits ((s : Int).fdiv (2 ^ min ((v : Nat) : Int).toNat IntKind.i64.bits)) &&& BitVec.ofInt IntKind.i64.bits 1).toNat : Nat) = (((s / 2 ^ v) % 2 : Nat) : Int) := by
  have hb : IntKind.i64.bits = 64 := rfl
  have hm : min ((v : Nat) : Int).toNat IntKind.i64.bits = v := by rw [hb]; omega
  rw [hm]
  have h1 : (s : Int).fdiv (2 ^ v) = ((s / 2 ^ v : Nat) : Int) := by
    have : ((2 : Int) ^ v) = ((2 ^ v : Nat) : Int) := by simp
    rw [this]; exact (Int.ofNat_fdiv ..).symm
  rw [h1, hb]
  have h2 : (BitVec.ofInt 64 ((s / 2 ^ v : Nat) : Int) &&& BitVec.ofInt 64 1).toNat = s / 2 ^ v % 2 := by
    have e1 : BitVec.ofInt 64 1 = BitVec.ofNat 64 1 := rfl
    rw [e1, BitVec.ofInt_natCast, BitVec.toNat_and, BitVec.toNat_ofNat, BitVec.toNat_ofNat, Nat.mod_eq_of_lt (a := 1) (by decide), Nat.and_one_is_mod]
    have : s / 2 ^ v < 2 ^ 64 := Nat.lt_of_le_of_lt (Nat.div_le_self ..) (by omega)
    rw [Nat.mod_eq_of_lt this]
  rw [h2]
  exact IntWalk.i64_in _ (by omega)
/-- So many bools out of a number. -/
def bitsB (s n : Nat) : List Bool := (List.range n).map fun v => s / 2 ^ v % 2 == 1
theorem bitsB_len (s n : Nat) : (bitsB s n).length = n := by simp [bitsB]
/-- All bools are told by a number. -/
theorem bits_all : ∀ (m : List Bool), ∃ s, s < 2 ^ m.length ∧ bitsB s m.length = m
  | [] => ⟨0, by simp, rfl⟩
  | b :: m => by
    have hOB := bits_all m
    obtain ⟨s, h1, h2⟩ := hOB
    refine ⟨2 * s + b.toNat, ?_, ?_⟩
    · have : b.toNat ≤ 1 := by cases b <;> decide
      rw [List.length_cons, Nat.pow_succ]; omega
    · unfold bitsB at h2 ⊢
      rw [List.length_cons, List.range_succ_eq_map, List.map_cons, List.map_map]
      congr 1
      · cases b <;> simp <;> omega
      · refine Eq.trans (List.map_congr_left fun v hv => ?_) h2
        show ((2 * s + b.toNat) / 2 ^ (v + 1) % 2 == 1) = _
        have : (2 * s + b.toNat) / 2 ^ (v + 1) = s / 2 ^ v := by
          rw [Nat.pow_succ, Nat.mul_comm (2 ^ v) 2, ← Nat.div_div_eq_div_mul]
          congr 1
          have : b.toNat ≤ 1 := by cases b <;> decide
          omega
        rw [this]
end Sa
end Pf
end Go.Proofs.YtfjloafebkjadaaGreatDoor
/- All bools are gone through. -/
namespace Go.Proofs.YtfjloafebkjadaaGreatDoor
namespace Pf
namespace Sa
open Go Go.AI Go.Proofs
variable {gt : Tree (List AV)}
theorem shl1 (n : Nat) (hn : n ≤ 40) : IntKind.i64.wrap (1 * 2 ^ min ((n : Nat) : Int).toNat IntKind.i64.bits) = ((2 ^ n : Nat) : Int) := by
  have hb : IntKind.i64.bits = 64 := rfl
  have hm : min ((n : Nat) : Int).toNat IntKind.i64.bits = n := by rw [hb]; omega
  rw [hm, Int.one_mul]
  have h2 : ((2 : Int) ^ n) = ((2 ^ n : Nat) : Int) := by simp
  rw [h2]
  have h1 : 2 ^ n ≤ 2 ^ 40 := Nat.pow_le_pow_right (by decide) hn
  generalize 2 ^ n = N at *
  exact IntWalk.i64_in _ (by omega)
theorem shr_at (s v : Nat) : ashift false .i64 (s : Int) ((v : Nat) : Int) = some (.int .i64 ((s : Int).fdiv (2 ^ min ((v : Nat) : Int).toNat IntKind.i64.bits))) := by
  unfold ashift
  rw [if_neg (by omega)]
  rfl
theorem through1_spec {h : AH} {id : Nat} {bv : AV} {m : List Bool} (hb : aload (TT gt) h 25 (.ptr id 0) = some bv) (hm : BoolRow h bv m) (hlen : m.length ≤ 1000000) (x : Int) (hx : ok m.length x) :
    EvF (TT gt) X 109 ([.int .i64 x] ++ [.ptr id 0]) h (fun r h' => h' = h ∧ r = .bool (!holdsB m x)) := by
  refine EvF.enter rfl rfl rfl ?_
  repeat (first | refine EvO.plain rfl rfl rfl rfl rfl rfl ?_ | refine EvO.plain rfl rfl rfl rfl rfl (by assumption) ?_ | refine EvC.seq ?_ | refine EvC.region rfl ?_ | refine EvO.nil ?_ | refine at_normal ?_)
  (refine EvO.cons rfl rfl rfl (EvP.callF rfl rfl rfl rfl (EvF.mono (holds_spec (facts gt) hm hlen x hx) ?_)))
  rintro _ h _ ⟨rfl, rfl⟩
  repeat (first | refine EvO.plain rfl rfl rfl rfl rfl rfl ?_ | refine EvO.nil ?_ | refine at_normal ?_ | refine EvC.ret ?_)
  (refine ret_is (v := .bool (!holdsB m x)) rfl rfl ?_)
  exact ⟨rfl, rfl⟩
set_option maxHeartbeats 8000000 in
theorem through_spec {h : AH} (hw : WF h) {n : Nat} (hn : n ≤ 30) {cl : AV} {L : List (List Int)} {cv : Nat → AV} (C : CnfAt h n cl L cv) (hall : ∀ i, i < L.length → ∀ x ∈ L.getD i [], ok n x) {lv : AV} {ls : List Int} (rt : IntRow h lv ls) (hls : ∀ x ∈ ls, ok n x) (hll : ls.length ≤ 2 ^ 50) :
    EvF (TT gt) X 73 [.agg [.int .i64 n, cl], lv] h (fun r h' => (h.le h' ∧ WF h') ∧ ((r = .nilSlice ∧ ∀ s, s < 2 ^ n → ¬ ((∀ x ∈ ls, holdsB (bitsB s n) x = true) ∧ allB L (bitsB s n))) ∨ ∃ id m, r = .slice id 0 n n true ∧ BoolRow h' r m ∧ m.length = n ∧ allB L m ∧ ∀ x ∈ ls, holdsB m x = true)) := by
  have S0 := HS.all hw
  have hpw : 2 ^ n ≤ 2 ^ 30 := Nat.pow_le_pow_right (by decide) hn
  refine EvF.enter rfl rfl rfl ?_
  repeat (first | refine EvC.seq ?_ | refine EvC.region rfl ?_)
  (refine EvO.cons rfl rfl rfl (EvP.newR (b := .cells [.int .i64 n, cl] 24 false) (mk := .ptr) S0 rfl rfl (fun h1 b A1 S1 hle1 o1 _ _ => ?_)))
  have f1 := load1 (T := TT gt) (t := 3) (off := 0) o1 rfl rfl rfl
  repeat (first | refine EvO.plain rfl rfl rfl rfl rfl rfl ?_ | refine EvO.plain rfl rfl rfl rfl rfl (by assumption) ?_ | refine EvC.seq ?_ | refine EvC.region rfl ?_ | refine EvO.nil ?_ | refine at_normal ?_)
  (refine EvO.cons rfl rfl rfl (EvP.quiet rfl (show some (AV.int .i64 (IntKind.i64.wrap (1 * 2 ^ min ((n : Nat) : Int).toNat IntKind.i64.bits))) = some (.int .i64 ((2 ^ n : Nat) : Int)) by rw [shl1 n (by omega)]) ?_))
  repeat (first | refine EvO.plain rfl rfl rfl rfl rfl rfl ?_ | refine EvO.nil ?_ | refine at_normal ?_ | refine EvC.block ?_)
  clear f1
  generalize hN : 2 ^ n = N at *
  have fin : ∀ {hx : AH} {colx : Nat → Nat}, HS (h.add b (.cells [.int .i64 n, cl] 24 false)) hx colx → h.le hx ∧ WF hx := fun S => ⟨fun i o e => S.le _ _ (hle1 _ _ e), S.wf⟩
  refine EvC.loop (fun m σ h' => ∃ (s : Nat) (cx : Nat → Nat) (E : Nat → AV), HS (h.add b (.cells [.int .i64 n, cl] 24 false)) h' cx ∧ (∀ s', s' < s → ¬ ((∀ x ∈ ls, holdsB (bitsB s' n) x = true) ∧ allB L (bitsB s' n))) ∧ s ≤ N ∧ m = N - s ∧ σ = upds [(1, lv), (2, .ptr b 0), (10, .int .i64 (N : Nat)), (11, .int .i64 s)] E) (N) ?_ ?_
  · exact ⟨0, _, _, S1, fun s' hs => absurd hs (Nat.not_lt_zero _), Nat.zero_le _, rfl, hold ⟨rfl, rfl, rfl, rfl, trivial⟩⟩
  · clear S1 A1 o1
    rintro m _ h2 ⟨s, c2, E, S2, hno, hs, rfl, rfl⟩
    repeat (first | refine EvO.plain rfl rfl rfl rfl rfl rfl ?_ | refine EvC.seq ?_ | refine EvC.region rfl ?_ | refine EvO.nil ?_ | refine at_normal ?_)
    refine EvC.decide rfl (fun hlt => ?_) (fun hlt => ?_)
    · have hlt : s < N := by omega
      have o2 := S2.le _ _ (AH.get_add h b (.cells [.int .i64 n, cl] 24 false))
      have f1 := load1 (T := TT gt) (t := 3) (off := 0) o2 rfl rfl rfl
      repeat (first | refine EvO.plain rfl rfl rfl rfl rfl rfl ?_ | refine EvO.plain rfl rfl rfl rfl rfl (by assumption) ?_ | refine EvC.seq ?_ | refine EvC.region rfl ?_ | refine EvO.nil ?_ | refine at_normal ?_ | refine EvC.skip ?_ | refine EvC.block ?_)
      (refine EvO.cons rfl rfl rfl (EvP.newC S2 1 rfl (make_vec (T := TT gt) (n := n) (t := 25) rfl rfl rfl (by omega) (by show ((n : Nat) : Int) * (1 : Nat) ≤ ((70368744177664 : Nat) : Int); omega)) (by decide) (fun h3 id c3 A3 S3 o3 cc3 _ => ?_)))
      have V3 : Vec c3 1 h3 4 1 (.slice id 0 n n true) n ((List.replicate n false).map AV.bool) := .mk (tail := []) (by rw [List.append_nil, List.map_replicate, ← rep_one]; exact o3) cc3 (by simp) (fun _ => ⟨Nat.le_refl _, by simp⟩)
      clear f1 o3 cc3
      generalize hbv : AV.slice id 0 n n true = bv at *
      skip
      (refine EvO.cons rfl rfl rfl (EvP.newC (b := .cells [.nilSlice] 25 false) (mk := .ptr) S3 2 rfl rfl (by decide) (fun h4 q c4 A4 S4 o4 cc4 _ => ?_)))
      have V4 := V3.step A4 S3.wf (by decide)
      skip
      refine EvO.cons0 rfl rfl (EvP.store1 (u := bv) S4 2 o4 cc4 (by decide) rfl hbv rfl rfl V4.sc (by show 0 < 1; decide) (fun h5 A5 S5 o5 _ _ => ?_))
      have V5 := V4.step A5 S4.wf (by decide)
      have o5 : h5.t.get q = some (.cells [bv] 25 false) := o5
      have f5 := load1 (T := TT gt) (t := 25) (off := 0) o5 rfl rfl rfl
      have ln := V5.row.len (T := TT gt) (t := 25) rfl
      repeat (first | refine EvO.plain rfl rfl rfl rfl rfl rfl ?_ | refine EvO.plain rfl rfl rfl rfl rfl (by assumption) ?_ | refine EvC.seq ?_ | refine EvC.region rfl ?_ | refine EvO.nil ?_ | refine at_normal ?_ | refine EvC.block ?_)
      clear f5 ln o4
      refine EvC.loop (fun m σ h' => ∃ (v : Nat) (bs : List Bool) (E : Nat → AV), HS (h.add b (.cells [.int .i64 n, cl] 24 false)) h' c4 ∧ h'.t.get q = some (.cells [bv] 25 false) ∧ Vec c4 1 h' 4 1 bv n (bs.map AV.bool) ∧ bs.length = n ∧ (∀ i, i < v → bs.getD i false = (s / 2 ^ i % 2 == 1)) ∧ v ≤ n ∧ m = n - v ∧ σ = upds [(1, lv), (2, .ptr b 0), (5, .int .i64 s), (6, .ptr q 0), (10, .int .i64 (N : Nat)), (11, .int .i64 s), (18, .int .i64 n), (19, .int .i64 v)] E) (n) ?_ ?_
      · exact ⟨0, List.replicate n false, _, S5, o5, V5, by simp, fun i hi => absurd hi (Nat.not_lt_zero _), Nat.zero_le _, rfl, hold ⟨rfl, rfl, rfl, rfl, rfl, rfl, rfl, rfl, trivial⟩⟩
      · clear S5 S4 S3 V5 V4 V3 o5 A5 A4 A3
        rintro m _ h6 ⟨v, bs, E, S6, o6, V6, hbl, hbs, hv, rfl, rfl⟩
        repeat (first | refine EvO.plain rfl rfl rfl rfl rfl rfl ?_ | refine EvC.seq ?_ | refine EvC.region rfl ?_ | refine EvO.nil ?_ | refine at_normal ?_)
        refine EvC.decide rfl (fun hvn => ?_) (fun hvn => ?_)
        · have hvn : v < n := by omega
          have f6 := load1 (T := TT gt) (t := 25) (off := 0) o6 rfl rfl rfl
          have hOB := V6.at1 (T := TT gt) (t := 25) (k := .i64) (i := v) rfl rfl rfl rfl (by omega) (by omega)
          obtain ⟨qa, u2, d1, d2, d3⟩ := hOB
          clear d2 d3
          have hbit := bit_val s v (by omega) (by omega)
          generalize hz : s / 2 ^ v % 2 = z at *
          repeat (first | refine EvO.plain rfl rfl rfl rfl rfl rfl ?_ | refine EvC.seq ?_ | refine EvC.region rfl ?_ | refine EvO.nil ?_ | refine at_normal ?_ | refine EvC.skip ?_ | refine EvC.block ?_)
          refine EvC.drawn (p := [⟨0, false, 0, 0⟩, ⟨1, false, 0, 0⟩, ⟨2, false, 0, 0⟩, ⟨3, false, 0, 0⟩, ⟨4, false, 0, 0⟩, ⟨5, false, 0, 0⟩, ⟨6, false, 0, 0⟩, ⟨7, false, 0, 0⟩, ⟨8, true, 0, 1⟩]) rfl (by kernel_rfl) (by kernel_rfl) rfl ?_
          repeat (first | refine EvR.plain rfl rfl rfl rfl rfl rfl rfl ?_ | refine EvR.plain rfl rfl rfl rfl rfl rfl (by assumption) ?_)
          (refine EvR.cons rfl rfl rfl rfl (EvP.quiet rfl (shr_at s v) ?_))
          skip
          (refine EvR.cons rfl rfl rfl rfl (EvP.quiet rfl (show some (AV.int .i64 (IntKind.i64.wrap ((BitVec.ofInt IntKind.i64.bits ((s : Int).fdiv (2 ^ min ((v : Nat) : Int).toNat IntKind.i64.bits)) &&& BitVec.ofInt IntKind.i64.bits 1).toNat : Nat))) = some (.int .i64 ((z : Nat) : Int)) by rw [hbit]) ?_))
          repeat (first | refine EvR.plain rfl rfl rfl rfl rfl rfl rfl ?_ | refine EvR.plain rfl rfl rfl rfl rfl rfl (by assumption) ?_)
          (refine EvR.cons0 rfl rfl rfl (EvP.setV (T := TT gt) (t := 25) (k := .i64) (i := v) (u := .bool (((z : Nat) : Int) == 1)) S6 V6 (by decide) rfl rfl rfl (by omega) (by omega) d1 rfl rfl rfl rfl (fun h7 A7 S7 X7 _ => ?_)))
          rw [← List.map_set, Int.toNat_natCast] at X7
          have o7 := (A7.get S6.wf o6 (by rw [cc4]; decide)).1
          clear f6 d1
          repeat (first | refine EvO.plain rfl rfl rfl rfl rfl rfl ?_ | refine EvC.region rfl ?_ | refine EvO.nil ?_ | refine at_normal ?_ | refine be_normal ?_ | refine EvR.nil ?_ | refine ro_normal ?_ | refine EvO.cons rfl rfl rfl (EvP.add64 rfl rfl (by omega) ?_))
          refine ⟨n - (v + 1), by omega, v + 1, _, _, S7, o7, X7, by rw [List.length_set]; exact hbl, fun i hi => ?_, by omega, rfl, hold ⟨rfl, rfl, rfl, rfl, rfl, rfl, rfl, rfl, trivial⟩⟩
          rw [getD_set (by omega)]
          by_cases e : v = i
          · subst e
            rw [if_pos rfl, hz, Bool.eq_iff_iff, beq_iff_eq, beq_iff_eq]; omega
          · rw [if_neg e]; exact hbs i (by omega)
        · have hend : v = n := by omega
          subst hend
          have hBB : bs = bitsB s v := by
            apply List.ext_getElem (by rw [bitsB_len]; exact hbl)
            intro i h7 h8
            have h9 := hbs i (by omega)
            rw [List.getD_eq_getElem?_getD, List.getElem?_eq_getElem h7] at h9
            have h10 : bs[i] = (s / 2 ^ i % 2 == 1) := h9
            rw [h10]; simp [bitsB]
          have hrow : BoolRow h6 bv bs := bool_row (by rw [hbl]; exact V6)
          have f6 := load1 (T := TT gt) (t := 25) (off := 0) o6 rfl rfl rfl
          have hle6 := (fin S6).1
          have o2 := S6.le _ _ (AH.get_add h b (.cells [.int .i64 v, cl] 24 false))
          have f2 := loadAgg (T := TT gt) (t := 24) (off := 0) (n := 2) (r := [.int .i64 v, cl]) o2 rfl rfl
          have hnl : bs.length ≤ 1000000 := by omega
          repeat (first | refine EvO.plain rfl rfl rfl rfl rfl rfl ?_ | refine EvC.seq ?_ | refine EvC.region rfl ?_ | refine at_normal ?_ | refine EvC.exit ?_ | refine at_exit ?_ | refine be_same rfl ?_ | refine ro_exit ?_)
          (refine EvO.cons rfl rfl rfl (EvP.callF rfl rfl rfl rfl (EvF.mono (containsFunc_spec (facts gt) (RowOf.mono hle6 rt) hll (g := 109) (cap := [.ptr q 0]) rfl (fun x => !holdsB bs x) (fun x hx => through1_spec f6 hrow hnl x (by rw [hbl]; exact hls x hx))) ?_)))
          rintro _ h6 _ ⟨rfl, rfl⟩
          repeat (refine EvO.plain rfl rfl rfl rfl rfl rfl ?_)
          have hnext : ¬ ((∀ x ∈ ls, holdsB bs x = true) ∧ allB L bs) → ∀ s', s' < s + 1 → ¬ ((∀ x ∈ ls, holdsB (bitsB s' v) x = true) ∧ allB L (bitsB s' v)) := fun hn2 s' h7 => by
            have hOB := Nat.lt_or_ge s' s
            rcases hOB with h8 | h8
            · exact hno s' h8
            · have hOB : s' = s := by omega
              obtain rfl := hOB
              rw [← hBB]; exact hn2
          cases hany : ls.any (fun x => !holdsB bs x) with
          | true =>
            repeat (first | refine EvO.plain rfl rfl rfl rfl rfl rfl ?_ | refine EvO.nil ?_ | refine at_normal ?_ | refine EvO.off rfl rfl rfl ?_)
            refine EvC.cond (t := false) rfl (fun e => nomatch e) (fun _ => ?_)
            clear f2 f6
            repeat (first | refine EvO.plain rfl rfl rfl rfl rfl rfl ?_ | refine EvC.region rfl ?_ | refine EvO.nil ?_ | refine at_normal ?_ | refine EvC.skip ?_ | refine be_normal ?_ | refine ro_normal ?_ | refine EvO.cons rfl rfl rfl (EvP.add64 rfl rfl (by omega) ?_))
            refine ⟨N - (s + 1), by omega, s + 1, c4, _, S6, hnext fun hh => ?_, by omega, rfl, hold ⟨rfl, rfl, rfl, rfl, trivial⟩⟩
            have hOB := List.any_eq_true.1 hany
            obtain ⟨x, hx, hx2⟩ := hOB
            rw [hh.1 x hx] at hx2; cases hx2
          | false =>
            have hh : ∀ x ∈ ls, holdsB bs x = true := fun x hx => by
              have := List.any_eq_false.1 hany x hx
              cases hq : holdsB bs x with
              | true => rfl
              | false => rw [hq] at this; exact absurd rfl this
            repeat (refine EvO.plainOn rfl rfl rfl rfl rfl (by assumption) ?_)
            refine EvO.on rfl rfl rfl (EvP.callF rfl rfl rfl rfl (EvF.mono (model_spec (facts gt) S6.wf (C.mono hle6) hrow hnl (by rw [hbl]; exact hall)) ?_))
            rintro _ h7 _ ⟨hg7, rfl⟩
            clear f2 f6
            by_cases hA : allB L bs
            · rw [decide_eq_true hA]
              have f7 := load1 (T := TT gt) (t := 25) (off := 0) (hg7.le _ _ o6) rfl rfl rfl
              repeat (first | refine EvO.plain rfl rfl rfl rfl rfl rfl ?_ | refine EvO.nil ?_ | refine at_normal ?_)
              refine EvC.cond (t := true) rfl (fun _ => ?_) (fun e => nomatch e)
              repeat (first | refine EvO.plain rfl rfl rfl rfl rfl rfl ?_ | refine EvO.plain rfl rfl rfl rfl rfl (by assumption) ?_ | refine EvC.seq ?_ | refine EvC.region rfl ?_ | refine EvO.nil ?_ | refine at_normal ?_ | refine EvC.ret ?_ | refine at_ret ?_ | refine be_ret ?_ | refine ro_ret ?_)
              (refine ret_is (v := bv) rfl rfl ?_)
              exact ⟨⟨fun i o e => hg7.le _ _ (hle6 _ _ e), hg7.wf⟩, .inr ⟨id, bs, hbv.symm, RowOf.mono hg7.le hrow, hbl, hA, hh⟩⟩
            · rw [decide_eq_false hA]
              repeat (first | refine EvO.plain rfl rfl rfl rfl rfl rfl ?_ | refine EvO.nil ?_ | refine at_normal ?_)
              refine EvC.cond (t := false) rfl (fun e => nomatch e) (fun _ => ?_)
              repeat (first | refine EvO.plain rfl rfl rfl rfl rfl rfl ?_ | refine EvC.region rfl ?_ | refine EvO.nil ?_ | refine at_normal ?_ | refine EvC.skip ?_ | refine be_normal ?_ | refine ro_normal ?_ | refine EvO.cons rfl rfl rfl (EvP.add64 rfl rfl (by omega) ?_))
              exact ⟨N - (s + 1), by omega, s + 1, c4, _, S6.grow hg7.le hg7.wf hg7.nx, hnext (fun e => hA e.2), by omega, rfl, hold ⟨rfl, rfl, rfl, rfl, trivial⟩⟩
    · have hend : s = N := by omega
      subst hend
      repeat (first | refine EvO.plain rfl rfl rfl rfl rfl rfl ?_ | refine EvC.seq ?_ | refine EvC.region rfl ?_ | refine EvO.nil ?_ | refine at_normal ?_ | refine EvC.ret ?_ | refine EvC.exit ?_ | refine at_exit ?_ | refine be_same rfl ?_ | refine ro_exit ?_)
      (refine ret_is (v := .nilSlice) rfl rfl ?_)
      exact ⟨fin S2, .inl ⟨rfl, hno⟩⟩
end Sa
end Pf
end Go.Proofs.YtfjloafebkjadaaGreatDoor
