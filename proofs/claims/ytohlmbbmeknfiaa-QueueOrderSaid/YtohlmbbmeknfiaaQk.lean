/- The law's run. -/
import Derived.Test.YtohlmbbmeknfiaaQj
import Derived.Test.YtohlmbbmeknfiaaQOrd
import Derived.Test.YtohlmbbmeknfiaaAIEmb
namespace Go.Proofs.Ytohlmbbmeknfiaa
namespace Pf
open Go Go.AI Go.AI.Q Go.Proofs
variable {gt : Tree (List AV)}
theorem awake_specO {h : AH} : EvF (TT gt) X 8 [] h (fun r h' => h' = h ∧ r = .bool true) := EvF.oracle (fn := af Try.f8) rfl rfl (Nat.le_refl _) ⟨rfl, rfl⟩
theorem hv_pairs {col : Nat → Nat} {c : Nat} {h : AH} {v : AV} {l : List It} (V : HV col c h 27 v l) : PairsAt h v l := V.row.congr fun i hi => cellsH_at hi
theorem pair_ne (x : It) : abinOp (TT gt) .neq false 27 (.agg (itC x)) (.agg (itC x)) = some (.bool false) := by
  obtain ⟨a, b⟩ := x
  have e1 : ∀ x : Int, aeq (TT gt) 8 3 (.int .i64 x) (.int .i64 x) = some true := fun x => by
    show (if IntKind.i64 = IntKind.i64 then some (x == x) else none) = _
    rw [if_pos rfl, beq_self_eq_true]
  have e2 : aeq (TT gt) 9 27 (.agg (itC (a, b))) (.agg (itC (a, b))) = some true := by
    show aeqList (TT gt) (aeq (TT gt) 8) [.int .i64 a, .int .i64 b] [.int .i64 a, .int .i64 b] [(3, 0), (3, 1)] = some true
    have p0 : apart (TT gt) 3 [.int .i64 a, .int .i64 b] 0 = some (.int .i64 a) := rfl
    have p1 : apart (TT gt) 3 [.int .i64 a, .int .i64 b] 1 = some (.int .i64 b) := rfl
    simp only [aeqList, p0, p1, e1]
  simp only [abinOp, aeqTop, e2]
  rfl
theorem SameList_spec {h : AH} {u v : AV} {l : List It} (ru : PairsAt h u l) (rv : PairsAt h v l) (hl : l.length ≤ 2 ^ 30) :
    EvF (TT gt) X 13 [u, v] h (fun r h' => h' = h ∧ r = .bool true) := by
  have lu := RowOf.len_any (T := TT gt) (t := 22) ru rfl h
  have lv := RowOf.len_any (T := TT gt) (t := 22) rv rfl h
  refine EvF.enter rfl rfl rfl ?_
  repeat (first | refine EvO.plain rfl rfl rfl rfl rfl rfl ?_ | refine EvO.plain rfl rfl rfl rfl rfl (by assumption) ?_ | refine EvC.seq ?_ | refine EvC.region rfl ?_ | refine EvO.nil ?_ | refine at_normal ?_)
  refine EvC.cond (t := false) (isT (bne_self_eq_false _)) (fun e => nomatch e) (fun _ => ?_)
  repeat (first | refine EvO.plain rfl rfl rfl rfl rfl rfl ?_ | refine EvO.plain rfl rfl rfl rfl rfl (by assumption) ?_ | refine EvC.seq ?_ | refine EvC.region rfl ?_ | refine EvO.nil ?_ | refine at_normal ?_ | refine EvC.skip ?_ | refine EvC.block ?_)
  refine EvC.loop (fun c σ h' => ∃ (i : Nat) (E : Nat → AV), h' = h ∧ i ≤ l.length ∧ c = l.length - i ∧ σ = upds [(0, u), (1, v), (12, .int .i64 l.length), (13, .int .i64 i)] E) (l.length) ?_ ?_
  · exact ⟨0, _, rfl, Nat.zero_le _, rfl, hold ⟨rfl, rfl, rfl, rfl, trivial⟩⟩
  · rintro _ _ h1 ⟨i, E, rfl, hi, rfl, rfl⟩
    repeat (first | refine EvO.plain rfl rfl rfl rfl rfl rfl ?_ | refine EvC.seq ?_ | refine EvC.region rfl ?_ | refine EvO.nil ?_ | refine at_normal ?_)
    refine EvC.decide rfl (fun hc => ?_) (fun hc => ?_)
    · have hlt : i < l.length := by omega
      have hOB := RowOf.atN ru (T := TT gt) (t := 22) (e := 27) rfl rfl rfl rfl (k := .i64) (i := (i : Int)) (by omega) (by omega)
      obtain ⟨p1, a1, a2⟩ := hOB
      have hOB := RowOf.atN rv (T := TT gt) (t := 22) (e := 27) rfl rfl rfl rfl (k := .i64) (i := (i : Int)) (by omega) (by omega)
      obtain ⟨p2, b1, b2⟩ := hOB
      rw [Int.toNat_natCast] at a2 b2
      have pn := pair_ne (gt := gt) (at' l i)
      repeat (first | refine EvO.plain rfl rfl rfl rfl rfl rfl ?_ | refine EvC.seq ?_ | refine EvC.region rfl ?_ | refine EvO.nil ?_ | refine at_normal ?_ | refine EvC.skip ?_ | refine EvC.block ?_)
      refine EvC.drawn (p := [⟨0, false, 0, 0⟩, ⟨1, false, 0, 0⟩, ⟨2, false, 0, 0⟩, ⟨3, false, 0, 0⟩, ⟨4, false, 0, 0⟩, ⟨5, false, 0, 0⟩, ⟨6, false, 0, 0⟩, ⟨7, false, 0, 0⟩, ⟨8, false, 0, 0⟩]) rfl (by kernel_rfl) (by kernel_rfl) rfl ?_
      repeat (first | refine at_normal ?_ | refine EvR.nil ?_ | refine EvR.plain rfl rfl rfl rfl rfl rfl rfl ?_ | refine EvR.plain rfl rfl rfl rfl rfl rfl (by assumption) ?_)
      refine EvC.cond (t := false) rfl (fun e => nomatch e) (fun _ => ?_)
      clear a1 a2 b1 b2 pn
      repeat (first | refine EvO.plain rfl rfl rfl rfl rfl rfl ?_ | refine EvC.region rfl ?_ | refine EvO.nil ?_ | refine at_normal ?_ | refine EvC.skip ?_ | refine be_normal ?_ | refine ro_normal ?_ | refine EvO.cons rfl rfl rfl (EvP.add64 rfl rfl (by omega) ?_))
      exact ⟨l.length - (i + 1), by omega, i + 1, _, rfl, by omega, rfl, hold ⟨rfl, rfl, rfl, rfl, trivial⟩⟩
    · repeat (first | refine EvO.plain rfl rfl rfl rfl rfl rfl ?_ | refine EvC.seq ?_ | refine EvC.region rfl ?_ | refine EvO.nil ?_ | refine at_normal ?_ | refine EvC.ret ?_ | refine EvC.exit ?_ | refine at_exit ?_ | refine be_same rfl ?_ | refine ro_exit ?_)
      (refine ret_is (v := .bool true) rfl rfl ?_)
      exact ⟨rfl, rfl⟩
abbrev R123 : Nat → Prop := fun c => c = 1 ∨ c = 2 ∨ c = 3
theorem dk_add {l : List It} (K : Dk l) {x : It} (h : ∀ j, j < l.length → (at' l j).1 ≠ x.1) : Dk (l ++ [x]) := fun i j hi hj e => by
  rw [List.length_append] at hi hj
  rw [at_app, at_app] at e
  simp only [List.length_cons, List.length_nil] at hi hj
  split at e
  · rename_i h1
    split at e
    · rename_i h2; exact K i j h1 h2 e
    · rw [if_pos (by omega)] at e; exact absurd e (h i h1)
  · rw [if_pos (by omega)] at e
    split at e
    · rename_i h2; exact absurd e.symm (h j h2)
    · omega
theorem rem_eq {u : Int} {n : Nat} (h0 : 0 ≤ u) (hu : u ≤ 255) (hn : 0 < n) (hm : n ≤ 2 ^ 30) : ∃ k : Nat, k < n ∧ abinOp (TT gt) .rem false 3 (.int .i64 u) (.int .i64 n) = some (.int .i64 k) := by
  refine ⟨(u.tmod n).toNat, ?_, ?_⟩
  · have h1 := Int.tmod_lt_of_pos u (show (0 : Int) < n by omega)
    have h2 := Int.tmod_nonneg (n : Int) h0
    omega
  · have h2 := Int.tmod_nonneg (n : Int) h0
    show (if (n : Int) = 0 then none else some (AV.int .i64 (u.tmod n))) = _
    rw [if_neg (by omega)]
    congr 2; omega
theorem half_eq {n : Nat} (hn : n ≤ 2 ^ 30) : abinOp (TT gt) .quo true 3 (.int .i64 n) (.int .i64 2) = some (.int .i64 (n / 2 : Nat)) := by
  have e : (n : Int).tdiv 2 = (n / 2 : Nat) := by
    rw [Int.tdiv_eq_ediv_of_nonneg (by omega)]; omega
  show (if (2 : Int) = 0 then none else some (AV.int .i64 (IntKind.i64.wrap ((n : Int).tdiv 2)))) = _
  rw [if_neg (by decide), e, IntWalk.i64_in _ (by omega)]
theorem conv_eq {h : AH} {u : Int} (h0 : 0 ≤ u) (hu : u ≤ 255) : aconvert (TT gt) h 5 3 (.int .u8 u) = some (.int .i64 u) := by
  show some (AV.int .i64 (IntKind.i64.wrap u)) = _
  rw [IntWalk.i64_in _ (by omega)]
theorem veq_len {v : AV} {n : Nat} (h : alenOf v = some n) : veq v v = true := by
  cases v <;> simp_all [alenOf, veq]
theorem perm_in {a b : List It} (h : a.Perm b) {x : It} : In a x ↔ In b x := by rw [in_mem, in_mem]; exact h.mem_iff
theorem dk_nodup {l : List It} : Dk l ↔ (l.map (·.1)).Nodup := by
  rw [List.nodup_iff_pairwise_ne, List.pairwise_iff_getElem]
  have ga : ∀ i (hi : i < l.length), (at' l i).1 = (l.map (·.1))[i]'(by simpa using hi) := fun i hi => by
    unfold at'
    rw [List.getD_eq_getElem?_getD, List.getElem?_eq_getElem hi]; simp
  constructor
  · intro K i j hi hj hij e
    have hi' : i < l.length := by simpa using hi
    have hj' : j < l.length := by simpa using hj
    have := K i j hi' hj' (by rw [ga i hi', ga j hj']; exact e)
    omega
  · intro H i j hi hj e
    rw [ga i hi, ga j hj] at e
    have hOB := Nat.lt_trichotomy i j
    rcases hOB with h' | h' | h'
    · exact absurd e (H i j (by simpa using hi) (by simpa using hj) h')
    · exact h'
    · exact absurd e.symm (H j i (by simpa using hj) (by simpa using hi) h')
theorem dk_perm {a b : List It} (h : a.Perm b) (K : Dk b) : Dk a := dk_nodup.2 ((h.map _).nodup_iff.2 (dk_nodup.1 K))
theorem dk_swap {hp : List It} (K : Dk hp) {i j : Nat} (hi : i < hp.length) (hj : j < hp.length) : Dk (swapL hp i j) := fun a b ha hb e => by
  rw [swap_len] at ha hb
  have sw := fun k => at_swap (k := k) hi hj
  rw [sw, sw] at e
  split at e <;> split at e <;> (try split at e) <;> (try split at e) <;> (have := K _ _ (by omega) (by omega) e; omega)
set_option maxHeartbeats 4000000 in
theorem once_spec {h : AH} (hw : WF h) {v : AV} {l : List It} (row : PairsAt h v l) (u : Int) (hu0 : 0 ≤ u) (hu : u ≤ 255) :
    EvF (TT gt) X 4 [v, .int .u8 u] h (fun r _ => r = .bool true) := by
  have wake : ∀ {h' : AH}, EvF (TT gt) X 8 [] h' (fun r h'' => h'' = h' ∧ r = .bool true) := awake_specO
  have ln := fun h' => RowOf.len_any (T := TT gt) (t := 22) row rfl h'
  have ln0 := ln h
  have S0 := HS.all hw
  refine EvF.enter rfl rfl rfl ?_
  repeat (first | refine EvO.plain rfl rfl rfl rfl rfl rfl ?_ | refine EvO.plain rfl rfl rfl rfl rfl (by assumption) ?_ | refine EvC.seq ?_ | refine EvC.region rfl ?_ | refine EvO.nil ?_ | refine at_normal ?_)
  refine EvC.decide rfl (fun hc => ?_) (fun hc => ?_)
  · repeat (first | refine EvC.seq ?_ | refine EvC.region rfl ?_)
    (refine EvO.cons rfl rfl rfl (EvP.callF rfl rfl rfl rfl (EvF.mono (wake) ?_)))
    rintro _ h1 _ ⟨rfl, rfl⟩
    repeat (first | refine EvO.plain rfl rfl rfl rfl rfl rfl ?_ | refine EvO.nil ?_ | refine at_normal ?_ | refine EvC.ret ?_ | refine at_ret ?_)
    (refine ret_is (v := .bool true) rfl rfl ?_)
    rfl
  · have hl : l.length ≤ 200 := by omega
    repeat (first | refine EvO.plain rfl rfl rfl rfl rfl rfl ?_ | refine EvO.plain rfl rfl rfl rfl rfl (by assumption) ?_ | refine EvC.seq ?_ | refine EvC.region rfl ?_ | refine EvO.nil ?_ | refine at_normal ?_ | refine EvC.skip ?_ | refine EvC.block ?_)
    clear ln0
    refine EvC.loop (fun c σ h' => ∃ (i : Nat) (once : List It) (ov : AV) (col' : Nat → Nat) (E : Nat → AV), Step R123 (fun _ => 0) h col' h' ∧ HV col' 1 h' 27 ov once ∧ Dk once ∧ once.length ≤ i ∧ i ≤ l.length ∧ c = l.length - i ∧ σ = upds [(1, .int .u8 u), (5, ov), (20, v), (21, .int .i64 l.length), (22, .int .i64 i)] E) (l.length) ?_ ?_
    · exact ⟨0, [], .nilSlice, _, _, Step.refl S0, .nil, fun i j hi => absurd hi (Nat.not_lt_zero _), Nat.le_refl _, Nat.zero_le _, rfl, hold ⟨rfl, rfl, rfl, rfl, rfl, trivial⟩⟩
    · rintro _ _ h1 ⟨i, once, ov, col1, E, A1, V1, K1, ho, hi, rfl, rfl⟩
      have S1 := S0.step A1 (by decide)
      repeat (first | refine EvO.plain rfl rfl rfl rfl rfl rfl ?_ | refine EvC.seq ?_ | refine EvC.region rfl ?_ | refine EvO.nil ?_ | refine at_normal ?_)
      refine EvC.decide rfl (fun hc => ?_) (fun hc => ?_)
      · have hlt : i < l.length := by omega
        have hOB := (RowOf.mono S1.le row).atN (T := TT gt) (t := 22) (e := 27) rfl rfl rfl rfl (k := .i64) (i := (i : Int)) (by omega) (by omega)
        obtain ⟨pp, a1, a2⟩ := hOB
        rw [Int.toNat_natCast] at a2
        generalize at' l i = x at a2
        repeat (first | refine EvO.plain rfl rfl rfl rfl rfl (by assumption) ?_ | refine EvC.seq ?_ | refine EvC.region rfl ?_ | refine at_normal ?_ | refine EvC.skip ?_ | refine EvC.block ?_)
        (refine EvO.cons rfl rfl rfl (EvP.newC (b := .cells (itC z) 27 false) (mk := .ptr) S1 2 rfl rfl (by decide) (fun h2 i7 col2 A2 S2 o2 c2 _ => ?_)))
        clear a1 a2
        skip
        (refine EvO.cons0 rfl rfl (EvP.storeC (v := .agg (itC x)) S2 2 o2 c2 (by decide) rfl rfl rfl rfl rfl (by show 0 + 2 ≤ 2; decide) (fun h3 A3 S3 o3 _ _ => ?_)))
        have o3 : h3.t.get i7 = some (.cells (itC x) 27 false) := o3
        have V3 : HV col2 1 h3 27 ov once := (V1.step A2 S1.wf (by decide)).step A3 S2.wf (by decide)
        have B3 : Step R123 (fun _ => 0) h col2 h3 := (A1.trans (A2.mono fun _ e => .inr (.inl e))).trans (A3.mono fun _ e => .inr (.inl e))
        have lo := fun h' => V3.row.len_any (T := TT gt) (t := 22) rfl h'
        have lo3 := lo h3
        repeat (first | refine EvO.plain rfl rfl rfl rfl rfl rfl ?_ | refine EvO.plain rfl rfl rfl rfl rfl (by assumption) ?_ | refine EvC.seq ?_ | refine EvC.region rfl ?_ | refine EvO.nil ?_ | refine at_normal ?_ | refine EvC.block ?_)
        clear lo3
        refine EvC.loop (fun c σ h' => ∃ (j : Nat) (b : Bool) (col' : Nat → Nat) (E : Nat → AV), Step R123 (fun _ => 0) h col' h' ∧ HV col' 1 h' 27 ov once ∧ h'.t.get i7 = some (.cells (itC x) 27 false) ∧ col' i7 = 2 ∧ (b = true ↔ ∀ j', j' < j → (at' once j').1 ≠ x.1) ∧ j ≤ once.length ∧ c = once.length - j ∧ σ = upds [(1, .int .u8 u), (5, ov), (7, .ptr i7 0), (8, .bool b), (20, v), (21, .int .i64 l.length), (22, .int .i64 i), (26, ov), (27, .int .i64 once.length), (28, .int .i64 j)] E) (once.length) ?_ ?_
        · exact ⟨0, true, col2, _, B3, V3, o3, c2, ⟨fun _ j' hj => absurd hj (Nat.not_lt_zero _), fun _ => rfl⟩, Nat.zero_le _, rfl, hold ⟨rfl, rfl, rfl, rfl, rfl, rfl, rfl, rfl, rfl, rfl, trivial⟩⟩
        · clear B3 V3 o3 c2 A2 A3 S2 S3 V1 A1 S1
          rintro _ _ h4 ⟨j, b, col4, E, A4, V4, o4, c4, hb, hj, rfl, rfl⟩
          have S4 := S0.step A4 (by decide)
          repeat (first | refine EvO.plain rfl rfl rfl rfl rfl rfl ?_ | refine EvC.seq ?_ | refine EvC.region rfl ?_ | refine EvO.nil ?_ | refine at_normal ?_)
          refine EvC.decide rfl (fun hcj => ?_) (fun hcj => ?_)
          · have hjl : j < once.length := by omega
            have hOB := V4.at_ (T := TT gt) (t := 22) (t3 := 3) rfl rfl rfl rfl rfl rfl (k := .i64) (i := (j : Int)) (by omega) (by omega)
            obtain ⟨id, a1, a2, _, _⟩ := hOB
            rw [Int.toNat_natCast] at a1 a2
            repeat (first | refine EvO.plain rfl rfl rfl rfl rfl (by assumption) ?_ | refine EvC.seq ?_ | refine EvC.region rfl ?_ | refine at_normal ?_ | refine EvC.skip ?_ | refine EvC.block ?_)
            (refine EvO.cons rfl rfl rfl (EvP.newC (b := .cells (itC z) 27 false) (mk := .ptr) S4 3 rfl rfl (by decide) (fun h5 i10 col5 A5 S5 o5 c5 _ => ?_)))
            clear a1 a2
            skip
            (refine EvO.cons0 rfl rfl (EvP.storeC (v := .agg (itC (at' once j))) S5 3 o5 c5 (by decide) rfl rfl rfl rfl rfl (by show 0 + 2 ≤ 2; decide) (fun h6 A6 S6 o6 _ _ => ?_)))
            have o6 : h6.t.get i10 = some (.cells (itC (at' once j)) 27 false) := o6
            have B6 : Step (fun c => c = 3) col4 h4 col5 h6 := A5.trans A6
            have V6 : HV col5 1 h6 27 ov once := V4.step B6 S4.wf (by decide)
            have hOB := B6.get S4.wf o4 (by rw [c4]; decide)
            obtain ⟨o7, c7⟩ := hOB
            have c7 := c7.trans c4
            have f1 := load1 (T := TT gt) (t := 3) (off := 0) o6 rfl rfl rfl
            have f2 := load1 (T := TT gt) (t := 3) (off := 0) o7 rfl rfl rfl
            have C6 : Step R123 (fun _ => 0) h col5 h6 := A4.trans (B6.mono fun _ e => .inr (.inr e))
            clear A5 A6 S5 o5 c5
            cases b with
            | false =>
              repeat (first | refine EvO.plain rfl rfl rfl rfl rfl rfl ?_ | refine EvC.region rfl ?_ | refine EvO.nil ?_ | refine at_normal ?_ | refine be_normal ?_ | refine ro_normal ?_ | refine EvO.cons rfl rfl rfl (EvP.add64 rfl rfl (by omega) ?_) | refine EvO.off rfl rfl rfl ?_)
              clear f1 f2
              refine ⟨once.length - (j + 1), by omega, j + 1, false, col5, _, C6, V6, o7, c7, ⟨(fun e => nomatch e), fun h' => hb.2 fun j' hj' => h' j' (by omega)⟩, by omega, rfl, hold ⟨rfl, rfl, rfl, rfl, rfl, rfl, rfl, rfl, rfl, rfl, trivial⟩⟩
            | true =>
              repeat (first | refine EvO.plain rfl rfl rfl rfl rfl rfl ?_ | refine EvC.region rfl ?_ | refine EvO.nil ?_ | refine at_normal ?_ | refine EvO.plainOn rfl rfl rfl rfl rfl rfl ?_ | refine EvO.plainOn rfl rfl rfl rfl rfl (by assumption) ?_)
              refine EvO.on rfl rfl rfl (EvP.quiet rfl rfl ?_)
              repeat (first | refine EvO.plain rfl rfl rfl rfl rfl rfl ?_ | refine EvC.region rfl ?_ | refine EvO.nil ?_ | refine at_normal ?_ | refine be_normal ?_ | refine ro_normal ?_ | refine EvO.cons rfl rfl rfl (EvP.add64 rfl rfl (by omega) ?_))
              clear f1 f2
              refine ⟨once.length - (j + 1), by omega, j + 1, (at' once j).1 != x.1, col5, _, C6, V6, o7, c7, ⟨fun e j' hj' => ?_, fun h' => ?_⟩, by omega, rfl, hold ⟨rfl, rfl, rfl, rfl, rfl, rfl, rfl, rfl, rfl, rfl, trivial⟩⟩
              · have hOB := Nat.lt_or_ge j' j
                rcases hOB with h' | h'
                · exact hb.1 rfl j' h'
                · have hOB : j' = j := by omega
                  obtain rfl := hOB
                  simpa using e
              · simpa using h' j (Nat.lt_succ_self _)
          · have hOB : j = once.length := by omega
            obtain rfl := hOB
            have f1 := loadAgg (T := TT gt) (t := 27) (off := 0) (n := 2) (r := itC x) o4 rfl rfl
            cases b with
            | false =>
              clear f1
              repeat (first | refine EvO.plain rfl rfl rfl rfl rfl rfl ?_ | refine EvC.seq ?_ | refine EvC.region rfl ?_ | refine EvO.nil ?_ | refine at_normal ?_ | refine EvC.exit ?_ | refine at_exit ?_ | refine be_same rfl ?_ | refine ro_exit ?_)
              refine EvC.cond (t := false) rfl (fun e => nomatch e) (fun _ => ?_)
              repeat (first | refine EvO.plain rfl rfl rfl rfl rfl rfl ?_ | refine EvC.region rfl ?_ | refine EvO.nil ?_ | refine at_normal ?_ | refine EvC.skip ?_ | refine be_normal ?_ | refine ro_normal ?_ | refine EvO.cons rfl rfl rfl (EvP.add64 rfl rfl (by omega) ?_))
              exact ⟨l.length - (i + 1), by omega, i + 1, once, ov, col4, _, A4, V4, K1, by omega, by omega, rfl, hold ⟨rfl, rfl, rfl, rfl, rfl, trivial⟩⟩
            | true =>
              repeat (first | refine EvO.plain rfl rfl rfl rfl rfl rfl ?_ | refine EvC.seq ?_ | refine EvC.region rfl ?_ | refine EvO.nil ?_ | refine at_normal ?_ | refine EvC.exit ?_ | refine at_exit ?_ | refine be_same rfl ?_ | refine ro_exit ?_)
              refine EvC.cond (t := true) rfl (fun _ => ?_) (fun e => nomatch e)
              repeat (first | refine EvO.plain rfl rfl rfl rfl rfl rfl ?_ | refine EvO.plain rfl rfl rfl rfl rfl (by assumption) ?_ | refine EvC.region rfl ?_)
              (refine EvO.cons rfl rfl rfl (EvP.newR (b := .cells (itC x) 27 false) (mk := .slice 1 1 true) S4 rfl (build_pair (gt := gt) x) (fun h5 i5 A5 S5 hle5 o5 _ _ => ?_)))
              (refine EvO.cons rfl rfl rfl (EvP.appendC (S5.down hle5) (V4.step A5 S4.wf (fun e => e)) (by decide) rfl rfl rfl rfl rfl rfl rfl rfl rfl (by decide) rfl rfl (afirst_all o5 rfl) rfl (by decide) rfl (by show (once.length + 1) * 16 ≤ 70368744177664; omega) (by omega) (fun w6 h6 col6 A6 S6 V6 => ?_)))
              have V6 : HV col6 1 h6 27 w6 (once ++ [x]) := by unfold HV; rw [List.length_append, cellsH_app]; exact V6
              clear f1
              repeat (first | refine EvO.plain rfl rfl rfl rfl rfl rfl ?_ | refine EvC.region rfl ?_ | refine EvO.nil ?_ | refine at_normal ?_ | refine be_normal ?_ | refine ro_normal ?_ | refine EvO.cons rfl rfl rfl (EvP.add64 rfl rfl (by omega) ?_))
              exact ⟨l.length - (i + 1), by omega, i + 1, once ++ [x], w6, col6, _, (A4.trans (A5.mono fun _ e => e.elim)).trans (A6.mono fun _ e => .inl e), V6, dk_add K1 (hb.1 rfl), by simp; omega, by omega, rfl, hold ⟨rfl, rfl, rfl, rfl, rfl, trivial⟩⟩
      · have lo := fun h' => V1.row.len_any (T := TT gt) (t := 22) rfl h'
        have lo1 := lo h1
        have hol : once.length ≤ 200 := by omega
        repeat (first | refine EvO.plain rfl rfl rfl rfl rfl rfl ?_ | refine EvO.plain rfl rfl rfl rfl rfl (by assumption) ?_ | refine EvC.seq ?_ | refine EvC.region rfl ?_ | refine EvO.nil ?_ | refine at_normal ?_ | refine EvC.exit ?_ | refine at_exit ?_ | refine be_same rfl ?_ | refine ro_exit ?_)
        refine EvC.join ((fun σ h' => h' = h1 ∧ ∃ (k : Nat) (E : Nat → AV), k ≤ once.length ∧ σ = upds [(5, ov), (11, .int .i64 k)] E)) ?_ ?_
        · refine EvC.decide rfl (fun hk => ?_) (fun hk => ?_)
          · have hOB := rem_eq (gt := gt) (u := u) (n := once.length) hu0 hu (by omega) (by omega)
            obtain ⟨k, hkl, hrem⟩ := hOB
            repeat (first | refine EvO.plain rfl rfl rfl rfl rfl rfl ?_ | refine EvC.region rfl ?_)
            refine EvO.cons rfl rfl rfl (EvP.quiet rfl (conv_eq (gt := gt) (h := h1) hu0 hu) ?_)
            repeat (first | refine EvO.plain rfl rfl rfl rfl rfl rfl ?_ | refine EvO.plain rfl rfl rfl rfl rfl (by assumption) ?_)
            (refine EvO.cons rfl rfl rfl (EvP.quiet rfl hrem ?_))
            repeat (first | refine EvO.plain rfl rfl rfl rfl rfl rfl ?_ | refine EvO.nil ?_ | refine jo_normal ?_)
            exact ⟨rfl, k, _, by omega, hold ⟨rfl, rfl, trivial⟩⟩
          · repeat (first | refine EvC.skip ?_ | refine jo_normal ?_)
            exact ⟨rfl, 0, _, Nat.zero_le _, hold ⟨rfl, rfl, trivial⟩⟩
        · rintro σ h1 ⟨rfl, k, E, hk, rfl⟩
          clear lo1 hc hi ho
          have S1 := S0.step A1 (by decide)
          have hOB := part_lo (T := TT gt) (t := 22) V1 rfl rfl rfl hk
          obtain ⟨v1, p1, p2, p3⟩ := hOB
          have vv1 := veq_len p2
          have hGG : h1.le h1 := fun _ _ e => e
          have n4 : ∀ j, ¬ (col1 j = 4) := fun j => by
            have hOB := Nat.lt_or_ge j h.next
            rcases hOB with h' | h'
            · rw [A1.old j h']; decide
            · intro e
              have := A1.new j h' (by rw [e]; decide)
              rw [e] at this
              rcases this with e | e | e <;> cases e
          repeat (first | refine EvC.seq ?_ | refine at_normal ?_)
          refine EvC.drawnH 1 (h1) (p := [⟨0, false, 0, 0⟩, ⟨1, false, 0, 0⟩, ⟨2, false, 0, 0⟩, ⟨3, false, 0, 0⟩, ⟨5, false, 0, 1⟩, ⟨6, false, 0, 1⟩, ⟨7, false, 0, 1⟩, ⟨4, true, 0, 1⟩, ⟨8, true, 1, 2⟩, ⟨9, false, 2, 2⟩]) rfl (by kernel_rfl) (by kernel_rfl) ?_
          refine EvH_newC (b := .cells [] 27 false) (mk := .slice 0 0 true) S1 4 (by decide) rfl rfl rfl rfl rfl rfl rfl rfl rfl (fun h2 i2 col2 A2 S2 o2 c2 _ => ?_)
          have V2 : HV col2 4 h2 27 (.slice i2 0 0 0 true) [] := .mk (tail := []) o2 c2 rfl (fun _ => ⟨Nat.le_refl _, rfl⟩)
          have V1' : HV col2 1 h2 27 ov once := V1.step A2 S1.wf (by decide)
          have hOB := part_hi (T := TT gt) (t := 22) V1' rfl rfl rfl hk
          obtain ⟨v2, r1, r2, r3⟩ := hOB
          have hG2 : h1.le h2 := Step.le' A2 S1.wf (fun j => n4 j)
          have vov : veq ov ov = true := Vec.veq V1
          repeat (first | refine EvH.easy1 rfl rfl rfl rfl rfl rfl rfl rfl rfl rfl ?_ | refine EvH.easy1 rfl rfl rfl rfl rfl rfl rfl rfl rfl (by assumption) ?_ | refine EvH.easyG (by assumption) rfl rfl rfl rfl rfl rfl rfl rfl rfl rfl (by first | exact veq_s rfl | assumption) ?_ | refine EvH.easyG (by assumption) rfl rfl rfl rfl rfl rfl rfl rfl rfl (by assumption) (by first | exact veq_s rfl | assumption) ?_)
          (refine EvH.act rfl rfl rfl rfl rfl rfl rfl (EvP.appendItems S2 V2 (by decide) ⟨r2, r3⟩ (by simp) rfl rfl rfl rfl rfl rfl rfl rfl rfl rfl (by show (([] : List It).length + (once.length - k)) * 16 ≤ 70368744177664; simp; omega) (by simp; omega) (fun w3 h3 col3 A3 S3 V3 => ⟨fun _ => Step.le' (A2.trans A3) S1.wf (fun j => n4 j), ?_⟩)))
          have p3' : afirst h3 2 k v1 = some (cellsH (once.take k)) := by
            have hle := Step.le' (A2.trans A3) S1.wf (fun j => n4 j)
            cases v1 with
            | slice id off n cap ex =>
              simp only [afirst] at p3 ⊢
              cases hc1 : cellsOf h1 id with
              | none => rw [hc1] at p3; cases p3
              | some cs => rw [hc1] at p3; rw [cellsOf_le hle hc1]; exact p3
            | _ => exact p3
          (refine EvH.act rfl rfl rfl rfl rfl rfl rfl (EvP.appendItems S3 V3 (by decide) ⟨p2, p3'⟩ (by rw [List.length_take]; omega) rfl rfl rfl rfl rfl rfl rfl rfl rfl rfl (by show ((([] : List It) ++ once.drop k).length + k) * 16 ≤ 70368744177664; simp; omega) (by simp; omega) (fun w4 h4 col4 A4 S4 V4 => ⟨fun e => absurd e (by decide), ?_⟩)))
          rw [List.nil_append] at V4
          have A5 : Step (fun c => R123 c ∨ c = 4) (fun _ => 0) h col4 h4 := ((A1.mono fun _ e => .inl e).trans (A2.mono fun _ e => .inr e)).trans ((A3.mono fun _ e => .inr e).trans (A4.mono fun _ e => .inr e))
          have V5 : HV col4 1 h4 27 ov once := (V1'.step A3 S2.wf (by decide)).step A4 S3.wf (by decide)
          have pm : (once.drop k ++ once.take k).Perm once := by
            have h1 : (once.drop k ++ once.take k).Perm (once.take k ++ once.drop k) := List.perm_append_comm
            rwa [List.take_append_drop] at h1
          have Km := dk_perm pm K1
          have hml : (once.drop k ++ once.take k).length = once.length := pm.length_eq
          have hmi : ∀ x, In (once.drop k ++ once.take k) x ↔ In once x := fun x => perm_in pm
          generalize (once.drop k ++ once.take k) = m0 at V4 Km hml hmi
          clear V1 V2 V3 A1 A2 A3 A4 S1 S2 S3 p1 p2 p3 p3' r1 r2 r3 V1' vv1 vov hGG hG2 n4 o2 c2 pm
          repeat (refine EvH.easy1 rfl rfl rfl rfl rfl rfl rfl rfl rfl rfl ?_)
          repeat (first | refine EvO.plain rfl rfl rfl rfl rfl rfl ?_ | refine EvC.seq ?_ | refine EvC.region rfl ?_ | refine EvO.nil ?_ | refine at_normal ?_ | refine EvC.block ?_ | refine EvH.nil ?_)
          refine EvC.loop (fun c σ h' => ∃ (i : Nat) (m : List It) (mv : AV) (col' : Nat → Nat) (E : Nat → AV), Step (fun c => R123 c ∨ c = 4) (fun _ => 0) h col' h' ∧ HV col' 1 h' 27 ov once ∧ HV col' 4 h' 27 mv m ∧ Dk m ∧ m.length = once.length ∧ (∀ x, In m x ↔ In once x) ∧ i ≤ once.length / 2 ∧ c = once.length / 2 - i ∧ σ = upds [(5, ov), (12, mv), (13, .int .i64 i)] E) (once.length / 2) ?_ ?_
          · exact ⟨0, m0, w4, col4, _, A5, V5, V4, Km, hml, hmi, Nat.zero_le _, rfl, hold ⟨rfl, rfl, rfl, trivial⟩⟩
          · clear A5 V5 V4 Km hml hmi S4
            rintro _ _ h5 ⟨i, m, mv, col5, E, A5, V5, M5, Km, hml, hmi, hi, rfl, rfl⟩
            have S5 := S0.step A5 (by rintro ((e | e | e) | e) <;> cases e)
            have lm := fun h' => M5.row.len_any (T := TT gt) (t := 22) rfl h'
            rw [hml] at lm
            have lm5 := lm h5
            repeat (first | refine EvO.plain rfl rfl rfl rfl rfl rfl ?_ | refine EvO.plain rfl rfl rfl rfl rfl (by assumption) ?_ | refine EvC.seq ?_ | refine EvC.region rfl ?_)
            (refine EvO.cons rfl rfl rfl (EvP.quiet rfl (half_eq (gt := gt) (by omega)) ?_))
            repeat (first | refine EvO.plain rfl rfl rfl rfl rfl rfl ?_ | refine EvO.nil ?_ | refine at_normal ?_)
            refine EvC.decide rfl (fun hc => ?_) (fun hc => ?_)
            · have hlt : i < once.length / 2 := by omega
              have hOB := M5.at_ (T := TT gt) (t := 22) (t3 := 3) rfl rfl rfl rfl rfl rfl (k := .i64) (i := (i : Int)) (by omega) (by omega)
              obtain ⟨id1, a1, a2, _, _⟩ := hOB
              have hOB := M5.at_ (T := TT gt) (t := 22) (t3 := 3) rfl rfl rfl rfl rfl rfl (k := .i64) (i := (once.length : Int) - 1 - i) (by omega) (by omega)
              obtain ⟨id2, b1, b2, _, _⟩ := hOB
              rw [Int.toNat_natCast] at a1 a2
              rw [show ((once.length : Int) - 1 - i).toNat = once.length - 1 - i by omega] at b1 b2
              have hG5 := S5.le
              have lmG := lm h
              have vmv : veq mv mv = true := Vec.veq M5
              repeat (first | refine EvC.seq ?_ | refine at_normal ?_ | refine EvC.skip ?_ | refine EvC.block ?_)
              refine EvC.drawnH 1 (h) (p := [⟨0, false, 0, 0⟩, ⟨1, false, 0, 0⟩, ⟨2, false, 0, 1⟩, ⟨3, false, 0, 1⟩, ⟨4, false, 0, 1⟩, ⟨5, false, 0, 1⟩, ⟨6, false, 0, 1⟩, ⟨7, false, 0, 1⟩, ⟨8, false, 0, 0⟩, ⟨9, false, 0, 0⟩, ⟨10, false, 0, 0⟩, ⟨11, false, 0, 0⟩, ⟨12, false, 0, 0⟩, ⟨13, false, 0, 0⟩, ⟨14, false, 0, 0⟩, ⟨15, false, 0, 0⟩, ⟨16, false, 0, 0⟩, ⟨17, false, 0, 0⟩, ⟨18, false, 0, 0⟩, ⟨19, false, 0, 0⟩, ⟨20, false, 0, 0⟩, ⟨21, true, 0, 1⟩, ⟨22, false, 1, 1⟩, ⟨23, true, 1, 2⟩]) rfl (by kernel_rfl) (by kernel_rfl) ?_
              repeat (first | refine EvH.easy1 rfl rfl rfl rfl rfl rfl rfl rfl rfl rfl ?_ | refine EvH.easyG (by assumption) rfl rfl rfl rfl rfl rfl rfl rfl rfl rfl (by first | exact veq_s rfl | assumption) ?_ | refine EvH.easyG (by assumption) rfl rfl rfl rfl rfl rfl rfl rfl rfl (by assumption) (by first | exact veq_s rfl | assumption) ?_)
              (refine EvH.quietG (by assumption) rfl rfl rfl rfl rfl rfl rfl rfl ((Go.AI.sub64 (a := (once.length : Int)) (b := 1) (by omega))) (by first | exact veq_s rfl | assumption) ?_)
              repeat (refine EvH.easyG (by assumption) rfl rfl rfl rfl rfl rfl rfl rfl rfl rfl (by first | exact veq_s rfl | assumption) ?_)
              (refine EvH.quietG (by assumption) rfl rfl rfl rfl rfl rfl rfl rfl ((Go.AI.sub64 (a := (once.length : Int) - 1) (b := (i : Int)) (by omega))) (by first | exact veq_s rfl | assumption) ?_)
              repeat (first | refine EvH.easy1 rfl rfl rfl rfl rfl rfl rfl rfl rfl rfl ?_ | refine EvH.easy1 rfl rfl rfl rfl rfl rfl rfl rfl rfl (by assumption) ?_)
              (refine EvH.quiet1 rfl rfl rfl rfl rfl rfl rfl rfl ((Go.AI.sub64 (a := (once.length : Int)) (b := 1) (by omega))) ?_)
              repeat (refine EvH.easy1 rfl rfl rfl rfl rfl rfl rfl rfl rfl rfl ?_)
              (refine EvH.quiet1 rfl rfl rfl rfl rfl rfl rfl rfl ((Go.AI.sub64 (a := (once.length : Int) - 1) (b := (i : Int)) (by omega))) ?_)
              repeat (first | refine EvH.easy1 rfl rfl rfl rfl rfl rfl rfl rfl rfl rfl ?_ | refine EvH.easy1 rfl rfl rfl rfl rfl rfl rfl rfl rfl (by assumption) ?_)
              (refine EvH.act0 rfl rfl rfl rfl rfl rfl (EvP.setItem S5 M5 (by decide) rfl rfl rfl (i := i) (by omega) a1 rfl rfl (fun h6 A6 S6 M6 _ => ⟨fun _ => S6.le, ?_⟩)))
              clear lm5 lmG a2 b2
              repeat (refine EvH.easy1 rfl rfl rfl rfl rfl rfl rfl rfl rfl (by assumption) ?_)
              (refine EvH.act0 rfl rfl rfl rfl rfl rfl (EvP.setItem (k := .i64) S6 M6 (by decide) rfl rfl rfl (i := once.length - 1 - i) (by rw [List.length_set]; omega) (by rw [show ((once.length - 1 - i : Nat) : Int) = (once.length : Int) - 1 - i by omega]; exact b1) rfl rfl (fun h7 A7 S7 M7 _ => ⟨fun e => absurd e (by decide), ?_⟩)))
              clear a1 b1
              repeat (first | refine EvO.plain rfl rfl rfl rfl rfl rfl ?_ | refine EvC.region rfl ?_ | refine EvO.nil ?_ | refine at_normal ?_ | refine be_normal ?_ | refine EvH.nil ?_ | refine ro_normal ?_ | refine EvO.cons rfl rfl rfl (EvP.add64 rfl rfl (by omega) ?_))
              exact ⟨once.length / 2 - (i + 1), by omega, i + 1, swapL m i (once.length - 1 - i), mv, col5, _, (A5.trans (A6.mono fun _ e => .inr e)).trans (A7.mono fun _ e => .inr e), (V5.step A6 S5.wf (by decide)).step A7 S6.wf (by decide), M7, dk_swap Km (by omega) (by omega), by rw [swap_len]; exact hml, fun x => by rw [in_swap (by omega) (by omega)]; exact hmi x, by omega, rfl, hold ⟨rfl, rfl, rfl, trivial⟩⟩
            · clear lm5
              have rowO := hv_pairs V5
              have rowM := hv_pairs M5
              have hml2 : m.length ≤ 300 := by omega
              clear lm hi
              repeat (first | refine EvO.plain rfl rfl rfl rfl rfl rfl ?_ | refine EvC.seq ?_ | refine EvC.region rfl ?_ | refine at_normal ?_ | refine EvC.exit ?_ | refine at_exit ?_ | refine be_same rfl ?_ | refine ro_exit ?_)
              (refine EvO.cons rfl rfl rfl (EvP.callF rfl rfl rfl rfl (EvF.mono (filled_spec S5.wf rowO (by omega)) ?_)))
              rintro _ h6 _ ⟨hle6, p, qv, G6, col6, hv6, hp6, m6, rfl, hG6, q6, fr6, f45, R6, hpl6⟩
              skip
              (refine EvO.cons rfl rfl rfl (EvP.callF rfl rfl rfl rfl (EvF.mono (List_spec q6) ?_)))
              rintro av h7 _ ⟨col7, A7, S7, V7⟩
              have hle7 : h5.le h7 := AH.le.trans' hG6 S7.le
              have rowA := hv_pairs V7
              have rowM7 : PairsAt h7 mv m := RowOf.mono hle7 rowM
              have Kd6 := q6.pos.kd
              have hs1 := merge_lt Kd6 le2_eq
              have hs1l : (hp6.mergeSort (le2 cfQ)).length = hp6.length := List.length_mergeSort _
              have hw7 := S7.wf
              clear A5 V5 M5 S5 hle6 fr6 f45 q6 A7 S7 rowO rowM hle7 hG6
              generalize hS : hp6.mergeSort (le2 cfQ) = s1 at *
              have la := fun h' => RowOf.len_any (T := TT gt) (t := 22) rowA rfl h'
              repeat (first | refine EvO.plain rfl rfl rfl rfl rfl rfl ?_ | refine EvC.seq ?_ | refine EvC.region rfl ?_ | refine EvO.nil ?_ | refine at_normal ?_ | refine EvC.block ?_)
              refine EvC.loop (fun c σ h' => ∃ (i : Nat) (E : Nat → AV), h' = h7 ∧ 1 ≤ i ∧ (i ≤ s1.length ∨ i = 1) ∧ c = s1.length + 1 - i ∧ σ = upds [(12, mv), (14, av), (15, .int .i64 i)] E) (s1.length) ?_ ?_
              · exact ⟨1, _, rfl, Nat.le_refl _, .inr rfl, by omega, hold ⟨rfl, rfl, rfl, trivial⟩⟩
              · clear hc
                rintro _ _ h8 ⟨i, E, rfl, hi1, hi2, rfl, rfl⟩
                have la8 := la h8
                repeat (first | refine EvO.plain rfl rfl rfl rfl rfl rfl ?_ | refine EvO.plain rfl rfl rfl rfl rfl (by assumption) ?_ | refine EvC.seq ?_ | refine EvC.region rfl ?_ | refine EvO.nil ?_ | refine at_normal ?_)
                clear la8
                refine EvC.decide rfl (fun hc => ?_) (fun hc => ?_)
                · have hlt : i < s1.length := by omega
                  have hpw : lt (at' s1 (i - 1)) (at' s1 i) := by
                    have h' := hs1
                    rw [List.pairwise_iff_getElem] at h'
                    have h2 := h' (i - 1) i (by omega) hlt (by omega)
                    unfold at'
                    rw [List.getD_eq_getElem?_getD, List.getD_eq_getElem?_getD, List.getElem?_eq_getElem (by omega), List.getElem?_eq_getElem hlt]
                    exact h2
                  have hOB := V7.at_ (T := TT gt) (t := 22) (t3 := 3) rfl rfl rfl rfl rfl rfl (k := .i64) (i := (i : Int) - 1) (by omega) (by omega)
                  obtain ⟨id1, a1, _, a3, a4⟩ := hOB
                  have hOB := V7.at_ (T := TT gt) (t := 22) (t3 := 3) rfl rfl rfl rfl rfl rfl (k := .i64) (i := (i : Int)) (by omega) (by omega)
                  obtain ⟨id2, b1, _, b3, b4⟩ := hOB
                  rw [show ((i : Int) - 1).toNat = i - 1 by omega] at a1 a3 a4
                  rw [Int.toNat_natCast] at b1 b3 b4
                  repeat (first | refine EvC.seq ?_ | refine at_normal ?_ | refine EvC.skip ?_ | refine EvC.block ?_)
                  refine EvC.drawn (p := [⟨0, false, 0, 0⟩, ⟨1, false, 0, 0⟩, ⟨2, false, 0, 0⟩, ⟨3, false, 0, 0⟩, ⟨4, false, 0, 0⟩, ⟨5, false, 0, 0⟩, ⟨6, false, 0, 0⟩, ⟨7, false, 0, 0⟩, ⟨8, false, 0, 0⟩, ⟨9, false, 0, 0⟩, ⟨10, false, 0, 0⟩, ⟨11, false, 0, 0⟩, ⟨12, false, 0, 0⟩, ⟨13, false, 0, 0⟩, ⟨14, false, 0, 0⟩, ⟨15, false, 0, 0⟩, ⟨16, false, 0, 0⟩, ⟨17, false, 0, 0⟩, ⟨18, false, 0, 0⟩, ⟨19, false, 0, 0⟩, ⟨20, false, 0, 0⟩, ⟨21, false, 0, 0⟩, ⟨22, false, 0, 0⟩, ⟨23, false, 0, 0⟩, ⟨24, false, 0, 0⟩, ⟨25, false, 0, 0⟩, ⟨26, false, 0, 0⟩, ⟨27, false, 0, 0⟩, ⟨28, false, 0, 0⟩, ⟨29, false, 0, 0⟩, ⟨30, false, 0, 0⟩, ⟨31, false, 0, 0⟩, ⟨32, false, 0, 0⟩, ⟨33, false, 0, 0⟩, ⟨34, false, 0, 0⟩, ⟨35, false, 0, 0⟩, ⟨36, false, 0, 0⟩, ⟨37, false, 0, 0⟩, ⟨38, false, 0, 0⟩, ⟨39, false, 0, 0⟩]) rfl (by kernel_rfl) (by kernel_rfl) rfl ?_
                  repeat (first | refine EvR.plain rfl rfl rfl rfl rfl rfl rfl ?_ | refine EvR.plain rfl rfl rfl rfl rfl rfl (by assumption) ?_ | refine EvR.cons rfl rfl rfl rfl (EvP.sub64 rfl rfl (by omega) ?_))
                  unfold lt at hpw
                  (refine EvR.cons rfl rfl rfl rfl (EvP.quiet rfl (isB (q := false) (decide_eq_false (by omega))) ?_))
                  repeat (first | refine EvR.plain rfl rfl rfl rfl rfl rfl rfl ?_ | refine EvR.plainOn rfl rfl rfl rfl rfl rfl rfl ?_ | refine EvR.plainOn rfl rfl rfl rfl rfl rfl (by assumption) ?_ | refine EvR.on rfl rfl rfl rfl (EvP.sub64 rfl rfl (by omega) ?_))
                  (refine EvR.on rfl rfl rfl rfl (EvP.bool rfl rfl (fun q1 => ?_) (fun q1 => ?_)))
                  · have q1 : (at' s1 (i - 1)).1 = (at' s1 i).1 := by simpa using q1
                    repeat (first | refine EvR.plainOn rfl rfl rfl rfl rfl rfl rfl ?_ | refine EvR.plainOn rfl rfl rfl rfl rfl rfl (by assumption) ?_ | refine EvR.on rfl rfl rfl rfl (EvP.sub64 rfl rfl (by omega) ?_))
                    (refine EvR.on rfl rfl rfl rfl (EvP.quiet rfl (isB (q := false) (decide_eq_false (by omega))) ?_))
                    repeat (first | refine at_normal ?_ | refine EvR.nil ?_ | refine EvR.plain rfl rfl rfl rfl rfl rfl rfl ?_ | refine EvR.plainOn rfl rfl rfl rfl rfl rfl rfl ?_)
                    refine EvC.cond (t := false) rfl (fun e => nomatch e) (fun _ => ?_)
                    clear a1 a3 a4 b1 b3 b4
                    repeat (first | refine EvO.plain rfl rfl rfl rfl rfl rfl ?_ | refine EvC.region rfl ?_ | refine EvO.nil ?_ | refine at_normal ?_ | refine EvC.skip ?_ | refine be_normal ?_ | refine ro_normal ?_ | refine EvO.cons rfl rfl rfl (EvP.add64 rfl rfl (by omega) ?_))
                    exact ⟨s1.length + 1 - (i + 1), by omega, i + 1, _, rfl, by omega, .inl (by omega), rfl, hold ⟨rfl, rfl, rfl, trivial⟩⟩
                  · repeat (first | refine at_normal ?_ | refine EvR.nil ?_ | refine EvR.plain rfl rfl rfl rfl rfl rfl rfl ?_ | refine EvR.off rfl rfl rfl rfl ?_ | refine EvR.plainOn rfl rfl rfl rfl rfl rfl rfl ?_)
                    refine EvC.cond (t := false) rfl (fun e => nomatch e) (fun _ => ?_)
                    clear a1 a3 a4 b1 b3 b4
                    repeat (first | refine EvO.plain rfl rfl rfl rfl rfl rfl ?_ | refine EvC.region rfl ?_ | refine EvO.nil ?_ | refine at_normal ?_ | refine EvC.skip ?_ | refine be_normal ?_ | refine ro_normal ?_ | refine EvO.cons rfl rfl rfl (EvP.add64 rfl rfl (by omega) ?_))
                    exact ⟨s1.length + 1 - (i + 1), by omega, i + 1, _, rfl, by omega, .inl (by omega), rfl, hold ⟨rfl, rfl, rfl, trivial⟩⟩
                · repeat (first | refine EvO.plain rfl rfl rfl rfl rfl rfl ?_ | refine EvC.seq ?_ | refine EvC.region rfl ?_ | refine at_normal ?_ | refine EvC.exit ?_ | refine at_exit ?_ | refine be_same rfl ?_ | refine ro_exit ?_)
                  (refine EvO.cons rfl rfl rfl (EvP.callF rfl rfl rfl rfl (EvF.mono (filled_spec hw7 rowM7 hml2) ?_)))
                  rintro _ h9 _ ⟨hle9, p', qv', G9, col9, hv9, hp9, m9, rfl, hG9, q9, fr9, _, R9, hpl9⟩
                  skip
                  (refine EvO.cons rfl rfl rfl (EvP.callF rfl rfl rfl rfl (EvF.mono (List_spec q9) ?_)))
                  rintro bv h10 _ ⟨col10, A10, S10, V10⟩
                  have hle10 : h8.le h10 := AH.le.trans' hG9 S10.le
                  have rowB := hv_pairs V10
                  have same : hp9.mergeSort (le2 cfQ) = s1 := by
                    rw [← hS]
                    refine merge_same q9.pos.kd Kd6 (fun x => ?_) le2_eq
                    rw [R9.here, R6.here]
                    have d1 := due_iff Km x.2 x.1
                    have d2 := due_iff K1 x.2 x.1
                    exact d1.trans (((and_congr_left fun _ => hmi _).trans d2.symm))
                  rw [same] at rowB
                  skip
                  (refine EvO.cons rfl rfl rfl (EvP.callF rfl rfl rfl rfl (EvF.mono (SameList_spec (RowOf.mono hle10 rowA) rowB (by omega)) ?_)))
                  rintro _ h10 _ ⟨rfl, rfl⟩
                  repeat (refine EvO.plain rfl rfl rfl rfl rfl rfl ?_)
                  refine EvO.on rfl rfl rfl (EvP.callF rfl rfl rfl rfl (EvF.mono (wake) ?_))
                  rintro _ h11 _ ⟨rfl, rfl⟩
                  repeat (first | refine EvO.plain rfl rfl rfl rfl rfl rfl ?_ | refine EvO.nil ?_ | refine at_normal ?_ | refine EvC.ret ?_)
                  (refine ret_is (v := .bool true) rfl rfl ?_)
                  rfl
end Pf
end Go.Proofs.Ytohlmbbmeknfiaa
