/- The law's run. -/
import Derived.Test.YtfjloafebkjadaaGreatDoorPjA
import Derived.Test.YtfjloafebkjadaaGreatDoorPiD
import Derived.Test.YtfjloafebkjadaaGreatDoorPhD
import Derived.Test.YtfjloafebkjadaaGreatDoorPfL
namespace Go.Proofs.YtfjloafebkjadaaGreatDoor
namespace Pf
open Go Go.AI Go.Proofs
variable {gt : Tree (List AV)}
theorem EvP_appendLines {σ : Nat → AV} {h G : AH} {col : Nat → Nat} {cl : Call} {s y : Operand} {ts : List TypeId} {c : Nat} {v x : AV} {ls : List (Int × Int × Int)} {Q : AV → AH → Prop} (S : HS G h col) (V : Vec col c h 43 3 v 0 []) (h0 : c ≠ 0) (hv0 : ∃ id, v = .slice id 0 0 0 true) (row : LinesAt h x ls) (nz : NZ x) (hl : ls.length ≤ 2 ^ 20)
    (hcl : cl.callee = .builtin .append) (hts : cl.argTypes.toList = 40 :: 40 :: ts) (hargs : cl.args.toList = [s, y]) (hv : evf σ s = v) (hy : evf σ y = x)
    (H : ∀ v' h1 col1, Step (fun x => x = c) col h col1 h1 → HS G h1 col1 → Vec col1 c h1 43 3 v' ls.length (ls.flatMap lineC) → Q v' h1) : EvP (TT gt) X (.call cl) σ h Q := by
  have hOB := Nat.eq_zero_or_pos ls.length
  rcases hOB with hk | hk
  · have hOB : ls = [] := List.eq_nil_of_length_eq_zero hk
    obtain rfl := hOB
    refine EvP.eff (v := v) (h' := h) (by simp only [kindOf, hcl]) ?_ (Nat.le_refl _) (H v h col (Step.refl S) S V)
    have hx : alenOf x = some 0 ∧ afirst h 3 0 x = some [] := by
      unfold LinesAt at row
      generalize hn : ([] : List (Int × Int × Int)).length = n at row
      cases row with
      | nil => exact ⟨rfl, rfl⟩
      | empty => exact ⟨rfl, rfl⟩
      | @mk id off _ cap ex cs _ hc hg =>
        have hn : n = 0 := hn.symm
        subst hn
        have : off = 0 := nz
        subst this
        exact ⟨rfl, by simp [afirst, hc, sub]⟩
    obtain ⟨id, rfl⟩ := hv0
    have hap : aappend (TT gt) h 40 40 (.slice id 0 0 0 true) x = some (.slice id 0 0 0 true, h) := by
      have d1 : descOf (TT gt) 40 = .slice 43 := rfl
      have d2 : (TT gt).tt.get 43 = some ti43 := rfl
      have d3 : ti43.size = 3 := rfl
      simp only [aappend, d1, d2, d3, hx.1, hx.2]
      rfl
    simp only [feff, hcl, hts, hargs, hv, hy, hap, rb, Option.map_some]
  · have hOB := lines_first row hk
    obtain ⟨a1, a2⟩ := hOB
    have hlen : ∀ l : List (Int × Int × Int), (l.flatMap lineC).length = l.length * 3 := fun l => by
      induction l with
      | nil => rfl
      | cons x l ih => rw [List.flatMap_cons, List.length_append, ih]; simp [lineC]; omega
    have hsc : ∀ l : List (Int × Int × Int), (l.flatMap lineC).all Go.AI.scalar = true := fun l => by
      induction l with
      | nil => rfl
      | cons x l ih => rw [List.flatMap_cons, List.all_append, ih]; rfl
    refine EvP.appendC S V h0 hcl hts hargs hv hy rfl rfl rfl rfl (by decide) rfl a1 a2 (hlen ls) hk (hsc ls) (by show (0 + ls.length) * 24 ≤ 70368744177664; omega) (by omega) (fun v' h1 col1 A S1 V1 => ?_)
    rw [Nat.zero_add, List.nil_append] at V1
    exact H v' h1 col1 A S1 V1
theorem line_ne (a b c : Int) : abinOp (TT gt) .neq false 43 (.agg [.int .i64 a, .int .i64 b, .int .i64 c]) (.agg [.int .i64 a, .int .i64 b, .int .i64 c]) = some (.bool false) := by
  have e1 : ∀ x : Int, aeq (TT gt) 8 3 (.int .i64 x) (.int .i64 x) = some true := fun x => by
    show (if IntKind.i64 = IntKind.i64 then some (x == x) else none) = _
    rw [if_pos rfl, beq_self_eq_true]
  have e2 : aeq (TT gt) 9 43 (.agg [.int .i64 a, .int .i64 b, .int .i64 c]) (.agg [.int .i64 a, .int .i64 b, .int .i64 c]) = some true := by
    show aeqList (TT gt) (aeq (TT gt) 8) [.int .i64 a, .int .i64 b, .int .i64 c] [.int .i64 a, .int .i64 b, .int .i64 c] [(3, 0), (3, 1), (3, 2)] = some true
    have p0 : apart (TT gt) 3 [.int .i64 a, .int .i64 b, .int .i64 c] 0 = some (.int .i64 a) := rfl
    have p1 : apart (TT gt) 3 [.int .i64 a, .int .i64 b, .int .i64 c] 1 = some (.int .i64 b) := rfl
    have p2 : apart (TT gt) 3 [.int .i64 a, .int .i64 b, .int .i64 c] 2 = some (.int .i64 c) := rfl
    simp only [aeqList, p0, p1, p2, e1]
  simp only [abinOp, aeqTop, e2]
  rfl
theorem alen_of {h : AH} {v : AV} {m : Nat} (hv : v = .nilSlice ∧ m = 0 ∨ v = .eslice ∧ m = 0 ∨ ∃ id o cap ex, v = .slice id o m cap ex) : alen (TT gt) h 22 v = some (.int .i64 m) := by
  rcases hv with ⟨rfl, rfl⟩ | ⟨rfl, rfl⟩ | ⟨id, o, cap, ex, rfl⟩ <;> rfl
/-- What Follow made, while it is written to. -/
structure Made (k : Nat) (h : AH) (v : AV) (m : Nat) (g : Nat → AV) : Prop where
  len : v = .nilSlice ∧ m = 0 ∨ v = .eslice ∧ m = 0 ∨ ∃ id o cap ex, v = .slice id o m cap ex
  top : 0 < m → ∃ id o cap ex cs, v = .slice id o m cap ex ∧ h.t.get id = some (.cells cs 35 false) ∧ ∀ i, i < m → cs[o + i]? = some (g i)
  rows : ∀ i, i < m → g i = .nilSlice ∨ ∃ id n cap ex cs, g i = .slice id 0 n cap ex ∧ k ≤ id ∧ h.t.get id = some (.cells cs 3 false) ∧ n ≤ cs.length ∧ n ≤ 2 ^ 40
theorem Made.store {k : Nat} {h h1 : AH} {v : AV} {m : Nat} {g : Nat → AV} (M : Made k h v m g) {id : Nat} {cs cs' : List AV} (e : h.t.get id = some (.cells cs 3 false)) (e1 : h1.t.get id = some (.cells cs' 3 false)) (hl : cs'.length = cs.length) (ho : ∀ j, j ≠ id → h1.t.get j = h.t.get j) : Made k h1 v m g where
  len := M.len
  top := fun h0 => by
    have hOB := M.top h0
    obtain ⟨i, o, cap, ex, cs2, h2, h3, h4⟩ := hOB
    refine ⟨i, o, cap, ex, cs2, h2, ?_, h4⟩
    rw [ho i (fun e' => by rw [e', e] at h3; cases h3)]; exact h3
  rows := fun i hi => by
    have hOB := M.rows i hi
    rcases hOB with h2 | ⟨j, n, cap, ex, cs2, h2, h3, h4, h5⟩
    · exact .inl h2
    · right
      by_cases e' : j = id
      · subst e'
        rw [e] at h4
        cases h4
        exact ⟨j, n, cap, ex, cs', h2, h3, e1, by rw [hl]; exact h5.1, h5.2⟩
      · exact ⟨j, n, cap, ex, cs2, h2, h3, by rw [ho j e']; exact h4, h5⟩
theorem Made.of_nil {k : Nat} {h : AH} : Made k h .nilSlice 0 (fun _ => .undef) := ⟨.inl ⟨rfl, rfl⟩, fun e => absurd e (Nat.not_lt_zero _), fun i hi => absurd hi (Nat.not_lt_zero _)⟩
theorem Made.of_own {k : Nat} {h : AH} {v : AV} {m : Nat} (hc : Cutt h v m) (ho : OwnL k h v m) : ∃ g, Made k h v m g := by
  obtain ⟨g, row, hg⟩ := ho
  refine ⟨g, ?_, fun h0 => ?_, fun i hi => ?_⟩
  · cases row with
    | nil => exact .inl ⟨rfl, rfl⟩
    | empty => exact .inr (.inl ⟨rfl, rfl⟩)
    | mk _ _ => exact .inr (.inr ⟨_, _, _, _, rfl⟩)
  · rcases hc with h' | ⟨id, o, cap, ex, cs, rfl, h2, h3, h4⟩
    · omega
    · refine ⟨id, o, cap, ex, cs, rfl, h2, fun i hi => ?_⟩
      cases row with
      | mk hc hg2 =>
        unfold cellsOf at hc
        rw [h2] at hc
        cases hc
        have hOB := sub_one (hg2 i hi)
        obtain ⟨x, y1, y2⟩ := hOB
        injection y1 with y1 _
        rw [lget_eq, Nat.mul_one] at y2
        rw [y2, y1]
  · have hOB := hg i hi
    obtain ⟨n, cells, V, hn, hk⟩ := hOB
    have key : ∀ w, g i = w → Vec (fun _ => 0) 0 h 3 1 w n cells → (∀ id off m cap ex, w = .slice id off m cap ex → k ≤ id) → g i = .nilSlice ∨ ∃ id n cap ex cs, g i = .slice id 0 n cap ex ∧ k ≤ id ∧ h.t.get id = some (.cells cs 3 false) ∧ n ≤ cs.length ∧ n ≤ 2 ^ 40 := fun w hw V hk => by
      cases V with
      | nil => exact .inl hw
      | @mk id _ cap ex _ tail hgt _ hc2 _ => exact .inr ⟨id, n, cap, ex, cells ++ tail, hw, hk id 0 n cap ex rfl, hgt, by simp; omega, hn⟩
    exact key _ rfl V hk
theorem Made.say {k : Nat} {h : AH} {n : Int} {L : List (List Int)} {ls : List (Int × Int × Int)} {r : AV} (f : FollowSays n L ls r h) (hz : ∀ v e, r = .tuple [v, e] → (Cutt h v ls.length ∧ OwnL k h v ls.length) ∨ v = .nilSlice) : ∃ v e m g, r = .tuple [v, .int .i64 e] ∧ Made k h v m g ∧ m ≤ ls.length := by
  have key : ∃ v e, r = .tuple [v, .int .i64 e] := by
    rcases f with ⟨_, rfl⟩ | ⟨_, _, _, rfl⟩ | ⟨_, _, t, v, cv, _, _, _, rfl, _⟩
    · exact ⟨_, _, rfl⟩
    · exact ⟨_, _, rfl⟩
    · exact ⟨_, _, rfl⟩
  obtain ⟨v, e, rfl⟩ := key
  have hOB := hz v _ rfl
  rcases hOB with ⟨h1, h2⟩ | rfl
  · have hOB := Made.of_own h1 h2
    obtain ⟨g, M⟩ := hOB
    exact ⟨v, e, _, g, rfl, M, Nat.le_refl _⟩
  · exact ⟨_, e, 0, _, rfl, Made.of_nil, Nat.zero_le _⟩
def colF (k n : Nat) : Nat → Nat := fun i => if k ≤ i ∧ i < n then 1 else 0
theorem HS.since {h h' : AH} (hw : WF h) (hl : h.le h') (hw' : WF h') : HS h h' (colF h.next h'.next) where
  wf := hw'
  le := hl
  ro := fun i o e => by unfold colF; rw [if_neg (by have := hw.lt e; omega)]
  fresh := fun i hi => by unfold colF; rw [if_neg (by omega)]
set_option maxHeartbeats 40000000 in
theorem own_law {h : AH} (hw : WF h) {n : Int} {cl pv lv : AV} {L P : List (List Int)} {ls : List (Int × Int × Int)} {cv pc : Nat → AV} (C : CnfAt h n cl L cv) (D : CnfAt h n pv P pc) (nc : NZ cl) (np : NZ pv) (nzc : ∀ i, i < L.length → NZ (cv i)) (nzp : ∀ i, i < P.length → NZ (pc i)) (row : LinesAt h lv ls) (nl : NZ lv) (hlv : ∀ x ∈ ls, x.2.2 ≤ 9223372036854775807) (hb : total L + total P ≤ 2 ^ 60) (hm : L.length + P.length ≤ 2 ^ 29) :
    EvF (TT gt) X 8 [.agg [.int .i64 n, cl], pv, lv] h (fun r _ => r = .bool true) := by
  have wake : ∀ {h' : AH}, EvF (TT gt) X 16 [] h' (fun r h'' => h'' = h' ∧ r = .bool true) := awake_spec
  refine EvF.enter rfl rfl rfl ?_
  repeat (first | refine EvC.seq ?_ | refine EvC.region rfl ?_)
  (refine EvO.cons rfl rfl rfl (EvP.new (b := .cells [.int .i64 n, cl] 24 false) (mk := .ptr) rfl rfl hw (fun h1 b hg1 hb1 hfr => ?_)))
  have f1 := loadAgg (T := TT gt) (t := 24) (off := 0) (n := 2) (r := [.int .i64 n, cl]) hb1 rfl rfl
  repeat (first | refine EvO.plain rfl rfl rfl rfl rfl rfl ?_ | refine EvO.plain rfl rfl rfl rfl rfl (by assumption) ?_ | refine EvC.seq ?_ | refine EvC.region rfl ?_ | refine EvO.nil ?_ | refine at_normal ?_)
  (refine EvO.cons rfl rfl rfl (EvP.callF rfl rfl rfl rfl (EvF.mono (few27_spec hg1.wf (C.mono hg1.le) (D.mono hg1.le) nc np hb hm) ?_)))
  rintro _ h2 hn2 ⟨⟨hl2, hw2⟩, few, rfl, hfew⟩
  have hg2 : Grew h1 h2 := ⟨hl2, hw2, hn2⟩
  have hg := hg1.trans hg2
  clear f1
  have b2 := hg2.le _ _ hb1
  cases few with
  | false =>
    repeat (first | refine EvO.plain rfl rfl rfl rfl rfl rfl ?_ | refine EvO.nil ?_ | refine at_normal ?_ | refine EvO.off rfl rfl rfl ?_)
    refine EvC.cond (t := true) rfl (fun _ => ?_) (fun e => nomatch e)
    repeat (first | refine EvC.seq ?_ | refine EvC.region rfl ?_)
    (refine EvO.cons rfl rfl rfl (EvP.callF rfl rfl rfl rfl (EvF.mono (wake) ?_)))
    rintro _ h3 _ ⟨rfl, rfl⟩
    repeat (first | refine EvO.plain rfl rfl rfl rfl rfl rfl ?_ | refine EvO.nil ?_ | refine at_normal ?_ | refine EvC.ret ?_ | refine at_ret ?_)
    (refine ret_is (v := .bool true) rfl rfl ?_)
    rfl
  | true =>
    have hOB := hfew rfl
    obtain ⟨s1, s2, s3, s4⟩ := hOB
    have ll := RowOf.len_any (T := TT gt) (t := 40) row rfl h2
    repeat (first | refine EvO.plain rfl rfl rfl rfl rfl rfl ?_ | refine EvO.plainOn rfl rfl rfl rfl rfl rfl ?_ | refine EvO.plainOn rfl rfl rfl rfl rfl (by assumption) ?_)
    (refine EvO.on rfl rfl rfl (EvP.bool rfl rfl (fun q1 => ?_) (fun q1 => ?_)))
    · have q1 := of_decide_eq_true q1
      repeat (first | refine EvO.plain rfl rfl rfl rfl rfl rfl ?_ | refine EvO.nil ?_ | refine at_normal ?_)
      refine EvC.cond (t := true) rfl (fun _ => ?_) (fun e => nomatch e)
      repeat (first | refine EvC.seq ?_ | refine EvC.region rfl ?_)
      (refine EvO.cons rfl rfl rfl (EvP.callF rfl rfl rfl rfl (EvF.mono (wake) ?_)))
      rintro _ h3 _ ⟨rfl, rfl⟩
      repeat (first | refine EvO.plain rfl rfl rfl rfl rfl rfl ?_ | refine EvO.nil ?_ | refine at_normal ?_ | refine EvC.ret ?_ | refine at_ret ?_)
      (refine ret_is (v := .bool true) rfl rfl ?_)
      rfl
    · have q1 := of_decide_eq_false q1
      have q1 : ls.length ≤ 60 := by omega
      clear ll
      have f2 := loadAgg (T := TT gt) (t := 24) (off := 0) (n := 2) (r := [.int .i64 n, cl]) b2 rfl rfl
      have hLl : ∀ l ∈ L, l.length ≤ 2 ^ 36 := fun l hl => by have := len_total hl; omega
      have hPl : ∀ l ∈ P, l.length ≤ 2 ^ 36 := fun l hl => by have := len_total hl; omega
      repeat (first | refine EvO.plain rfl rfl rfl rfl rfl rfl ?_ | refine EvO.nil ?_ | refine at_normal ?_)
      refine EvC.cond (t := false) rfl (fun e => nomatch e) (fun _ => ?_)
      repeat (first | refine EvO.plain rfl rfl rfl rfl rfl (by assumption) ?_ | refine EvC.seq ?_ | refine EvC.region rfl ?_ | refine at_normal ?_ | refine EvC.skip ?_)
      (refine EvO.cons rfl rfl rfl (EvP.callF rfl rfl rfl rfl (EvF.mono (Own_spec hg.wf (C.mono hg.le) nzc hLl (by omega)) ?_)))
      rintro _ h3 _ ⟨⟨hl3, hw3⟩, w, rfl, ⟨cw, C3⟩, nw⟩
      clear f2
      have hle3 := AH.le.trans' hg.le hl3
      repeat (refine EvO.plain rfl rfl rfl rfl rfl rfl ?_)
      (refine EvO.cons rfl rfl rfl (EvP.callF rfl rfl rfl rfl (EvF.mono (own_spec hw3 (D.mono hle3) nzp hPl (by omega)) ?_)))
      rintro q h4 _ ⟨⟨hl4, hw4⟩, ⟨pw, D4⟩, nq⟩
      have hle4 := AH.le.trans' hle3 hl4
      have S4 := HS.all hw4
      skip
      (refine EvO.cons rfl rfl rfl (EvP.newC (b := .cells [] 43 false) (mk := .slice 0 0 true) S4 1 rfl rfl (by decide) (fun h5 id5 col5 A5 S5 o5 c5 _ => ?_)))
      have V5 : Vec col5 1 h5 43 3 (.slice id5 0 0 0 true) 0 [] := .mk (tail := []) o5 c5 rfl (fun _ => ⟨Nat.le_refl _, rfl⟩)
      repeat (refine EvO.plain rfl rfl rfl rfl rfl rfl ?_)
      (refine EvO.cons rfl rfl rfl (EvP_appendLines S5 V5 (by decide) ⟨id5, rfl⟩ (RowOf.mono (AH.le.trans' hle4 S5.le) row) nl (by omega) rfl rfl rfl rfl rfl (fun mv h6 col6 A6 S6 V6 => ?_)))
      skip
      (refine EvO.cons rfl rfl rfl (EvP.newC (b := .cells [.int .i64 0, .nilSlice] 24 false) (mk := .ptr) S6 2 rfl rfl (by decide) (fun h7 p7 col7 A7 S7 o7 c7 _ => ?_)))
      have sc := C3.rows.sc
      have V7 := V6.step A7 S6.wf (by decide)
      skip
      (refine EvO.cons0 rfl rfl (EvP.storeC (v := .agg [.int .i64 n, w]) S7 2 o7 c7 (by decide) rfl rfl rfl rfl (by show ([AV.int .i64 n, w].all Go.AI.scalar) = true; rw [List.all_cons, List.all_cons, sc.2]; rfl) (by show 0 + 2 ≤ 2; decide) (fun h8 A8 S8 o8 _ _ => ?_)))
      have o8 : h8.t.get p7 = some (.cells [.int .i64 n, w] 24 false) := o8
      have row8 : LinesAt h8 mv ls := lines_row (V7.step A8 S7.wf (by decide))
      have hle8 : h4.le h8 := S8.le
      have hw8 := S8.wf
      have C8 := (C3.mono hl4).mono hle8
      have D8 := D4.mono hle8
      have C0 := C.mono (AH.le.trans' hle4 hle8)
      have D0 := D.mono (AH.le.trans' hle4 hle8)
      have row0 := RowOf.mono (AH.le.trans' hle4 hle8) row
      have b8 := hle8 _ _ (hl4 _ _ (hl3 _ _ b2))
      have f8 := loadAgg (T := TT gt) (t := 24) (off := 0) (n := 2) (r := [.int .i64 n, w]) o8 rfl rfl
      clear V7 V6 V5 A5 A6 A7 A8 S4 S5 S6 S7 o5 c5 o7 c7 S8 b2 hg2 hg1 hb1 C D row C3 D4
      repeat (first | refine EvO.plain rfl rfl rfl rfl rfl rfl ?_ | refine EvO.plain rfl rfl rfl rfl rfl (by assumption) ?_ | refine EvC.seq ?_ | refine EvC.region rfl ?_ | refine EvO.nil ?_ | refine at_normal ?_)
      (refine EvO.cons rfl rfl rfl (EvP.callF rfl rfl rfl rfl (EvF.mono (check_spec hw8 C8 D8 (by omega) (by omega)) ?_)))
      rintro _ h9 _ ⟨⟨hl9, hw9⟩, is9, e9, rfl, _⟩
      clear f8
      have f9 := loadAgg (T := TT gt) (t := 24) (off := 0) (n := 2) (r := [.int .i64 n, w]) (hl9 _ _ o8) rfl rfl
      repeat (first | refine EvO.plain rfl rfl rfl rfl rfl rfl ?_ | refine EvO.plain rfl rfl rfl rfl rfl (by assumption) ?_ | refine EvC.seq ?_ | refine EvC.region rfl ?_ | refine EvO.nil ?_ | refine at_normal ?_)
      (refine EvO.cons rfl rfl rfl (EvP.callF rfl rfl rfl rfl (EvF.mono (Core_spec hw9 (C8.mono hl9) (D8.mono hl9) nw nq s4 s1 s2 s3) ?_)))
      rintro r10 h10 _ ⟨⟨hl10, hw10⟩, _⟩
      clear f9
      have hle10 := AH.le.trans' hl9 hl10
      have f10 := loadAgg (T := TT gt) (t := 24) (off := 0) (n := 2) (r := [.int .i64 n, w]) (hle10 _ _ o8) rfl rfl
      repeat (first | refine EvO.plain rfl rfl rfl rfl rfl rfl ?_ | refine EvO.plain rfl rfl rfl rfl rfl (by assumption) ?_ | refine EvC.seq ?_ | refine EvC.region rfl ?_ | refine EvO.nil ?_ | refine at_normal ?_)
      (refine EvO.cons rfl rfl rfl (EvP.callF rfl rfl rfl rfl (EvF.mono (Expand_spec hw10 (C8.mono hle10) (D8.mono hle10) s4 s1 s2 s3) ?_)))
      rintro r11 h11 _ ⟨⟨hl11, hw11⟩, _⟩
      clear f10
      have hle11 := AH.le.trans' hle10 hl11
      have f11 := loadAgg (T := TT gt) (t := 24) (off := 0) (n := 2) (r := [.int .i64 n, w]) (hle11 _ _ o8) rfl rfl
      repeat (first | refine EvO.plain rfl rfl rfl rfl rfl rfl ?_ | refine EvO.plain rfl rfl rfl rfl rfl (by assumption) ?_ | refine EvC.seq ?_ | refine EvC.region rfl ?_ | refine EvO.nil ?_ | refine at_normal ?_)
      (refine EvO.cons rfl rfl rfl (EvP.callF rfl rfl rfl rfl (EvF.mono (Follow_spec hw11 (C8.mono hle11) nw (RowOf.mono hle11 row8) hlv) ?_)))
      rintro r12 h12 hn12 ⟨⟨hl12, hw12⟩, hf, hz⟩
      clear f11
      have hM := Made.say hf hz
      obtain ⟨mk, e12, m, g, rfl, M, hmm⟩ := hM
      clear hf hz
      have hle12 := AH.le.trans' hle11 hl12
      have lm := RowOf.len_any (T := TT gt) (t := 40) row8 rfl h12
      repeat (first | refine EvO.plain rfl rfl rfl rfl rfl rfl ?_ | refine EvO.plain rfl rfl rfl rfl rfl (by assumption) ?_ | refine EvC.seq ?_ | refine EvC.region rfl ?_ | refine EvO.nil ?_ | refine at_normal ?_ | refine EvC.block ?_)
      clear lm
      refine EvC.loop (fun c σ h' => ∃ (i : Nat) (E : Nat → AV), h' = h12 ∧ i ≤ ls.length ∧ c = ls.length - i ∧ σ = upds [(1, pv), (2, lv), (3, .ptr b 0), (7, .ptr p7 0), (8, q), (9, mv), (10, mk), (48, .int .i64 ls.length), (49, .int .i64 i)] E) (ls.length) ?_ ?_
      · exact ⟨0, _, rfl, Nat.zero_le _, rfl, hold ⟨rfl, rfl, rfl, rfl, rfl, rfl, rfl, rfl, rfl, trivial⟩⟩
      · rintro c _ h13 ⟨i, E, rfl, hi, rfl, rfl⟩
        repeat (first | refine EvO.plain rfl rfl rfl rfl rfl rfl ?_ | refine EvC.seq ?_ | refine EvC.region rfl ?_ | refine EvO.nil ?_ | refine at_normal ?_)
        refine EvC.decide rfl (fun hc => ?_) (fun hc => ?_)
        · have hlt : i < ls.length := by omega
          have hOB := (RowOf.mono hle12 row8).atN (T := TT gt) (t := 40) (e := 43) rfl rfl rfl rfl (k := .i64) (i := i) (by omega) (by omega)
          obtain ⟨p1, i1, i2⟩ := hOB
          have hOB := (RowOf.mono hle12 row0).atN (T := TT gt) (t := 40) (e := 43) rfl rfl rfl rfl (k := .i64) (i := i) (by omega) (by omega)
          obtain ⟨p2, j1, j2⟩ := hOB
          rw [Int.toNat_natCast] at i2 j2
          have lne := line_ne (gt := gt) (ls.getD i ln0).1 (ls.getD i ln0).2.1 (ls.getD i ln0).2.2
          repeat (first | refine EvO.plain rfl rfl rfl rfl rfl rfl ?_ | refine EvC.seq ?_ | refine EvC.region rfl ?_ | refine EvO.nil ?_ | refine at_normal ?_ | refine EvC.skip ?_ | refine EvC.block ?_)
          refine EvC.drawn (p := [⟨0, false, 0, 0⟩, ⟨1, false, 0, 0⟩, ⟨2, false, 0, 0⟩, ⟨3, false, 0, 0⟩, ⟨4, false, 0, 0⟩, ⟨5, false, 0, 0⟩, ⟨6, false, 0, 0⟩, ⟨7, false, 0, 0⟩, ⟨8, false, 0, 0⟩]) rfl (by kernel_rfl) (by kernel_rfl) rfl ?_
          repeat (first | refine at_normal ?_ | refine EvR.nil ?_ | refine EvR.plain rfl rfl rfl rfl rfl rfl rfl ?_ | refine EvR.plain rfl rfl rfl rfl rfl rfl (by assumption) ?_)
          refine EvC.cond (t := false) rfl (fun e => nomatch e) (fun _ => ?_)
          clear i1 i2 j1 j2 lne
          repeat (first | refine EvO.plain rfl rfl rfl rfl rfl rfl ?_ | refine EvC.region rfl ?_ | refine EvO.nil ?_ | refine at_normal ?_ | refine EvC.skip ?_ | refine be_normal ?_ | refine ro_normal ?_ | refine EvO.cons rfl rfl rfl (EvP.add64 rfl rfl (by omega) ?_))
          exact ⟨ls.length - (i + 1), by omega, i + 1, _, rfl, by omega, rfl, hold ⟨rfl, rfl, rfl, rfl, rfl, rfl, rfl, rfl, rfl, trivial⟩⟩
        · have lk : alen (TT gt) h13 22 mk = some (.int .i64 m) := alen_of M.len
          repeat (first | refine EvO.plain rfl rfl rfl rfl rfl rfl ?_ | refine EvO.plain rfl rfl rfl rfl rfl (by assumption) ?_ | refine EvC.seq ?_ | refine EvC.region rfl ?_ | refine EvO.nil ?_ | refine at_normal ?_ | refine EvC.block ?_ | refine EvC.exit ?_ | refine at_exit ?_ | refine be_same rfl ?_ | refine ro_exit ?_)
          clear lk
          refine EvC.loop (fun c σ h' => ∃ (i : Nat) (E : Nat → AV), h11.le h' ∧ WF h' ∧ h11.next ≤ h'.next ∧ Made h11.next h' mk m g ∧ i ≤ m ∧ c = m - i ∧ σ = upds [(1, pv), (2, lv), (3, .ptr b 0), (7, .ptr p7 0), (8, q), (10, mk), (63, .int .i64 m), (64, .int .i64 i)] E) (m) ?_ ?_
          · exact ⟨0, _, hl12, hw12, hn12, M, Nat.zero_le _, rfl, hold ⟨rfl, rfl, rfl, rfl, rfl, rfl, rfl, rfl, trivial⟩⟩
          · clear M hw12 hn12 hle12 hl12 hc hi
            rintro c _ h14 ⟨i, E, hl14, hw14, hn14, M, hi, rfl, rfl⟩
            repeat (first | refine EvO.plain rfl rfl rfl rfl rfl rfl ?_ | refine EvC.seq ?_ | refine EvC.region rfl ?_ | refine EvO.nil ?_ | refine at_normal ?_)
            refine EvC.decide rfl (fun hc => ?_) (fun hc => ?_)
            · have hlt : i < m := by omega
              have hr : ∃ lr : Nat, lr ≤ 2 ^ 40 ∧ (∀ h', alen (TT gt) h' 35 (g i) = some (.int .i64 lr)) ∧ (lr = 0 ∨ ∃ id cap ex, g i = .slice id 0 lr cap ex) := by
                have hOB := M.rows i hlt
                rcases hOB with e | ⟨id, n, cap, ex, cs, e, _, _, _, hn⟩
                · exact ⟨0, Nat.zero_le _, fun _ => by rw [e]; rfl, .inl rfl⟩
                · exact ⟨n, hn, fun _ => by rw [e]; rfl, .inr ⟨id, cap, ex, e⟩⟩
              obtain ⟨lr, hlr, ha, hgi⟩ := hr
              have lq := ha h14
              have htop := M.top (by omega)
              obtain ⟨idm, om, capm, exm, csm, hmk, t1, t2⟩ := htop
              have hld : ∀ {h' : AH}, h'.t.get idm = some (.cells csm 35 false) → aload (TT gt) h' 35 (.ptr idm (om + i)) = some (g i) := fun {h'} e => by
                have hx := t2 i hlt
                show (match cellsOf h' idm with | some cs => apart (TT gt) 35 cs (om + i) | none => none) = _
                unfold cellsOf
                rw [e]
                show (match (TT gt).tt.get 35 with | some i' => if i'.isAgg then (sub csm (om + i) i'.size).map AV.agg else lget csm (om + i) | none => none) = _
                show lget csm (om + i) = _
                rw [lget_eq]; exact hx
              have hix : aindexAddr (TT gt) 22 mk (.int .i64 i) = some (.ptr idm (om + i)) := by
                rw [hmk]
                show (if 0 ≤ (i : Int) ∧ (i : Int) < (m : Int) then some (AV.ptr idm (om + (i : Int).toNat * 1)) else none) = _
                rw [if_pos ⟨by omega, by omega⟩, Int.toNat_natCast, Nat.mul_one]
              have hl1 := hld t1
              repeat (first | refine EvO.plain rfl rfl rfl rfl rfl rfl ?_ | refine EvO.plain rfl rfl rfl rfl rfl (by assumption) ?_ | refine EvC.seq ?_ | refine EvC.region rfl ?_ | refine EvO.nil ?_ | refine at_normal ?_ | refine EvC.skip ?_ | refine EvC.block ?_)
              clear hl1 lq
              refine EvC.loop (fun c σ h' => ∃ (j : Nat) (E : Nat → AV), h11.le h' ∧ WF h' ∧ h11.next ≤ h'.next ∧ Made h11.next h' mk m g ∧ h'.t.get idm = some (.cells csm 35 false) ∧ j ≤ lr ∧ c = lr - j ∧ σ = upds [(1, pv), (2, lv), (3, .ptr b 0), (7, .ptr p7 0), (8, q), (10, mk), (13, .int .i64 i), (63, .int .i64 m), (64, .int .i64 i), (71, .int .i64 lr), (72, .int .i64 j)] E) (lr) ?_ ?_
              · exact ⟨0, _, hl14, hw14, hn14, M, t1, Nat.zero_le _, rfl, hold ⟨rfl, rfl, rfl, rfl, rfl, rfl, rfl, rfl, rfl, rfl, rfl, trivial⟩⟩
              · clear M hl14 hw14 hn14 hc t1
                rintro c _ h15 ⟨j, E, hl15, hw15, hn15, M, t1, hj, rfl, rfl⟩
                repeat (first | refine EvO.plain rfl rfl rfl rfl rfl rfl ?_ | refine EvC.seq ?_ | refine EvC.region rfl ?_ | refine EvO.nil ?_ | refine at_normal ?_)
                refine EvC.decide rfl (fun hc => ?_) (fun hc => ?_)
                · have hjl : j < lr := by omega
                  have hl1 := hld t1
                  have hOB := M.rows i hlt
                  rcases hOB with e | ⟨id, n', cap, ex, cs, e, hid, hget, hle, hn'⟩
                  · rcases hgi with h' | ⟨id', cap', ex', h'⟩
                    · omega
                    · rw [e] at h'; cases h'
                  · have hnl : n' = lr := by
                      rcases hgi with h' | ⟨id', cap', ex', h'⟩
                      · omega
                      · rw [e] at h'; injection h' with _ _ h'
                    have hjx : aindexAddr (TT gt) 35 (g i) (.int .i64 j) = some (.ptr id j) := by
                      rw [e]
                      show (if 0 ≤ (j : Int) ∧ (j : Int) < (n' : Int) then some (AV.ptr id (0 + (j : Int).toNat * 1)) else none) = _
                      rw [if_pos ⟨by omega, by omega⟩, Int.toNat_natCast, Nat.mul_one, Nat.zero_add]
                    have S15 := HS.since hw11 hl15 hw15
                    have hcol : colF h11.next h15.next id = 1 := by
                      unfold colF; rw [if_pos ⟨hid, hw15.lt hget⟩]
                    repeat (first | refine EvO.plain rfl rfl rfl rfl rfl rfl ?_ | refine EvO.plain rfl rfl rfl rfl rfl (by assumption) ?_ | refine EvC.seq ?_ | refine EvC.region rfl ?_ | refine EvO.nil ?_ | refine at_normal ?_ | refine EvC.skip ?_ | refine EvC.block ?_)
                    (refine EvO.cons0 rfl rfl (EvP.store1 (u := .int .i64 7) S15 1 hget hcol (by decide) rfl rfl rfl rfl ⟨rfl, rfl⟩ (by omega) (fun h16 A16 S16 o16 hoth hnx => ?_)))
                    clear hl1 hjx
                    repeat (first | refine EvO.plain rfl rfl rfl rfl rfl rfl ?_ | refine EvC.region rfl ?_ | refine EvO.nil ?_ | refine at_normal ?_ | refine be_normal ?_ | refine ro_normal ?_ | refine EvO.cons rfl rfl rfl (EvP.add64 rfl rfl (by omega) ?_))
                    have hne : idm ≠ id := fun e' => by rw [e', hget] at t1; cases t1
                    exact ⟨lr - (j + 1), by omega, j + 1, _, S16.le, S16.wf, by omega, M.store hget o16 (by rw [lset_eq, List.length_set]) hoth, by rw [hoth idm hne]; exact t1, by omega, rfl, hold ⟨rfl, rfl, rfl, rfl, rfl, rfl, rfl, rfl, rfl, rfl, rfl, trivial⟩⟩
                · repeat (first | refine EvO.plain rfl rfl rfl rfl rfl rfl ?_ | refine EvC.region rfl ?_ | refine EvO.nil ?_ | refine at_normal ?_ | refine EvC.exit ?_ | refine at_exit ?_ | refine be_same rfl ?_ | refine ro_exit ?_ | refine be_normal ?_ | refine ro_normal ?_ | refine EvO.cons rfl rfl rfl (EvP.add64 rfl rfl (by omega) ?_))
                  exact ⟨m - (i + 1), by omega, i + 1, _, hl15, hw15, hn15, M, by omega, rfl, hold ⟨rfl, rfl, rfl, rfl, rfl, rfl, rfl, rfl, trivial⟩⟩
            · have hle14 := AH.le.trans' hle11 hl14
              have f14 := loadAgg (T := TT gt) (t := 24) (off := 0) (n := 2) (r := [.int .i64 n, w]) (hle14 _ _ o8) rfl rfl
              have f15 := loadAgg (T := TT gt) (t := 24) (off := 0) (n := 2) (r := [.int .i64 n, cl]) (hle14 _ _ b8) rfl rfl
              repeat (first | refine EvO.plain rfl rfl rfl rfl rfl (by assumption) ?_ | refine EvC.seq ?_ | refine EvC.region rfl ?_ | refine at_normal ?_ | refine EvC.exit ?_ | refine at_exit ?_ | refine be_same rfl ?_ | refine ro_exit ?_)
              (refine EvO.cons rfl rfl rfl (EvP.callF rfl rfl rfl rfl (EvF.mono (Same_spec hw14 (C8.mono hle14) (C0.mono hle14)) ?_)))
              rintro _ h15 _ ⟨⟨hl15, hw15⟩, rfl⟩
              have hle15 := AH.le.trans' hle14 hl15
              repeat (first | refine EvO.plain rfl rfl rfl rfl rfl rfl ?_ | refine EvO.plainOn rfl rfl rfl rfl rfl rfl ?_)
              refine EvO.on rfl rfl rfl (EvP.callF rfl rfl rfl rfl (EvF.mono (sameClauses_spec (D8.mono hle15) (D0.mono hle15)) ?_))
              rintro _ h15 _ ⟨rfl, rfl⟩
              repeat (refine EvO.plain rfl rfl rfl rfl rfl rfl ?_)
              refine EvO.on rfl rfl rfl (EvP.callF rfl rfl rfl rfl (EvF.mono (wake) ?_))
              rintro _ h16 _ ⟨rfl, rfl⟩
              repeat (first | refine EvO.plain rfl rfl rfl rfl rfl rfl ?_ | refine EvO.nil ?_ | refine at_normal ?_ | refine EvC.ret ?_)
              (refine ret_is (v := .bool true) rfl rfl ?_)
              rfl
end Pf
end Go.Proofs.YtfjloafebkjadaaGreatDoor
