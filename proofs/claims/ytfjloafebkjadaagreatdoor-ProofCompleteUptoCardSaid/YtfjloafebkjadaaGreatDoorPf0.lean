/- What the functions about sets of clauses answer, of any arguments. -/
import Derived.Test.YtfjloafebkjadaaGreatDoorAIAuto
import Derived.Test.YtfjloafebkjadaaGreatDoorAISort
import Derived.Test.YtfjloafebkjadaaGreatDoorAIEmb
import Derived.Test.YtfjloafebkjadaaGreatDoorTabs
import Derived.KernelRfl
import Derived.LaidLaws
namespace Go.Proofs.YtfjloafebkjadaaGreatDoor
namespace Pf
open Go Go.AI Go.Proofs
structure Facts (T : Tab) : Prop where
  i3 : T.tt.get 3 = some ⟨.int .i64, 1, 8, [.int .i64 0], .int .i64 0, false, true⟩
  i4 : T.tt.get 4 = some ⟨.bool, 1, 1, [.bool false], .bool false, false, true⟩
  i22 : T.tt.get 22 = some ⟨.slice 35, 1, 24, [.nilSlice], .nilSlice, false, true⟩
  i35 : T.tt.get 35 = some ⟨.slice 3, 1, 24, [.nilSlice], .nilSlice, false, true⟩
  d35 : descOf T 35 = .slice 3
  d22 : descOf T 22 = .slice 35
  xt : T.xt = .leaf
  i24 : (T.tt.get 24).isSome = true
  a24 : (match T.tt.get 24 with | some i => i.isAgg && Nat.beq i.size 2 | none => false) = true
  s25 : (T.tt.get 25).isSome = true
  fa0 : ∀ id off, afieldAddr T 24 (.ptr id off) 0 = some (.ptr id off)
  fa1 : ∀ id off, afieldAddr T 24 (.ptr id off) 1 = some (.ptr id (off + 1))
  d25 : descOf T 25 = .slice 4
  i25 : T.tt.get 25 = some ⟨.slice 4, 1, 24, [.nilSlice], .nilSlice, false, true⟩
  ft15 : T.ft.get 15 = some (af Tryz.f15)
  ft18 : T.ft.get 18 = some (af Tryz.f18)
  ft30 : T.ft.get 30 = some (af Tryz.f30)
  ft53 : T.ft.get 53 = some (af Tryz.f53)
  ft66 : T.ft.get 66 = some (af Tryz.f66)
  ft68 : T.ft.get 68 = some (af Tryz.f68)
  ft81 : T.ft.get 81 = some (af Tryz.f81)
  ft63 : T.ft.get 63 = some (af Tryz.f63)
  ft94 : T.ft.get 94 = some (af Tryz.f94)
  ft93 : T.ft.get 93 = some (af Tryz.f93)
  ft98 : T.ft.get 98 = some (af Tryz.f98)
  ft125 : T.ft.get 125 = some (af Tryz.f125)
  ft129 : T.ft.get 129 = some (af Tryz.f129)
theorem facts (gt : Tree (List AV)) : Facts (TT gt) where
  i3 := rfl
  i4 := rfl
  i22 := rfl
  i35 := rfl
  d35 := rfl
  d22 := rfl
  xt := rfl
  i24 := rfl
  a24 := rfl
  s25 := rfl
  fa0 := fun _ _ => rfl
  fa1 := fun _ _ => rfl
  d25 := rfl
  i25 := rfl
  ft15 := rfl
  ft18 := rfl
  ft30 := rfl
  ft53 := rfl
  ft66 := rfl
  ft68 := rfl
  ft81 := rfl
  ft63 := rfl
  ft94 := rfl
  ft93 := rfl
  ft98 := rfl
  ft125 := rfl
  ft129 := rfl
variable {TT : Tab}
abbrev X : Oracle := sortX 126 127 cfZ (trueX 16)
def IntRow (h : AH) (v : AV) (l : List Int) : Prop := RowOf h 1 v l.length (fun i => [.int .i64 (l.getD i 0)])
def ok (n x : Int) : Prop := x ≠ 0 ∧ -n ≤ x ∧ x ≤ n
instance (n x : Int) : Decidable (ok n x) := by unfold ok; infer_instance
theorem Facts.no (F : Facts TT) (f : Nat) : TT.xt.get f = none := by rw [F.xt]; exact Tree.get_leaf f
variable (F : Facts TT)
include F
theorem lit_spec {h : AH} (x n : Int) (hn : 0 ≤ n ∧ n ≤ 1000000) :
    EvF TT X 68 [.int .i64 x, .int .i64 n] h (fun v h' => h' = h ∧ v = .bool (decide (ok n x))) := by
  refine EvF.enter F.ft68 rfl rfl ?_
  refine EvC.seq ?_
  refine EvC.region rfl ?_
  refine EvO.cons rfl rfl rfl (EvP.quiet rfl rfl ?_) -- t4 := assign [bool false] @ref.go:15
  refine EvO.nil ?_
  refine at_normal (?_)
  refine EvC.seq ?_
  refine EvC.region rfl ?_
  refine EvO.cons rfl rfl rfl (EvP.quiet rfl rfl ?_) -- t5 := move [t0] @ref.go:15
  have neg : some (AV.int .i64 (IntKind.i64.wrap (0 - n))) = some (.int .i64 (-n)) := by rw [sub64 (by omega)]; simp
  have fin : ∀ b : Bool, b = decide (ok n x) → ∀ σ' : Nat → AV, σ' 4 = .bool b → atEnd TT [.tmp 4] (fun v h' => h' = h ∧ v = .bool (decide (ok n x))) .ret σ' h := by
    intro b hb σ' h4
    exact ⟨[σ' 4], rfl, rfl, by rw [← hb]; exact h4⟩
  by_cases h0 : x = 0
  · refine EvO.cons rfl rfl rfl (EvP.quiet rfl (isB (p := x != 0) (q := false) (by simp [h0])) ?_) -- t6 := binOp Go.BinOp.neq :3 [t5, int (i64) 0] @ref.go:15
    refine EvO.cons rfl rfl rfl (EvP.quiet rfl rfl ?_) -- t7 := move [t6] @ref.go:15
    refine EvO.off rfl rfl rfl ?_
    refine EvO.off rfl rfl rfl ?_
    refine EvO.off rfl rfl rfl ?_
    refine EvO.off rfl rfl rfl ?_
    refine EvO.cons rfl rfl rfl (EvP.quiet rfl rfl ?_) -- t12 := pick [t7, t11, bool false] @ref.go:15
    refine EvO.cons rfl rfl rfl (EvP.quiet rfl rfl ?_) -- t13 := move [t12] @ref.go:15
    refine EvO.off rfl rfl rfl ?_
    refine EvO.off rfl rfl rfl ?_
    refine EvO.off rfl rfl rfl ?_
    refine EvO.cons rfl rfl rfl (EvP.quiet rfl rfl ?_) -- t17 := pick [t13, t16, bool false] @ref.go:15
    refine EvO.cons rfl rfl rfl (EvP.quiet rfl rfl ?_) -- t4 := assign [t17] @ref.go:15
    refine EvO.nil ?_
    refine at_normal (?_)
    refine EvC.ret ?_
    exact fin false (by simp [ok, h0]) _ rfl
  · refine EvO.cons rfl rfl rfl (EvP.quiet rfl (isB (p := x != 0) (q := true) (by simp [h0])) ?_)
    refine EvO.cons rfl rfl rfl (EvP.quiet rfl rfl ?_)
    refine EvO.on rfl rfl rfl (EvP.quiet rfl rfl ?_)
    refine EvO.on rfl rfl rfl (EvP.quiet rfl rfl ?_)
    refine EvO.on rfl rfl rfl (EvP.quiet rfl neg ?_)
    by_cases h1 : -n ≤ x
    · refine EvO.on rfl rfl rfl (EvP.quiet rfl (isB (p := decide (x ≥ -n)) (q := true) (by simp [h1])) ?_)
      refine EvO.cons rfl rfl rfl (EvP.quiet rfl rfl ?_)
      refine EvO.cons rfl rfl rfl (EvP.quiet rfl rfl ?_)
      refine EvO.on rfl rfl rfl (EvP.quiet rfl rfl ?_)
      refine EvO.on rfl rfl rfl (EvP.quiet rfl rfl ?_)
      refine EvO.on rfl rfl rfl (EvP.quiet rfl rfl ?_)
      refine EvO.cons rfl rfl rfl (EvP.quiet rfl rfl ?_)
      refine EvO.cons rfl rfl rfl (EvP.quiet rfl rfl ?_)
      refine EvO.nil ?_
      refine at_normal (?_)
      refine EvC.ret ?_
      exact fin (decide (x ≤ n)) (by simp [ok, h0, h1]) _ rfl
    · refine EvO.on rfl rfl rfl (EvP.quiet rfl (isB (p := decide (x ≥ -n)) (q := false) (by simp [h1])) ?_)
      refine EvO.cons rfl rfl rfl (EvP.quiet rfl rfl ?_)
      refine EvO.cons rfl rfl rfl (EvP.quiet rfl rfl ?_)
      refine EvO.off rfl rfl rfl ?_
      refine EvO.off rfl rfl rfl ?_
      refine EvO.off rfl rfl rfl ?_
      refine EvO.cons rfl rfl rfl (EvP.quiet rfl rfl ?_)
      refine EvO.cons rfl rfl rfl (EvP.quiet rfl rfl ?_)
      refine EvO.nil ?_
      refine at_normal (?_)
      refine EvC.ret ?_
      exact fin false (by simp [ok, h1]) _ rfl
omit F
theorem getD_all {l : List Int} {p : Int → Prop} (h : ∀ j, j < l.length → p (l.getD j 0)) : ∀ x ∈ l, p x := by
  intro x hx
  obtain ⟨j, hj, rfl⟩ := List.getElem_of_mem hx
  have := h j hj
  rwa [List.getD_eq_getElem?_getD, List.getElem?_eq_getElem hj, Option.getD_some] at this
theorem getD_mem {l : List Int} {j : Nat} (hj : j < l.length) : l.getD j 0 ∈ l := by
  rw [List.getD_eq_getElem?_getD, List.getElem?_eq_getElem hj, Option.getD_some]; exact List.getElem_mem hj
include F in
theorem clause_spec {h : AH} {v : AV} {l : List Int} (hl : IntRow h v l) (hlen : l.length ≤ 2 ^ 50) (n : Int) (hn : 0 ≤ n ∧ n ≤ 1000000) :
    EvF TT X 30 [v, .int .i64 n] h (fun r h' => h' = h ∧ r = .bool (decide (∀ x ∈ l, ok n x))) := by
  refine EvF.enter F.ft30 rfl rfl ?_
  refine EvC.seq ?_
  refine EvC.region rfl ?_
  refine EvO.cons rfl rfl rfl (EvP.quiet rfl rfl ?_)
  refine EvO.nil ?_
  refine at_normal (?_)
  refine EvC.seq ?_
  refine EvC.seq ?_
  refine EvC.region rfl ?_
  refine EvO.cons rfl rfl rfl (EvP.quiet rfl rfl ?_)
  refine EvO.cons rfl rfl rfl (EvP.quiet rfl (hl.len F.d35) ?_)
  refine EvO.cons rfl rfl rfl (EvP.quiet rfl rfl ?_)
  refine EvO.nil ?_
  refine at_normal (?_)
  refine EvC.block ?_
  refine EvC.loop (fun m σ h' => h' = h ∧ ∃ (i : Nat) (E : Nat → AV), i ≤ l.length ∧ m = l.length - i ∧ (∀ j, j < i → ok n (l.getD j 0)) ∧ σ = upds [(1, .int .i64 n), (7, v), (8, .int .i64 l.length), (9, .int .i64 i)] E) l.length ?_ ?_
  · exact ⟨rfl, 0, _, Nat.zero_le _, rfl, fun j hj => by omega, hold ⟨rfl, rfl, rfl, rfl, trivial⟩⟩
  · rintro m _ _ ⟨rfl, i, E, hi, rfl, hp, rfl⟩
    refine EvC.seq ?_
    refine EvC.region rfl ?_
    refine EvO.cons rfl rfl rfl (EvP.quiet rfl rfl ?_) -- t10 := binOp Go.BinOp.lss :3 [t9, t8] @ref.go:19
    refine EvO.nil ?_
    refine at_normal (?_)
    refine EvC.seq ?_
    refine EvC.cond rfl (fun hc => ?_) (fun hc => ?_) -- t10
    · have hc : i < l.length := by simpa using hc
      obtain ⟨p, hp1, hp2⟩ := hl.at1 F.d35 F.i3 rfl rfl (k := .i64) (i := i) (by omega) (by omega)
      refine EvC.skip ?_
      refine at_normal (?_)
      refine EvC.seq ?_
      refine EvC.block ?_
      refine EvC.seq ?_
      refine EvC.region rfl ?_
      refine EvO.cons rfl rfl rfl (EvP.quiet rfl hp1 ?_) -- t11 := indexAddr :25 [t7, t9] @ref.go:19
      refine EvO.cons rfl rfl rfl (EvP.quiet rfl hp2 ?_) -- t12 := load :3 [t11] @ref.go:19
      refine EvO.cons rfl rfl rfl (EvP.quiet rfl rfl ?_) -- t6 := assign [t12] @ref.go:19
      refine EvO.nil ?_
      refine at_normal (?_)
      refine EvC.seq ?_
      refine EvC.region rfl ?_
      refine EvO.cons rfl rfl rfl (EvP.quiet rfl rfl ?_) -- t13 := move [t6] @ref.go:20
      refine EvO.cons rfl rfl rfl (EvP.quiet rfl rfl ?_) -- t14 := move [t1] @ref.go:20
      refine EvO.cons rfl rfl rfl (EvP.callF rfl rfl (F.no 68) rfl (EvF.mono (lit_spec F _ n hn) ?_)) -- t15 := call28
      rintro _ _ hn' ⟨rfl, rfl⟩
      refine EvO.cons rfl rfl rfl (EvP.quiet rfl rfl ?_) -- t16 := unOp [t15] @ref.go:20
      refine EvO.nil ?_
      refine at_normal (?_)
      refine EvC.cond rfl (fun hc' => ?_) (fun hc' => ?_) -- t16
      · refine EvC.seq ?_
        refine EvC.region rfl ?_
        refine EvO.cons rfl rfl rfl (EvP.quiet rfl rfl ?_) -- t4 := assign [bool false] @ref.go:21
        refine EvO.nil ?_
        refine at_normal (?_)
        refine EvC.ret ?_
        refine be_ret (at_ret (ro_ret (be_ret (at_ret (end_ret rfl ⟨rfl, ?_⟩)))))
        have hno : ¬ ok n (l.getD i 0) := by simpa using hc'
        exact congrArg AV.bool (decide_eq_false (fun h => hno (h _ (getD_mem hc)))).symm
      · have hyes : ok n (l.getD i 0) := by simpa using hc'
        refine EvC.skip ?_
        refine be_normal (at_normal (?_))
        refine EvC.region rfl ?_
        refine EvO.cons rfl rfl rfl (EvP.quiet rfl (succ64 (by omega)) ?_) -- t17 := binOp Go.BinOp.add :3 [t9, int (i64) 1] @ref.go:19
        refine EvO.cons rfl rfl rfl (EvP.quiet rfl rfl ?_) -- t9 := move [t17] @ref.go:19
        refine EvO.nil ?_
        refine ro_normal ⟨l.length - (i + 1), by omega, rfl, i + 1, _, by omega, rfl, fun j hj => ?_, hold ⟨rfl, rfl, rfl, rfl, trivial⟩⟩
        rcases Nat.lt_or_ge j i with h | h
        · exact hp j h
        · obtain rfl : j = i := by omega
          exact hyes
    · have hc : i = l.length := by
        have : ¬ i < l.length := by simpa using hc
        omega
      refine EvC.exit ?_
      refine at_exit (ro_exit (be_same rfl (at_normal (?_))))
      refine EvC.seq ?_
      refine EvC.region rfl ?_
      refine EvO.cons rfl rfl rfl (EvP.quiet rfl rfl ?_) -- t4 := assign [bool true] @ref.go:24
      refine EvO.nil ?_
      refine at_normal (?_)
      refine EvC.ret ?_
      refine end_ret rfl ⟨rfl, ?_⟩
      exact congrArg AV.bool (decide_eq_true (getD_all (p := ok n) (fun j hj => hp j (by omega)))).symm
structure CnfAt (h : AH) (vars : Int) (cl : AV) (L : List (List Int)) (cv : Nat → AV) : Prop where
  rows : RowOf h 1 cl L.length (fun i => [cv i])
  ints : ∀ i, i < L.length → IntRow h (cv i) (L.getD i [])
  lens : ∀ l ∈ L, l.length ≤ 2 ^ 48
  many : L.length ≤ 2 ^ 48
theorem CnfAt.mono {h h' : AH} (hl : h.le h') {vars : Int} {cl : AV} {L : List (List Int)} {cv : Nat → AV} (c : CnfAt h vars cl L cv) : CnfAt h' vars cl L cv :=
  ⟨c.rows.mono hl, fun i hi => (c.ints i hi).mono hl, c.lens, c.many⟩
def total (L : List (List Int)) : Nat := (L.map List.length).sum
theorem total_take {L : List (List Int)} {i : Nat} (hi : i < L.length) : total (L.take (i + 1)) = total (L.take i) + (L.getD i []).length := by
  unfold total
  rw [List.take_add_one, List.getElem?_eq_getElem hi, Option.toList_some, List.map_append, List.sum_append, List.getD_eq_getElem?_getD, List.getElem?_eq_getElem hi]
  simp only [List.map_cons, List.map_nil, List.sum_cons, List.sum_nil, Option.getD_some, Nat.add_zero]
theorem total_le (L : List (List Int)) (i : Nat) : total (L.take i) ≤ total L := by
  have h : total L = total (L.take i) + total (L.drop i) := by
    unfold total; rw [← List.sum_append, ← List.map_append, List.take_append_drop]
  omega
def valid (vars : Int) (L : List (List Int)) : Prop := 0 ≤ vars ∧ vars ≤ 50000 ∧ L.length ≤ 200000 ∧ total L ≤ 1000000 ∧ ∀ i, i < L.length → ∀ x ∈ L.getD i [], ok vars x
instance (vars : Int) (L : List (List Int)) : Decidable (valid vars L) := by unfold valid; infer_instance
theorem getDL_mem {L : List (List Int)} {j : Nat} (hj : j < L.length) : L.getD j [] ∈ L := by
  rw [List.getD_eq_getElem?_getD, List.getElem?_eq_getElem hj, Option.getD_some]; exact List.getElem_mem hj
include F in
theorem refValid_spec {h : AH} (hw : WF h) {vars : Int} {cl : AV} {L : List (List Int)} {cv : Nat → AV} (C : CnfAt h vars cl L cv) :
    EvF TT X 15 [.agg [.int .i64 vars, cl]] h (fun r h' => Grew h h' ∧ r = .bool (decide (valid vars L))) := by
  refine EvF.enter F.ft15 rfl rfl ?_
  refine EvC.seq ?_
  refine EvC.region rfl ?_
  refine EvO.cons rfl rfl rfl (EvP.new rfl (box1 F.i24 rfl) hw fun h1 b hg hb hfr => ?_)
  have hb : h1.t.get b = some (.cells [.int .i64 vars, cl] 24 false) := hb
  have C := C.mono hg.le
  have L0 := load1 (off := 0) hb F.i3 rfl rfl
  have L1 := load1 (off := 1) hb F.i22 rfl rfl
  have len := C.rows.len F.d22
  refine EvO.cons rfl rfl rfl (EvP.quiet rfl rfl ?_)
  refine EvO.nil ?_
  refine at_normal (?_)
  refine EvC.seq ?_
  refine EvC.seq ?_
  refine EvC.region rfl ?_
  refine EvO.cons rfl rfl rfl (EvP.quiet rfl (F.fa0 _ _) ?_)
  refine EvO.cons rfl rfl rfl (EvP.quiet rfl L0 ?_)
  have hfin : ∀ σ' : Nat → AV, ∀ q : Bool, q = decide (valid vars L) → σ' 2 = .bool q → atEnd TT [.tmp 2] (fun r h' => Grew h h' ∧ r = .bool (decide (valid vars L))) .ret σ' h1 := by
    intro σ' q hq h2
    exact ⟨[σ' 2], rfl, hg, by rw [← hq]; exact h2⟩
  have cases4 : vars < 0 ∨ (0 ≤ vars ∧ vars > 50000) ∨ (0 ≤ vars ∧ vars ≤ 50000 ∧ L.length > 200000) ∨ (0 ≤ vars ∧ vars ≤ 50000 ∧ L.length ≤ 200000) := by omega
  rcases cases4 with hc | hc | hc | hc
  all_goals refine EvO.cons rfl rfl rfl (EvP.quiet rfl (by first | exact isB (q := true) (by simp; omega) | exact isB (q := false) (by simp; omega)) ?_)
  all_goals refine EvO.cons rfl rfl rfl (EvP.quiet rfl rfl ?_)
  all_goals first | refine EvO.off rfl rfl rfl ?_ | refine EvO.on rfl rfl rfl (EvP.quiet rfl (F.fa0 _ _) ?_)
  all_goals first | refine EvO.off rfl rfl rfl ?_ | refine EvO.on rfl rfl rfl (EvP.quiet rfl L0 ?_)
  all_goals first | refine EvO.off rfl rfl rfl ?_ | refine EvO.on rfl rfl rfl (EvP.quiet rfl (by first | exact isB (q := true) (by simp; omega) | exact isB (q := false) (by simp; omega)) ?_)
  all_goals refine EvO.cons rfl rfl rfl (EvP.quiet rfl rfl ?_)
  all_goals refine EvO.cons rfl rfl rfl (EvP.quiet rfl rfl ?_)
  all_goals first | refine EvO.off rfl rfl rfl ?_ | refine EvO.on rfl rfl rfl (EvP.quiet rfl (F.fa1 _ _) ?_)
  all_goals first | refine EvO.off rfl rfl rfl ?_ | refine EvO.on rfl rfl rfl (EvP.quiet rfl L1 ?_)
  all_goals first | refine EvO.off rfl rfl rfl ?_ | refine EvO.on rfl rfl rfl (EvP.quiet rfl len ?_)
  all_goals first | refine EvO.off rfl rfl rfl ?_ | refine EvO.on rfl rfl rfl (EvP.quiet rfl (by first | exact isB (q := true) (by simp; omega) | exact isB (q := false) (by simp; omega)) ?_)
  all_goals refine EvO.cons rfl rfl rfl (EvP.quiet rfl rfl ?_)
  all_goals refine EvO.nil ?_
  all_goals refine at_normal (?_)
  all_goals refine EvC.cond rfl (fun hc' => ?_) (fun hc' => ?_)
  all_goals first | exact absurd hc' (by decide) | skip
  · refine EvC.seq (EvC.region rfl (EvO.cons rfl rfl rfl (EvP.quiet rfl rfl (EvO.nil (at_normal (EvC.ret (at_ret (hfin _ false (decide_eq_false (fun hv => ?_)).symm rfl))))))))
    have h1 := hv.1; have h2 := hv.2.1; have h3 := hv.2.2.1; omega
  · refine EvC.seq (EvC.region rfl (EvO.cons rfl rfl rfl (EvP.quiet rfl rfl (EvO.nil (at_normal (EvC.ret (at_ret (hfin _ false (decide_eq_false (fun hv => ?_)).symm rfl))))))))
    have h1 := hv.1; have h2 := hv.2.1; have h3 := hv.2.2.1; omega
  · refine EvC.seq (EvC.region rfl (EvO.cons rfl rfl rfl (EvP.quiet rfl rfl (EvO.nil (at_normal (EvC.ret (at_ret (hfin _ false (decide_eq_false (fun hv => ?_)).symm rfl))))))))
    have h1 := hv.1; have h2 := hv.2.1; have h3 := hv.2.2.1; omega
  · refine EvC.skip ?_
    refine at_normal (?_)
    refine EvC.seq ?_
    refine EvC.region rfl ?_
    refine EvO.cons rfl rfl rfl (EvP.quiet rfl rfl ?_) -- t3 := assign [int (i64) 0] @ref.go:32
    refine EvO.nil ?_
    refine at_normal (?_)
    refine EvC.seq ?_
    refine EvC.seq ?_
    refine EvC.region rfl ?_
    refine EvO.cons rfl rfl rfl (EvP.quiet rfl (F.fa1 _ _) ?_) -- t20 := fieldAddr :24 .1 [t1] @ref.go:33
    refine EvO.cons rfl rfl rfl (EvP.quiet rfl L1 ?_) -- t21 := load :22 [t20] @ref.go:33
    refine EvO.cons rfl rfl rfl (EvP.quiet rfl len ?_) -- t22 := B.len #[22] [t21] @ref.go:33
    refine EvO.cons rfl rfl rfl (EvP.quiet rfl rfl ?_) -- t23 := move [int (i64) 0] @ref.go:33
    refine EvO.nil ?_
    refine at_normal (?_)
    refine EvC.block ?_
    refine EvC.loop (fun m σ h' => h' = h1 ∧ ∃ (i : Nat) (E : Nat → AV), i ≤ L.length ∧ m = L.length - i ∧ total (L.take i) ≤ 1000000 ∧ (∀ j, j < i → ∀ x ∈ L.getD j [], ok vars x) ∧
      σ = upds [(1, .ptr b 0), (3, .int .i64 (total (L.take i) : Nat)), (21, cl), (22, .int .i64 L.length), (23, .int .i64 i)] E) L.length ?_ ?_
    · exact ⟨rfl, 0, _, Nat.zero_le _, rfl, by simp [total], fun j hj => by omega, hold ⟨rfl, rfl, rfl, rfl, rfl, trivial⟩⟩
    · rintro m _ h2 ⟨he, i, E, hi, rfl, ht, hp, rfl⟩
      subst he
      refine EvC.seq ?_
      refine EvC.region rfl ?_
      refine EvO.cons rfl rfl rfl (EvP.quiet rfl rfl ?_) -- t24 := binOp Go.BinOp.lss :3 [t23, t22] @ref.go:33
      refine EvO.nil ?_
      refine at_normal (?_)
      refine EvC.seq ?_
      refine EvC.cond rfl (fun hc => ?_) (fun hc => ?_) -- t24
      · have hlt : i < L.length := by simpa using hc
        obtain ⟨p, hp1, hp2⟩ := C.rows.at1 F.d22 F.i35 rfl rfl (k := .i64) (i := i) (by omega) (by omega)
        have hrow : IntRow h2 (cv i) (L.getD i []) := C.ints i hlt
        have hlen : (L.getD i []).length ≤ 2 ^ 48 := C.lens _ (getDL_mem hlt)
        have htk := total_take hlt
        refine EvC.skip ?_
        refine at_normal (?_)
        refine EvC.seq ?_
        refine EvC.block ?_
        refine EvC.seq ?_
        refine EvC.region rfl ?_
        refine EvO.cons rfl rfl rfl (EvP.quiet rfl hp1 ?_) -- t25 := indexAddr :22 [t21, t23] @ref.go:33
        refine EvO.cons rfl rfl rfl (EvP.quiet rfl hp2 ?_) -- t26 := load :25 [t25] @ref.go:33
        refine EvO.cons rfl rfl rfl (EvP.quiet rfl rfl ?_) -- t5 := assign [t26] @ref.go:33
        refine EvO.nil ?_
        refine at_normal (?_)
        refine EvC.seq ?_
        refine EvC.region rfl ?_
        refine EvO.cons rfl rfl rfl (EvP.quiet rfl rfl ?_) -- t27 := move [t3] @ref.go:34
        refine EvO.cons rfl rfl rfl (EvP.quiet rfl rfl ?_) -- t28 := move [t5] @ref.go:34
        refine EvO.cons rfl rfl rfl (EvP.quiet rfl (hrow.len F.d35) ?_) -- t29 := B.len #[25] [t28] @ref.go:34
        refine EvO.cons rfl rfl rfl (EvP.quiet rfl (addN64 (by omega)) ?_) -- t30 := binOp Go.BinOp.add :3 [t27, t29] @ref.go:34
        refine EvO.cons rfl rfl rfl (EvP.quiet rfl rfl ?_) -- t3 := assign [t30] @ref.go:34
        refine EvO.nil ?_
        refine at_normal (?_)
        refine EvC.seq ?_
        refine EvC.region rfl ?_
        refine EvO.cons rfl rfl rfl (EvP.quiet rfl rfl ?_) -- t31 := move [t3] @ref.go:35
        by_cases hbig : total (L.take i) + (L.getD i []).length > 1000000
        · refine EvO.cons rfl rfl rfl (EvP.quiet rfl (isB (q := true) (decide_eq_true (by omega))) ?_)
          refine EvO.cons rfl rfl rfl (EvP.quiet rfl rfl ?_)
          refine EvO.off rfl rfl rfl ?_
          refine EvO.off rfl rfl rfl ?_
          refine EvO.off rfl rfl rfl ?_
          refine EvO.off rfl rfl rfl ?_
          refine EvO.off rfl rfl rfl ?_
          refine EvO.cons rfl rfl rfl (EvP.quiet rfl rfl ?_)
          refine EvO.nil ?_
          refine at_normal (?_)
          refine EvC.cond rfl (fun _ => ?_) (fun hc' => absurd hc' (by decide))
          refine EvC.seq (EvC.region rfl (EvO.cons rfl rfl rfl (EvP.quiet rfl rfl (EvO.nil (at_normal (EvC.ret ?_))))))
          refine be_ret (at_ret (ro_ret (be_ret (at_ret (hfin _ false (decide_eq_false (fun hv => ?_)).symm rfl)))))
          have := hv.2.2.2.1
          have := total_le L (i + 1)
          omega
        · refine EvO.cons rfl rfl rfl (EvP.quiet rfl (isB (q := false) (decide_eq_false (by omega))) ?_)
          refine EvO.cons rfl rfl rfl (EvP.quiet rfl rfl ?_)
          refine EvO.on rfl rfl rfl (EvP.quiet rfl rfl ?_)
          refine EvO.on rfl rfl rfl (EvP.quiet rfl (F.fa0 _ _) ?_)
          refine EvO.on rfl rfl rfl (EvP.quiet rfl L0 ?_)
          refine EvO.on rfl rfl rfl (EvP.callF rfl rfl (F.no 30) rfl (EvF.mono (clause_spec F hrow (by omega) vars ⟨by omega, by omega⟩) ?_))
          rintro _ _ hn ⟨rfl, rfl⟩
          by_cases hall : ∀ x ∈ L.getD i [], ok vars x
          · refine EvO.on rfl rfl rfl (EvP.quiet rfl (isB (q := false) (by simp only [decide_eq_true hall]; rfl)) ?_)
            refine EvO.cons rfl rfl rfl (EvP.quiet rfl rfl ?_)
            refine EvO.nil ?_
            refine at_normal (?_)
            refine EvC.cond rfl (fun hc' => absurd hc' (by decide)) (fun _ => ?_)
            refine EvC.skip ?_
            refine be_normal (at_normal (?_))
            refine EvC.region rfl ?_
            refine EvO.cons rfl rfl rfl (EvP.quiet rfl (succ64 (by omega)) ?_)
            refine EvO.cons rfl rfl rfl (EvP.quiet rfl rfl ?_)
            refine EvO.nil ?_
            refine ro_normal ⟨L.length - (i + 1), by omega, rfl, i + 1, _, by omega, rfl, by omega, fun j hj => ?_, hold ⟨rfl, by rw [htk]; rfl, rfl, rfl, rfl, trivial⟩⟩
            rcases Nat.lt_or_ge j i with h | h
            · exact hp j h
            · obtain rfl : j = i := by omega
              exact hall
          · refine EvO.on rfl rfl rfl (EvP.quiet rfl (isB (q := true) (by simp only [decide_eq_false hall]; rfl)) ?_)
            refine EvO.cons rfl rfl rfl (EvP.quiet rfl rfl ?_)
            refine EvO.nil ?_
            refine at_normal (?_)
            refine EvC.cond rfl (fun _ => ?_) (fun hc' => absurd hc' (by decide))
            refine EvC.seq (EvC.region rfl (EvO.cons rfl rfl rfl (EvP.quiet rfl rfl (EvO.nil (at_normal (EvC.ret ?_))))))
            exact be_ret (at_ret (ro_ret (be_ret (at_ret (hfin _ false (decide_eq_false (fun hv => hall (hv.2.2.2.2 i hlt))).symm rfl)))))
      · have hend : i = L.length := by
          have : ¬ i < L.length := by simpa using hc
          omega
        subst hend
        refine EvC.exit ?_
        refine at_exit (ro_exit (be_same rfl (at_normal (?_))))
        refine EvC.seq (EvC.region rfl (EvO.cons rfl rfl rfl (EvP.quiet rfl rfl (EvO.nil (at_normal (EvC.ret ?_))))))
        rw [List.take_length] at ht
        exact hfin _ true (decide_eq_true ⟨by omega, by omega, by omega, ht, hp⟩).symm rfl
def absI (x : Int) : Int := if x < -x then -x else x
def BoolRow (h : AH) (v : AV) (m : List Bool) : Prop := RowOf h 1 v m.length (fun i => [.bool (m.getD i false)])
def holdsB (m : List Bool) (x : Int) : Bool := m.getD (absI x - 1).toNat false == decide (x > 0)
theorem absI_ok {n x : Int} (h : ok n x) : 1 ≤ absI x ∧ absI x ≤ n := by
  unfold ok at h; unfold absI; split <;> omega
include F in
theorem var_spec {h : AH} (x : Int) (hx : -1000000 ≤ x ∧ x ≤ 1000000) : EvF TT X 81 [.int .i64 x] h (fun r h' => h' = h ∧ r = .int .i64 (absI x)) := by
  have neg : some (AV.int .i64 (IntKind.i64.wrap (0 - x))) = some (.int .i64 (-x)) := by rw [sub64 (by omega)]; simp
  refine EvF.enter F.ft81 rfl rfl ?_
  refine EvC.seq (EvC.region rfl (EvO.cons rfl rfl rfl (EvP.quiet rfl rfl (EvO.nil (at_normal ?_)))))
  refine EvC.seq (EvC.region rfl ?_)
  refine EvO.cons rfl rfl rfl (EvP.quiet rfl rfl ?_)
  refine EvO.cons rfl rfl rfl (EvP.quiet rfl rfl ?_)
  refine EvO.cons rfl rfl rfl (EvP.quiet rfl neg ?_)
  refine EvO.cons rfl rfl rfl (EvP.quiet rfl (show some (AV.int .i64 (if x < -x then -x else x)) = some (.int .i64 (absI x)) from rfl) ?_)
  refine EvO.cons rfl rfl rfl (EvP.quiet rfl rfl ?_)
  refine EvO.nil (at_normal (EvC.ret ?_))
  exact end_ret rfl ⟨rfl, rfl⟩
include F in
theorem refHolds_spec {h : AH} {v : AV} {m : List Bool} (hm : BoolRow h v m) (hlen : m.length ≤ 1000000) (x : Int) (hx : ok m.length x) : EvF TT X 53 [.int .i64 x, v] h (fun r h' => h' = h ∧ r = .bool (holdsB m x)) := by
  have ha := absI_ok hx
  obtain ⟨p, hp1, hp2⟩ := hm.at1 F.d25 F.i4 rfl rfl (k := .i64) (i := absI x - 1) (by omega) (by omega)
  have hx' : -1000000 ≤ x ∧ x ≤ 1000000 := by unfold ok at hx; omega
  refine EvF.enter F.ft53 rfl rfl ?_
  refine EvC.seq (EvC.region rfl (EvO.cons rfl rfl rfl (EvP.quiet rfl rfl (EvO.nil (at_normal ?_)))))
  refine EvC.seq (EvC.region rfl ?_)
  refine EvO.cons rfl rfl rfl (EvP.quiet rfl rfl ?_)
  refine EvO.cons rfl rfl rfl (EvP.quiet rfl rfl ?_)
  refine EvO.cons rfl rfl rfl (EvP.callF rfl rfl (F.no 81) rfl (EvF.mono (var_spec F x hx') ?_))
  rintro _ _ hn ⟨rfl, rfl⟩
  refine EvO.cons rfl rfl rfl (EvP.quiet rfl (sub64 (by omega)) ?_)
  refine EvO.cons rfl rfl rfl (EvP.quiet rfl hp1 ?_)
  refine EvO.cons rfl rfl rfl (EvP.quiet rfl hp2 ?_)
  refine EvO.cons rfl rfl rfl (EvP.quiet rfl rfl ?_)
  refine EvO.cons rfl rfl rfl (EvP.quiet rfl rfl ?_)
  refine EvO.cons rfl rfl rfl (EvP.quiet rfl (boolEq F.i4 rfl _ _) ?_)
  refine EvO.cons rfl rfl rfl (EvP.quiet rfl rfl ?_)
  refine EvO.nil (at_normal (EvC.ret ?_))
  exact end_ret rfl ⟨rfl, rfl⟩
theorem any_false {l : List Int} {p : Int → Bool} (h : ∀ j, j < l.length → p (l.getD j 0) = false) : l.any p = false := by
  rw [List.any_eq_false]
  intro x hx
  have := getD_all (p := fun x => p x = false) h x hx
  simp [this]
theorem any_true {l : List Int} {p : Int → Bool} {j : Nat} (hj : j < l.length) (h : p (l.getD j 0) = true) : l.any p = true := by
  rw [List.any_eq_true]
  exact ⟨_, getD_mem hj, h⟩
include F in
theorem indexFunc_spec {h : AH} {v : AV} {l : List Int} (hl : IntRow h v l) (hlen : l.length ≤ 2 ^ 50) {g : FuncId} {cap : List AV} (hx : TT.xt.get g = none) (p : Int → Bool)
    (hp : ∀ x ∈ l, EvF TT X g ([.int .i64 x] ++ cap) h (fun r h' => h' = h ∧ r = .bool (p x))) :
    EvF TT X 125 [v, .func g cap] h (fun r h' => h' = h ∧ ∃ k : Int, r = .int .i64 k ∧ decide (k ≥ 0) = l.any p) := by
  refine EvF.enter F.ft125 rfl rfl ?_
  refine EvC.seq (EvC.region rfl (EvO.cons rfl rfl rfl (EvP.quiet rfl rfl (EvO.nil (at_normal ?_)))))
  refine EvC.seq ?_
  refine EvC.seq ?_
  refine EvC.region rfl ?_
  refine EvO.cons rfl rfl rfl (EvP.quiet rfl rfl ?_) -- t6 := move [t0] @slices.go:108
  refine EvO.cons rfl rfl rfl (EvP.quiet rfl (hl.len F.d35) ?_) -- t7 := B.len #[25] [t6] @slices.go:108
  refine EvO.cons rfl rfl rfl (EvP.quiet rfl rfl ?_) -- t8 := move [int (i64) 0] @slices.go:108
  refine EvO.nil ?_
  refine at_normal (?_)
  refine EvC.block ?_
  refine EvC.loop (fun m σ h' => h' = h ∧ ∃ (i : Nat) (E : Nat → AV), i ≤ l.length ∧ m = l.length - i ∧ (∀ j, j < i → p (l.getD j 0) = false) ∧ σ = upds [(0, v), (1, .func g cap), (7, .int .i64 l.length), (8, .int .i64 i)] E) l.length ?_ ?_
  · exact ⟨rfl, 0, _, Nat.zero_le _, rfl, fun j hj => by omega, hold ⟨rfl, rfl, rfl, rfl, trivial⟩⟩
  · rintro m _ h2 ⟨he, i, E, hi, rfl, hq, rfl⟩
    subst he
    refine EvC.seq ?_
    refine EvC.region rfl ?_
    refine EvO.cons rfl rfl rfl (EvP.quiet rfl rfl ?_) -- t9 := binOp Go.BinOp.lss :3 [t8, t7] @slices.go:108
    refine EvO.nil ?_
    refine at_normal (?_)
    refine EvC.seq ?_
    refine EvC.cond rfl (fun hc => ?_) (fun hc => ?_) -- t9
    · have hlt : i < l.length := by simpa using hc
      obtain ⟨q, hp1, hp2⟩ := hl.at1 F.d35 F.i3 rfl rfl (k := .i64) (i := i) (by omega) (by omega)
      refine EvC.skip ?_
      refine at_normal (?_)
      refine EvC.seq ?_
      refine EvC.block ?_
      refine EvC.seq ?_
      refine EvC.region rfl ?_
      refine EvO.cons rfl rfl rfl (EvP.quiet rfl rfl ?_) -- t10 := move [t8] @slices.go:108
      refine EvO.cons rfl rfl rfl (EvP.quiet rfl rfl ?_) -- t5 := assign [t10] @slices.go:108
      refine EvO.nil ?_
      refine at_normal (?_)
      refine EvC.seq ?_
      refine EvC.region rfl ?_
      refine EvO.cons rfl rfl rfl (EvP.quiet rfl rfl ?_) -- t11 := move [t1] @slices.go:109
      refine EvO.cons rfl rfl rfl (EvP.quiet rfl rfl ?_) -- t12 := move [t0] @slices.go:109
      refine EvO.cons rfl rfl rfl (EvP.quiet rfl rfl ?_) -- t13 := move [t5] @slices.go:109
      refine EvO.cons rfl rfl rfl (EvP.quiet rfl hp1 ?_) -- t14 := indexAddr :25 [t12, t13] @slices.go:109
      refine EvO.cons rfl rfl rfl (EvP.quiet rfl hp2 ?_) -- t15 := load :3 [t14] @slices.go:109
      refine EvO.cons rfl rfl rfl (EvP.callF rfl rfl hx rfl (EvF.mono (hp _ (getD_mem hlt)) ?_)) -- t16 := callv #[3] [t11, t15] @slices.go:109
      rintro _ _ hn ⟨rfl, rfl⟩
      refine EvO.nil ?_
      refine at_normal (?_)
      refine EvC.cond rfl (fun hc' => ?_) (fun hc' => ?_) -- t16
      · refine EvC.seq ?_
        refine EvC.region rfl ?_
        refine EvO.cons rfl rfl rfl (EvP.quiet rfl rfl ?_) -- t17 := move [t5] @slices.go:110
        refine EvO.cons rfl rfl rfl (EvP.quiet rfl rfl ?_) -- t4 := assign [t17] @slices.go:110
        refine EvO.nil ?_
        refine at_normal (?_)
        refine EvC.ret ?_
        refine be_ret (at_ret (ro_ret (be_ret (at_ret (end_ret rfl ⟨rfl, i, rfl, ?_⟩)))))
        rw [any_true hlt hc', decide_eq_true_eq]; omega
      · refine EvC.skip ?_
        refine be_normal (at_normal (?_))
        refine EvC.region rfl ?_
        refine EvO.cons rfl rfl rfl (EvP.quiet rfl (succ64 (by omega)) ?_) -- t18 := binOp Go.BinOp.add :3 [t8, int (i64) 1] @slices.go:108
        refine EvO.cons rfl rfl rfl (EvP.quiet rfl rfl ?_) -- t8 := move [t18] @slices.go:108
        refine EvO.nil ?_
        refine ro_normal ⟨l.length - (i + 1), by omega, rfl, i + 1, _, by omega, rfl, fun j hj => ?_, hold ⟨rfl, rfl, rfl, rfl, trivial⟩⟩
        rcases Nat.lt_or_ge j i with h | h
        · exact hq j h
        · obtain rfl : j = i := by omega
          exact hc'
    · have hend : i = l.length := by
        have : ¬ i < l.length := by simpa using hc
        omega
      refine EvC.exit ?_
      refine at_exit (ro_exit (be_same rfl (at_normal (?_))))
      refine EvC.seq (EvC.region rfl (EvO.cons rfl rfl rfl (EvP.quiet rfl rfl (EvO.nil (at_normal (EvC.ret ?_))))))
      refine end_ret rfl ⟨rfl, -1, rfl, ?_⟩
      rw [any_false (fun j hj => hq j (by omega))]; rfl
include F in
theorem containsFunc_spec {h : AH} {v : AV} {l : List Int} (hl : IntRow h v l) (hlen : l.length ≤ 2 ^ 50) {g : FuncId} {cap : List AV} (hx : TT.xt.get g = none) (p : Int → Bool)
    (hp : ∀ x ∈ l, EvF TT X g ([.int .i64 x] ++ cap) h (fun r h' => h' = h ∧ r = .bool (p x))) :
    EvF TT X 93 [v, .func g cap] h (fun r h' => h' = h ∧ r = .bool (l.any p)) := by
  refine EvF.enter F.ft93 rfl rfl ?_
  refine EvC.seq (EvC.region rfl (EvO.cons rfl rfl rfl (EvP.quiet rfl rfl (EvO.nil (at_normal ?_)))))
  refine EvC.seq ?_
  refine EvC.region rfl ?_
  refine EvO.cons rfl rfl rfl (EvP.quiet rfl rfl ?_) -- t5 := move [t0] @slices.go:125
  refine EvO.cons rfl rfl rfl (EvP.quiet rfl rfl ?_) -- t6 := move [t1] @slices.go:125
  refine EvO.cons rfl rfl rfl (EvP.callF rfl rfl (F.no 125) rfl (EvF.mono (indexFunc_spec F hl hlen hx p hp) ?_))
  rintro _ _ hn ⟨rfl, k, rfl, hk⟩
  refine EvO.cons rfl rfl rfl (EvP.quiet rfl (isB (q := l.any p) hk) ?_) -- t8 := binOp Go.BinOp.geq :3 [t7, int (i64) 0] @slices.go:125
  refine EvO.cons rfl rfl rfl (EvP.quiet rfl rfl ?_) -- t4 := assign [t8] @slices.go:125
  refine EvO.nil ?_
  refine at_normal (EvC.ret ?_)
  exact end_ret rfl ⟨rfl, rfl⟩
include F in
theorem within1_spec {h : AH} {b : Nat} {vars : Int} {cl : AV} (hb : h.t.get b = some (.cells [.int .i64 vars, cl] 24 false)) (hv : 0 ≤ vars ∧ vars ≤ 1000000) (x : Int) :
    EvF TT X 129 [.int .i64 x, .ptr b 0] h (fun r h' => h' = h ∧ r = .bool (decide (¬ ok vars x))) := by
  have neg : some (AV.int .i64 (IntKind.i64.wrap (0 - vars))) = some (.int .i64 (-vars)) := by rw [sub64 (by omega)]; simp
  have L0 := load1 (off := 0) hb F.i3 rfl rfl
  have hfin : ∀ σ' : Nat → AV, ∀ q : Bool, q = decide (¬ ok vars x) → σ' 3 = .bool q → atEnd TT [.tmp 3] (fun r h' => h' = h ∧ r = .bool (decide (¬ ok vars x))) .ret σ' h := by
    intro σ' q hq h2
    exact ⟨[σ' 3], rfl, rfl, by rw [← hq]; exact h2⟩
  refine EvF.enter F.ft129 rfl rfl ?_
  refine EvC.seq (EvC.region rfl (EvO.cons rfl rfl rfl (EvP.quiet rfl rfl (EvO.nil (at_normal ?_)))))
  refine EvC.seq ?_
  refine EvC.region rfl ?_
  refine EvO.cons rfl rfl rfl (EvP.quiet rfl rfl ?_)
  have cases3 : x = 0 ∨ (x ≠ 0 ∧ x < -vars) ∨ (x ≠ 0 ∧ ¬ x < -vars) := by omega
  rcases cases3 with hc | hc | hc
  all_goals refine EvO.cons rfl rfl rfl (EvP.quiet rfl (by first | exact isB (q := true) (beq_iff_eq.2 (by omega)) | exact isB (q := false) (beq_eq_false_iff_ne.2 (by omega))) ?_)
  all_goals refine EvO.cons rfl rfl rfl (EvP.quiet rfl rfl ?_)
  all_goals first | refine EvO.off rfl rfl rfl ?_ | refine EvO.on rfl rfl rfl (EvP.quiet rfl rfl ?_)
  all_goals first | refine EvO.off rfl rfl rfl ?_ | refine EvO.on rfl rfl rfl (EvP.quiet rfl (F.fa0 _ _) ?_)
  all_goals first | refine EvO.off rfl rfl rfl ?_ | refine EvO.on rfl rfl rfl (EvP.quiet rfl L0 ?_)
  all_goals first | refine EvO.off rfl rfl rfl ?_ | refine EvO.on rfl rfl rfl (EvP.quiet rfl neg ?_)
  all_goals first | refine EvO.off rfl rfl rfl ?_ | refine EvO.on rfl rfl rfl (EvP.quiet rfl (by first | exact isB (q := true) (decide_eq_true (by omega)) | exact isB (q := false) (decide_eq_false (by omega))) ?_)
  all_goals refine EvO.cons rfl rfl rfl (EvP.quiet rfl rfl ?_)
  all_goals refine EvO.cons rfl rfl rfl (EvP.quiet rfl rfl ?_)
  all_goals first | refine EvO.off rfl rfl rfl ?_ | refine EvO.on rfl rfl rfl (EvP.quiet rfl rfl ?_)
  all_goals first | refine EvO.off rfl rfl rfl ?_ | refine EvO.on rfl rfl rfl (EvP.quiet rfl (F.fa0 _ _) ?_)
  all_goals first | refine EvO.off rfl rfl rfl ?_ | refine EvO.on rfl rfl rfl (EvP.quiet rfl L0 ?_)
  all_goals first | refine EvO.off rfl rfl rfl ?_ | refine EvO.on rfl rfl rfl (EvP.quiet rfl rfl ?_)
  all_goals refine EvO.cons rfl rfl rfl (EvP.quiet rfl rfl ?_)
  all_goals refine EvO.cons rfl rfl rfl (EvP.quiet rfl rfl ?_)
  all_goals refine EvO.nil ?_
  all_goals refine at_normal (EvC.ret ?_)
  · exact hfin _ true (decide_eq_true (by unfold ok; omega)).symm rfl
  · exact hfin _ true (decide_eq_true (by unfold ok; omega)).symm rfl
  · refine hfin _ (decide (x > vars)) ?_ rfl
    rw [decide_eq_decide]; unfold ok; omega
include F in
theorem within_spec {h : AH} (hw : WF h) {v : AV} {l : List Int} (hl : IntRow h v l) (hlen : l.length ≤ 2 ^ 50) {vars : Int} {cl : AV} (hv : 0 ≤ vars ∧ vars ≤ 1000000) :
    EvF TT X 98 [.agg [.int .i64 vars, cl], v] h (fun r h' => Grew h h' ∧ r = .bool (decide (∀ x ∈ l, ok vars x))) := by
  refine EvF.enter F.ft98 rfl rfl ?_
  refine EvC.seq ?_
  refine EvC.region rfl ?_
  refine EvO.cons rfl rfl rfl (EvP.new rfl (box1 F.i24 rfl) hw fun h1 b hg hb hfr => ?_)
  have hb : h1.t.get b = some (.cells [.int .i64 vars, cl] 24 false) := hb
  refine EvO.cons rfl rfl rfl (EvP.quiet rfl rfl ?_)
  refine EvO.nil (at_normal ?_)
  refine EvC.seq (EvC.region rfl ?_)
  refine EvO.cons rfl rfl rfl (EvP.quiet rfl rfl ?_)
  refine EvO.cons rfl rfl rfl (EvP.quiet rfl rfl ?_) -- makeFunc
  refine EvO.cons rfl rfl rfl (EvP.callF rfl rfl (F.no 93) rfl (EvF.mono (containsFunc_spec F (RowOf.mono hg.le hl) hlen (F.no 129) (fun x => decide (¬ ok vars x)) (fun x _ => within1_spec F hb hv x)) ?_))
  rintro _ _ hn ⟨rfl, rfl⟩
  refine EvO.cons rfl rfl rfl (EvP.quiet rfl (isB (q := decide (∀ x ∈ l, ok vars x)) ?_) ?_)
  · rw [Bool.eq_iff_iff]; simp
  refine EvO.cons rfl rfl rfl (EvP.quiet rfl rfl ?_)
  refine EvO.nil (at_normal (EvC.ret ?_))
  exact end_ret rfl ⟨hg, rfl⟩
include F in
theorem pwithin1_spec {h : AH} {b : Nat} {vars : Int} {cl : AV} (hb : h.t.get b = some (.cells [.int .i64 vars, cl] 24 false)) (hv : 0 ≤ vars ∧ vars ≤ 1000000) (x : Int) :
    EvF TT X 94 [.int .i64 x, .ptr b 0] h (fun r h' => h' = h ∧ r = .bool (decide (¬ ok vars x))) := by
  have neg : some (AV.int .i64 (IntKind.i64.wrap (0 - vars))) = some (.int .i64 (-vars)) := by rw [sub64 (by omega)]; simp
  have L0 := load1 (off := 0) hb F.i3 rfl rfl
  have hfin : ∀ σ' : Nat → AV, ∀ q : Bool, q = decide (¬ ok vars x) → σ' 3 = .bool q → atEnd TT [.tmp 3] (fun r h' => h' = h ∧ r = .bool (decide (¬ ok vars x))) .ret σ' h := by
    intro σ' q hq h2
    exact ⟨[σ' 3], rfl, rfl, by rw [← hq]; exact h2⟩
  refine EvF.enter F.ft94 rfl rfl ?_
  refine EvC.seq (EvC.region rfl (EvO.cons rfl rfl rfl (EvP.quiet rfl rfl (EvO.nil (at_normal ?_)))))
  refine EvC.seq ?_
  refine EvC.region rfl ?_
  refine EvO.cons rfl rfl rfl (EvP.quiet rfl rfl ?_)
  have cases3 : x = 0 ∨ (x ≠ 0 ∧ x < -vars) ∨ (x ≠ 0 ∧ ¬ x < -vars) := by omega
  rcases cases3 with hc | hc | hc
  all_goals refine EvO.cons rfl rfl rfl (EvP.quiet rfl (by first | exact isB (q := true) (beq_iff_eq.2 (by omega)) | exact isB (q := false) (beq_eq_false_iff_ne.2 (by omega))) ?_)
  all_goals refine EvO.cons rfl rfl rfl (EvP.quiet rfl rfl ?_)
  all_goals first | refine EvO.off rfl rfl rfl ?_ | refine EvO.on rfl rfl rfl (EvP.quiet rfl rfl ?_)
  all_goals first | refine EvO.off rfl rfl rfl ?_ | refine EvO.on rfl rfl rfl (EvP.quiet rfl (F.fa0 _ _) ?_)
  all_goals first | refine EvO.off rfl rfl rfl ?_ | refine EvO.on rfl rfl rfl (EvP.quiet rfl L0 ?_)
  all_goals first | refine EvO.off rfl rfl rfl ?_ | refine EvO.on rfl rfl rfl (EvP.quiet rfl neg ?_)
  all_goals first | refine EvO.off rfl rfl rfl ?_ | refine EvO.on rfl rfl rfl (EvP.quiet rfl (by first | exact isB (q := true) (decide_eq_true (by omega)) | exact isB (q := false) (decide_eq_false (by omega))) ?_)
  all_goals refine EvO.cons rfl rfl rfl (EvP.quiet rfl rfl ?_)
  all_goals refine EvO.cons rfl rfl rfl (EvP.quiet rfl rfl ?_)
  all_goals first | refine EvO.off rfl rfl rfl ?_ | refine EvO.on rfl rfl rfl (EvP.quiet rfl rfl ?_)
  all_goals first | refine EvO.off rfl rfl rfl ?_ | refine EvO.on rfl rfl rfl (EvP.quiet rfl (F.fa0 _ _) ?_)
  all_goals first | refine EvO.off rfl rfl rfl ?_ | refine EvO.on rfl rfl rfl (EvP.quiet rfl L0 ?_)
  all_goals first | refine EvO.off rfl rfl rfl ?_ | refine EvO.on rfl rfl rfl (EvP.quiet rfl rfl ?_)
  all_goals refine EvO.cons rfl rfl rfl (EvP.quiet rfl rfl ?_)
  all_goals refine EvO.cons rfl rfl rfl (EvP.quiet rfl rfl ?_)
  all_goals refine EvO.nil ?_
  all_goals refine at_normal (EvC.ret ?_)
  · exact hfin _ true (decide_eq_true (by unfold ok; omega)).symm rfl
  · exact hfin _ true (decide_eq_true (by unfold ok; omega)).symm rfl
  · refine hfin _ (decide (x > vars)) ?_ rfl
    rw [decide_eq_decide]; unfold ok; omega
include F in
theorem pwithin_spec {h : AH} (hw : WF h) {v : AV} {l : List Int} (hl : IntRow h v l) (hlen : l.length ≤ 2 ^ 50) {vars : Int} {cl : AV} (hv : 0 ≤ vars ∧ vars ≤ 1000000) :
    EvF TT X 63 [.agg [.int .i64 vars, cl], v] h (fun r h' => Grew h h' ∧ r = .bool (decide (∀ x ∈ l, ok vars x))) := by
  refine EvF.enter F.ft63 rfl rfl ?_
  refine EvC.seq ?_
  refine EvC.region rfl ?_
  refine EvO.cons rfl rfl rfl (EvP.new rfl (box1 F.i24 rfl) hw fun h1 b hg hb hfr => ?_)
  have hb : h1.t.get b = some (.cells [.int .i64 vars, cl] 24 false) := hb
  refine EvO.cons rfl rfl rfl (EvP.quiet rfl rfl ?_)
  refine EvO.nil (at_normal ?_)
  refine EvC.seq (EvC.region rfl ?_)
  refine EvO.cons rfl rfl rfl (EvP.quiet rfl rfl ?_)
  refine EvO.cons rfl rfl rfl (EvP.quiet rfl rfl ?_) -- makeFunc
  refine EvO.cons rfl rfl rfl (EvP.callF rfl rfl (F.no 93) rfl (EvF.mono (containsFunc_spec F (RowOf.mono hg.le hl) hlen (F.no 94) (fun x => decide (¬ ok vars x)) (fun x _ => pwithin1_spec F hb hv x)) ?_))
  rintro _ _ hn ⟨rfl, rfl⟩
  refine EvO.cons rfl rfl rfl (EvP.quiet rfl (isB (q := decide (∀ x ∈ l, ok vars x)) ?_) ?_)
  · rw [Bool.eq_iff_iff]; simp
  refine EvO.cons rfl rfl rfl (EvP.quiet rfl rfl ?_)
  refine EvO.nil (at_normal (EvC.ret ?_))
  exact end_ret rfl ⟨hg, rfl⟩
include F in
theorem valid_spec {h : AH} (hw : WF h) {vars : Int} {cl : AV} {L : List (List Int)} {cv : Nat → AV} (C : CnfAt h vars cl L cv) :
    EvF TT X 66 [.agg [.int .i64 vars, cl]] h (fun r h' => Grew h h' ∧ r = .bool (decide (valid vars L))) := by
  refine EvF.enter F.ft66 rfl rfl ?_
  refine EvC.seq ?_
  refine EvC.region rfl ?_
  refine EvO.cons rfl rfl rfl (EvP.new rfl (box1 F.i24 rfl) hw fun h1 b hg hb hfr => ?_)
  have hb : h1.t.get b = some (.cells [.int .i64 vars, cl] 24 false) := hb
  have C := C.mono hg.le
  have L0 := load1 (off := 0) hb F.i3 rfl rfl
  have L1 := load1 (off := 1) hb F.i22 rfl rfl
  have len := C.rows.len F.d22
  refine EvO.cons rfl rfl rfl (EvP.quiet rfl rfl ?_)
  refine EvO.nil ?_
  refine at_normal (?_)
  refine EvC.seq ?_
  refine EvC.seq ?_
  refine EvC.region rfl ?_
  refine EvO.cons rfl rfl rfl (EvP.quiet rfl (F.fa0 _ _) ?_)
  refine EvO.cons rfl rfl rfl (EvP.quiet rfl L0 ?_)
  have hfin : ∀ σ' : Nat → AV, ∀ q : Bool, q = decide (valid vars L) → σ' 2 = .bool q → ∀ h2, Grew h1 h2 → atEnd TT [.tmp 2] (fun r h' => Grew h h' ∧ r = .bool (decide (valid vars L))) .ret σ' h2 := by
    intro σ' q hq h2 h3 h4
    exact ⟨[σ' 2], rfl, hg.trans h4, by rw [← hq]; exact h2⟩
  have cases4 : vars < 0 ∨ (0 ≤ vars ∧ vars > 50000) ∨ (0 ≤ vars ∧ vars ≤ 50000 ∧ L.length > 200000) ∨ (0 ≤ vars ∧ vars ≤ 50000 ∧ L.length ≤ 200000) := by omega
  rcases cases4 with hc | hc | hc | hc
  all_goals refine EvO.cons rfl rfl rfl (EvP.quiet rfl (by first | exact isB (q := true) (by simp; omega) | exact isB (q := false) (by simp; omega)) ?_)
  all_goals refine EvO.cons rfl rfl rfl (EvP.quiet rfl rfl ?_)
  all_goals first | refine EvO.off rfl rfl rfl ?_ | refine EvO.on rfl rfl rfl (EvP.quiet rfl (F.fa0 _ _) ?_)
  all_goals first | refine EvO.off rfl rfl rfl ?_ | refine EvO.on rfl rfl rfl (EvP.quiet rfl L0 ?_)
  all_goals first | refine EvO.off rfl rfl rfl ?_ | refine EvO.on rfl rfl rfl (EvP.quiet rfl (by first | exact isB (q := true) (by simp; omega) | exact isB (q := false) (by simp; omega)) ?_)
  all_goals refine EvO.cons rfl rfl rfl (EvP.quiet rfl rfl ?_)
  all_goals refine EvO.cons rfl rfl rfl (EvP.quiet rfl rfl ?_)
  all_goals first | refine EvO.off rfl rfl rfl ?_ | refine EvO.on rfl rfl rfl (EvP.quiet rfl (F.fa1 _ _) ?_)
  all_goals first | refine EvO.off rfl rfl rfl ?_ | refine EvO.on rfl rfl rfl (EvP.quiet rfl L1 ?_)
  all_goals first | refine EvO.off rfl rfl rfl ?_ | refine EvO.on rfl rfl rfl (EvP.quiet rfl len ?_)
  all_goals first | refine EvO.off rfl rfl rfl ?_ | refine EvO.on rfl rfl rfl (EvP.quiet rfl (by first | exact isB (q := true) (by simp; omega) | exact isB (q := false) (by simp; omega)) ?_)
  all_goals refine EvO.cons rfl rfl rfl (EvP.quiet rfl rfl ?_)
  all_goals refine EvO.nil ?_
  all_goals refine at_normal (?_)
  all_goals refine EvC.cond rfl (fun hc' => ?_) (fun hc' => ?_)
  all_goals first | exact absurd hc' (by decide) | skip
  · refine EvC.seq (EvC.region rfl (EvO.cons rfl rfl rfl (EvP.quiet rfl rfl (EvO.nil (at_normal (EvC.ret (at_ret (hfin _ false (decide_eq_false (fun hv => ?_)).symm rfl _ (Grew.refl hg.wf)))))))))
    have h1 := hv.1; have h2 := hv.2.1; have h3 := hv.2.2.1; omega
  · refine EvC.seq (EvC.region rfl (EvO.cons rfl rfl rfl (EvP.quiet rfl rfl (EvO.nil (at_normal (EvC.ret (at_ret (hfin _ false (decide_eq_false (fun hv => ?_)).symm rfl _ (Grew.refl hg.wf)))))))))
    have h1 := hv.1; have h2 := hv.2.1; have h3 := hv.2.2.1; omega
  · refine EvC.seq (EvC.region rfl (EvO.cons rfl rfl rfl (EvP.quiet rfl rfl (EvO.nil (at_normal (EvC.ret (at_ret (hfin _ false (decide_eq_false (fun hv => ?_)).symm rfl _ (Grew.refl hg.wf)))))))))
    have h1 := hv.1; have h2 := hv.2.1; have h3 := hv.2.2.1; omega
  · refine EvC.skip ?_
    refine at_normal (?_)
    refine EvC.seq ?_
    refine EvC.region rfl ?_
    refine EvO.cons rfl rfl rfl (EvP.quiet rfl rfl ?_) -- t3 := assign [int (i64) 0] @ref.go:32
    refine EvO.nil ?_
    refine at_normal (?_)
    refine EvC.seq ?_
    refine EvC.seq ?_
    refine EvC.region rfl ?_
    refine EvO.cons rfl rfl rfl (EvP.quiet rfl (F.fa1 _ _) ?_) -- t20 := fieldAddr :24 .1 [t1] @ref.go:33
    refine EvO.cons rfl rfl rfl (EvP.quiet rfl L1 ?_) -- t21 := load :22 [t20] @ref.go:33
    refine EvO.cons rfl rfl rfl (EvP.quiet rfl len ?_) -- t22 := B.len #[22] [t21] @ref.go:33
    refine EvO.cons rfl rfl rfl (EvP.quiet rfl rfl ?_) -- t23 := move [int (i64) 0] @ref.go:33
    refine EvO.nil ?_
    refine at_normal (?_)
    refine EvC.block ?_
    refine EvC.loop (fun m σ h' => Grew h1 h' ∧ ∃ (i : Nat) (E : Nat → AV), i ≤ L.length ∧ m = L.length - i ∧ total (L.take i) ≤ 1000000 ∧ (∀ j, j < i → ∀ x ∈ L.getD j [], ok vars x) ∧
      σ = upds [(1, .ptr b 0), (3, .int .i64 (total (L.take i) : Nat)), (21, cl), (22, .int .i64 L.length), (23, .int .i64 i)] E) L.length ?_ ?_
    · exact ⟨Grew.refl hg.wf, 0, _, Nat.zero_le _, rfl, by simp [total], fun j hj => by omega, hold ⟨rfl, rfl, rfl, rfl, rfl, trivial⟩⟩
    · rintro m _ h2 ⟨hg2, i, E, hi, rfl, ht, hp, rfl⟩
      have hb2 := hg2.le _ _ hb
      have C := C.mono hg2.le
      refine EvC.seq ?_
      refine EvC.region rfl ?_
      refine EvO.cons rfl rfl rfl (EvP.quiet rfl rfl ?_) -- t24 := binOp Go.BinOp.lss :3 [t23, t22] @ref.go:33
      refine EvO.nil ?_
      refine at_normal (?_)
      refine EvC.seq ?_
      refine EvC.cond rfl (fun hc => ?_) (fun hc => ?_) -- t24
      · have hlt : i < L.length := by simpa using hc
        obtain ⟨p, hp1, hp2⟩ := C.rows.at1 F.d22 F.i35 rfl rfl (k := .i64) (i := i) (by omega) (by omega)
        have hrow : IntRow h2 (cv i) (L.getD i []) := C.ints i hlt
        have hlen : (L.getD i []).length ≤ 2 ^ 48 := C.lens _ (getDL_mem hlt)
        have htk := total_take hlt
        refine EvC.skip ?_
        refine at_normal (?_)
        refine EvC.seq ?_
        refine EvC.block ?_
        refine EvC.seq ?_
        refine EvC.region rfl ?_
        refine EvO.cons rfl rfl rfl (EvP.quiet rfl hp1 ?_) -- t25 := indexAddr :22 [t21, t23] @ref.go:33
        refine EvO.cons rfl rfl rfl (EvP.quiet rfl hp2 ?_) -- t26 := load :25 [t25] @ref.go:33
        refine EvO.cons rfl rfl rfl (EvP.quiet rfl rfl ?_) -- t5 := assign [t26] @ref.go:33
        refine EvO.nil ?_
        refine at_normal (?_)
        refine EvC.seq ?_
        refine EvC.region rfl ?_
        refine EvO.cons rfl rfl rfl (EvP.quiet rfl rfl ?_) -- t27 := move [t3] @ref.go:34
        refine EvO.cons rfl rfl rfl (EvP.quiet rfl rfl ?_) -- t28 := move [t5] @ref.go:34
        refine EvO.cons rfl rfl rfl (EvP.quiet rfl (hrow.len F.d35) ?_) -- t29 := B.len #[25] [t28] @ref.go:34
        refine EvO.cons rfl rfl rfl (EvP.quiet rfl (addN64 (by omega)) ?_) -- t30 := binOp Go.BinOp.add :3 [t27, t29] @ref.go:34
        refine EvO.cons rfl rfl rfl (EvP.quiet rfl rfl ?_) -- t3 := assign [t30] @ref.go:34
        refine EvO.nil ?_
        refine at_normal (?_)
        refine EvC.seq ?_
        refine EvC.region rfl ?_
        refine EvO.cons rfl rfl rfl (EvP.quiet rfl rfl ?_) -- t31 := move [t3] @ref.go:35
        by_cases hbig : total (L.take i) + (L.getD i []).length > 1000000
        · refine EvO.cons rfl rfl rfl (EvP.quiet rfl (isB (q := true) (decide_eq_true (by omega))) ?_)
          refine EvO.cons rfl rfl rfl (EvP.quiet rfl rfl ?_)
          refine EvO.off rfl rfl rfl ?_
          refine EvO.off rfl rfl rfl ?_
          refine EvO.off rfl rfl rfl ?_
          refine EvO.off rfl rfl rfl ?_
          refine EvO.cons rfl rfl rfl (EvP.quiet rfl rfl ?_)
          refine EvO.nil ?_
          refine at_normal (?_)
          refine EvC.cond rfl (fun _ => ?_) (fun hc' => absurd hc' (by decide))
          refine EvC.seq (EvC.region rfl (EvO.cons rfl rfl rfl (EvP.quiet rfl rfl (EvO.nil (at_normal (EvC.ret ?_))))))
          refine be_ret (at_ret (ro_ret (be_ret (at_ret (hfin _ false (decide_eq_false (fun hv => ?_)).symm rfl _ hg2)))))
          have := hv.2.2.2.1
          have := total_le L (i + 1)
          omega
        · refine EvO.cons rfl rfl rfl (EvP.quiet rfl (isB (q := false) (decide_eq_false (by omega))) ?_)
          refine EvO.cons rfl rfl rfl (EvP.quiet rfl rfl ?_)
          refine EvO.on rfl rfl rfl (EvP.quiet rfl (loadAgg hb2 F.a24 rfl) ?_)
          refine EvO.on rfl rfl rfl (EvP.quiet rfl rfl ?_)
          refine EvO.on rfl rfl rfl (EvP.callF rfl rfl (F.no 98) rfl (EvF.mono (within_spec F hg2.wf hrow (by omega) ⟨by omega, by omega⟩) ?_))
          rintro _ h3 hn ⟨hg3, rfl⟩
          by_cases hall : ∀ x ∈ L.getD i [], ok vars x
          · refine EvO.on rfl rfl rfl (EvP.quiet rfl (isB (q := false) (by simp only [decide_eq_true hall]; rfl)) ?_)
            refine EvO.cons rfl rfl rfl (EvP.quiet rfl rfl ?_)
            refine EvO.nil ?_
            refine at_normal (?_)
            refine EvC.cond rfl (fun hc' => absurd hc' (by decide)) (fun _ => ?_)
            refine EvC.skip ?_
            refine be_normal (at_normal (?_))
            refine EvC.region rfl ?_
            refine EvO.cons rfl rfl rfl (EvP.quiet rfl (succ64 (by omega)) ?_)
            refine EvO.cons rfl rfl rfl (EvP.quiet rfl rfl ?_)
            refine EvO.nil ?_
            refine ro_normal ⟨L.length - (i + 1), by omega, hg2.trans hg3, i + 1, _, by omega, rfl, by omega, fun j hj => ?_, hold ⟨rfl, by rw [htk]; rfl, rfl, rfl, rfl, trivial⟩⟩
            rcases Nat.lt_or_ge j i with h | h
            · exact hp j h
            · obtain rfl : j = i := by omega
              exact hall
          · refine EvO.on rfl rfl rfl (EvP.quiet rfl (isB (q := true) (by simp only [decide_eq_false hall]; rfl)) ?_)
            refine EvO.cons rfl rfl rfl (EvP.quiet rfl rfl ?_)
            refine EvO.nil ?_
            refine at_normal (?_)
            refine EvC.cond rfl (fun _ => ?_) (fun hc' => absurd hc' (by decide))
            refine EvC.seq (EvC.region rfl (EvO.cons rfl rfl rfl (EvP.quiet rfl rfl (EvO.nil (at_normal (EvC.ret ?_))))))
            exact be_ret (at_ret (ro_ret (be_ret (at_ret (hfin _ false (decide_eq_false (fun hv => hall (hv.2.2.2.2 i hlt))).symm rfl _ (hg2.trans hg3))))))
      · have hend : i = L.length := by
          have : ¬ i < L.length := by simpa using hc
          omega
        subst hend
        refine EvC.exit ?_
        refine at_exit (ro_exit (be_same rfl (at_normal (?_))))
        refine EvC.seq (EvC.region rfl (EvO.cons rfl rfl rfl (EvP.quiet rfl rfl (EvO.nil (at_normal (EvC.ret ?_))))))
        rw [List.take_length] at ht
        exact hfin _ true (decide_eq_true ⟨by omega, by omega, by omega, ht, hp⟩).symm rfl _ hg2
def allB (L : List (List Int)) (m : List Bool) : Prop := ∀ i, i < L.length → (L.getD i []).any (holdsB m) = true
instance (L : List (List Int)) (m : List Bool) : Decidable (allB L m) := by unfold allB; exact inferInstance
theorem any_take {l : List Int} {a : Nat} (ha : a < l.length) (p : Int → Bool) : (l.take (a + 1)).any p = ((l.take a).any p || p (l.getD a 0)) := by
  rw [List.take_add_one, List.any_append, List.getD_eq_getElem?_getD, List.getElem?_eq_getElem ha]
  simp only [Option.toList_some, List.any_cons, List.any_nil, Bool.or_false, Option.getD_some]
include F in
theorem refAll_spec {h : AH} {vars : Int} {cl : AV} {L : List (List Int)} {cv : Nat → AV} (C : CnfAt h vars cl L cv) {mv : AV} {m : List Bool} (hm : BoolRow h mv m) (hlen : m.length ≤ 1000000) (hall : ∀ i, i < L.length → ∀ x ∈ L.getD i [], ok m.length x) :
    EvF TT X 18 [cl, mv] h (fun r h' => h' = h ∧ r = .bool (decide (allB L m))) := by
  have len := C.rows.len F.d22
  have many := C.many
  refine EvF.enter F.ft18 rfl rfl ?_
  refine EvC.seq (EvC.region rfl (EvO.cons rfl rfl rfl (EvP.quiet rfl rfl (EvO.nil (at_normal ?_)))))
  refine EvC.seq ?_
  refine EvC.seq ?_
  refine EvC.region rfl ?_
  refine EvO.cons rfl rfl rfl (EvP.quiet rfl rfl ?_) -- t10 := move [t0] @ref.go:47
  refine EvO.cons rfl rfl rfl (EvP.quiet rfl len ?_) -- t11 := B.len #[22] [t10] @ref.go:47
  refine EvO.cons rfl rfl rfl (EvP.quiet rfl rfl ?_) -- t12 := move [int (i64) 0] @ref.go:47
  refine EvO.nil (at_normal ?_)
  refine EvC.block ?_
  refine EvC.loop (fun k σ h' => h' = h ∧ ∃ (i : Nat) (E : Nat → AV), i ≤ L.length ∧ k = L.length - i ∧ (∀ j, j < i → (L.getD j []).any (holdsB m) = true) ∧ σ = upds [(1, mv), (10, cl), (11, .int .i64 L.length), (12, .int .i64 i)] E) L.length ?_ ?_
  · exact ⟨rfl, 0, _, Nat.zero_le _, rfl, fun j hj => by omega, hold ⟨rfl, rfl, rfl, rfl, trivial⟩⟩
  · rintro k _ h2 ⟨he, i, E, hi, rfl, hq, rfl⟩
    subst he
    refine EvC.seq ?_
    refine EvC.region rfl ?_
    refine EvO.cons rfl rfl rfl (EvP.quiet rfl rfl ?_) -- t13 := binOp Go.BinOp.lss :3 [t12, t11] @ref.go:47
    refine EvO.nil (at_normal ?_)
    refine EvC.seq ?_
    refine EvC.cond rfl (fun hc => ?_) (fun hc => ?_) -- t13
    · have hlt : i < L.length := by simpa using hc
      obtain ⟨p, hp1, hp2⟩ := C.rows.at1 F.d22 F.i35 rfl rfl (k := .i64) (i := i) (by omega) (by omega)
      have hrow : IntRow h2 (cv i) (L.getD i []) := C.ints i hlt
      have hln : (L.getD i []).length ≤ 2 ^ 48 := C.lens _ (getDL_mem hlt)
      refine EvC.skip (at_normal ?_)
      refine EvC.seq ?_
      refine EvC.block ?_
      refine EvC.seq ?_
      refine EvC.region rfl ?_
      refine EvO.cons rfl rfl rfl (EvP.quiet rfl hp1 ?_) -- t14 := indexAddr :22 [t10, t12] @ref.go:47
      refine EvO.cons rfl rfl rfl (EvP.quiet rfl hp2 ?_) -- t15 := load :25 [t14] @ref.go:47
      refine EvO.cons rfl rfl rfl (EvP.quiet rfl rfl ?_) -- t6 := assign [t15] @ref.go:47
      refine EvO.nil (at_normal ?_)
      refine EvC.seq (EvC.region rfl (EvO.cons rfl rfl rfl (EvP.quiet rfl rfl (EvO.nil (at_normal ?_)))))
      refine EvC.seq ?_
      refine EvC.seq ?_
      refine EvC.region rfl ?_
      refine EvO.cons rfl rfl rfl (EvP.quiet rfl rfl ?_) -- t16 := move [t6] @ref.go:49
      refine EvO.cons rfl rfl rfl (EvP.quiet rfl (hrow.len F.d35) ?_) -- t17 := B.len #[25] [t16] @ref.go:49
      refine EvO.cons rfl rfl rfl (EvP.quiet rfl rfl ?_) -- t18 := move [int (i64) 0] @ref.go:49
      refine EvO.nil (at_normal ?_)
      refine EvC.block ?_
      refine EvC.loop (fun k σ h' => h' = h2 ∧ ∃ (a : Nat) (E : Nat → AV), a ≤ (L.getD i []).length ∧ k = (L.getD i []).length - a ∧
        σ = upds [(1, mv), (10, cl), (11, .int .i64 L.length), (12, .int .i64 i), (7, .bool (((L.getD i []).take a).any (holdsB m))), (16, cv i), (17, .int .i64 (L.getD i []).length), (18, .int .i64 a)] E) (L.getD i []).length ?_ ?_
      · exact ⟨rfl, 0, _, Nat.zero_le _, rfl, hold ⟨rfl, rfl, rfl, rfl, rfl, rfl, rfl, rfl, trivial⟩⟩
      · rintro k _ h3 ⟨he, a, E, ha, rfl, rfl⟩
        subst he
        refine EvC.seq ?_
        refine EvC.region rfl ?_
        refine EvO.cons rfl rfl rfl (EvP.quiet rfl rfl ?_) -- t19 := binOp Go.BinOp.lss :3 [t18, t17] @ref.go:49
        refine EvO.nil (at_normal ?_)
        refine EvC.seq ?_
        refine EvC.cond rfl (fun hc => ?_) (fun hc => ?_) -- t19
        · have hla : a < (L.getD i []).length := Int.ofNat_lt.1 (of_decide_eq_true hc)
          obtain ⟨p, hp1, hp2⟩ := hrow.at1 F.d35 F.i3 rfl rfl (k := .i64) (i := a) (by omega) (by omega)
          have htk : ((L.getD i []).take (a + 1)).any (holdsB m) = (((L.getD i []).take a).any (holdsB m) || holdsB m ((L.getD i []).getD a 0)) := any_take hla _
          refine EvC.skip (at_normal ?_)
          refine EvC.seq ?_
          refine EvC.block ?_
          refine EvC.seq ?_
          refine EvC.region rfl ?_
          refine EvO.cons rfl rfl rfl (EvP.quiet rfl hp1 ?_) -- t20 := indexAddr :25 [t16, t18] @ref.go:49
          refine EvO.cons rfl rfl rfl (EvP.quiet rfl hp2 ?_) -- t21 := load :3 [t20] @ref.go:49
          refine EvO.cons rfl rfl rfl (EvP.quiet rfl rfl ?_) -- t9 := assign [t21] @ref.go:49
          refine EvO.nil (at_normal ?_)
          refine EvC.region rfl ?_
          cases hs : ((L.getD i []).take a).any (holdsB m) with
          | true =>
            refine EvO.cons rfl rfl rfl (EvP.quiet rfl rfl ?_)
            refine EvO.cons rfl rfl rfl (EvP.quiet rfl rfl ?_)
            refine EvO.off rfl rfl rfl ?_
            refine EvO.off rfl rfl rfl ?_
            refine EvO.off rfl rfl rfl ?_
            refine EvO.cons rfl rfl rfl (EvP.quiet rfl rfl ?_)
            refine EvO.cons rfl rfl rfl (EvP.quiet rfl rfl ?_)
            refine EvO.nil (be_normal (at_normal ?_))
            refine EvC.region rfl ?_
            refine EvO.cons rfl rfl rfl (EvP.quiet rfl (succ64 (by omega)) ?_)
            refine EvO.cons rfl rfl rfl (EvP.quiet rfl rfl ?_)
            exact EvO.nil (ro_normal ⟨(L.getD i []).length - (a + 1), by omega, rfl, a + 1, _, by omega, rfl, hold ⟨rfl, rfl, rfl, rfl, by rw [htk, hs]; rfl, rfl, rfl, rfl, trivial⟩⟩)
          | false =>
            refine EvO.cons rfl rfl rfl (EvP.quiet rfl rfl ?_)
            refine EvO.cons rfl rfl rfl (EvP.quiet rfl rfl ?_)
            refine EvO.on rfl rfl rfl (EvP.quiet rfl rfl ?_)
            refine EvO.on rfl rfl rfl (EvP.quiet rfl rfl ?_)
            refine EvO.on rfl rfl rfl (EvP.callF rfl rfl (F.no 53) rfl (EvF.mono (refHolds_spec F hm hlen _ (hall i hlt _ (getD_mem hla))) ?_))
            rintro _ _ hn ⟨rfl, rfl⟩
            refine EvO.cons rfl rfl rfl (EvP.quiet rfl rfl ?_)
            refine EvO.cons rfl rfl rfl (EvP.quiet rfl rfl ?_)
            refine EvO.nil (be_normal (at_normal ?_))
            refine EvC.region rfl ?_
            refine EvO.cons rfl rfl rfl (EvP.quiet rfl (succ64 (by omega)) ?_)
            refine EvO.cons rfl rfl rfl (EvP.quiet rfl rfl ?_)
            exact EvO.nil (ro_normal ⟨(L.getD i []).length - (a + 1), by omega, rfl, a + 1, _, by omega, rfl, hold ⟨rfl, rfl, rfl, rfl, by rw [htk, hs]; rfl, rfl, rfl, rfl, trivial⟩⟩)
        · have hend : a = (L.getD i []).length := by
            have : ¬ ((a : Int) < ((L.getD i []).length : Int)) := of_decide_eq_false hc
            omega
          subst hend
          rw [List.take_length]
          refine EvC.exit ?_
          refine at_exit (ro_exit (be_same rfl (at_normal (?_))))
          refine EvC.seq ?_
          refine EvC.region rfl ?_
          refine EvO.cons rfl rfl rfl (EvP.quiet rfl rfl ?_) -- t29 := move [t7] @ref.go:52
          refine EvO.cons rfl rfl rfl (EvP.quiet rfl rfl ?_) -- t30 := unOp [t29] @ref.go:52
          refine EvO.nil (at_normal ?_)
          refine EvC.cond rfl (fun hc' => ?_) (fun hc' => ?_) -- t30
          · have hno : (L.getD i []).any (holdsB m) = false := by simpa only [Bool.not_eq_true'] using hc'
            refine EvC.seq (EvC.region rfl (EvO.cons rfl rfl rfl (EvP.quiet rfl rfl (EvO.nil (at_normal (EvC.ret ?_))))))
            refine be_ret (at_ret (ro_ret (be_ret (at_ret (end_ret rfl ⟨rfl, ?_⟩)))))
            refine congrArg AV.bool (decide_eq_false (fun hv => ?_)).symm
            have := hv i hlt
            rw [hno] at this; cases this
          · have hyes : (L.getD i []).any (holdsB m) = true := by simpa only [Bool.not_eq_false'] using hc'
            refine EvC.skip ?_
            refine be_normal (at_normal (?_))
            refine EvC.region rfl ?_
            refine EvO.cons rfl rfl rfl (EvP.quiet rfl (succ64 (by omega)) ?_)
            refine EvO.cons rfl rfl rfl (EvP.quiet rfl rfl ?_)
            refine EvO.nil (ro_normal ⟨L.length - (i + 1), by omega, rfl, i + 1, _, by omega, rfl, fun j hj => ?_, hold ⟨rfl, rfl, rfl, rfl, trivial⟩⟩)
            rcases Nat.lt_or_ge j i with h | h
            · exact hq j h
            · obtain rfl : j = i := by omega
              exact hyes
    · have hend : i = L.length := by
        have : ¬ i < L.length := by simpa using hc
        omega
      refine EvC.exit ?_
      refine at_exit (ro_exit (be_same rfl (at_normal (?_))))
      refine EvC.seq (EvC.region rfl (EvO.cons rfl rfl rfl (EvP.quiet rfl rfl (EvO.nil (at_normal (EvC.ret ?_))))))
      refine end_ret rfl ⟨rfl, congrArg AV.bool (decide_eq_true (fun j hj => hq j (by omega))).symm⟩
omit F in
theorem cnf_read {H : Type} {enc : TypeId × Value → H} {P : Program} {w : World} {t : TypeId} {f0 f1 : Field} {m : Nat} {v : Value} {x : DataW H × List MemPlace} (ht : P.underlying t = some (.struct #[f0, f1])) (hsz : P.cellsOf t = 2)
    (h0 : f0.offset = 0 ∧ P.cellsOf f0.type = 1 ∧ P.underlying f0.type = some (.int .i64)) (h1 : f1.offset = 1 ∧ P.cellsOf f1.type = 1 ∧ P.underlying f1.type = some (.slice 35)) (h25 : P.underlying 35 = some (.slice 3)) (c25 : P.cellsOf 35 = 1) (h3 : P.underlying 3 = some (.int .i64)) (c3 : P.cellsOf 3 = 1)
    (b3 : 0 < P.bytesOf 3) (b25 : 0 < P.bytesOf 35) (hW : ∀ W ∈ x.1.weights P t, W ≤ 2 ^ 48)
    (h : DataW.trod enc P w 0 (fun _ => true) true m t v.cells.toList = some x) : ∃ vars cl L cv, emb w v = .agg [.int .i64 vars, cl] ∧ CnfAt (embH w) vars cl L cv := by
  obtain ⟨y0, y1, n, rfl, hl, t0, t1⟩ := Go.ChangeShapes.trod_struct2 ht h
  rw [hsz] at hl
  have hv : ∃ a b, v = .agg ⟨[a, b]⟩ := by
    cases v
    case agg cs =>
      obtain ⟨cs⟩ := cs
      match cs, hl with
      | [a, b], _ => exact ⟨a, b, rfl⟩
    all_goals simp [Value.cells] at hl
  obtain ⟨a, b, rfl⟩ := hv
  rw [h0.1, h0.2.1] at t0
  rw [h1.1, h1.2.1] at t1
  have t0 : DataW.trod enc P w 0 (fun _ => true) true n f0.type [a] = some y0 := t0
  have t1 : DataW.trod enc P w 0 (fun _ => true) true n f1.type [b] = some y1 := t1
  obtain ⟨vars, rfl, _⟩ := read_int h0.2.2 t0
  have hW1 : ∀ W ∈ y1.1.weights P f1.type, W ≤ 2 ^ 48 := fun W h' => hW W (by
    simp only [DataW.weights, ht, DataW.weightsEach, List.map_cons, List.map_nil]
    exact List.mem_append_right _ (List.mem_append_left _ h'))
  obtain ⟨k, f, hr, hf⟩ := read_row1 h1.2.2 c25 t1
  have hk : k ≤ 2 ^ 48 := by
    rcases hf with rfl | ⟨el, sp, h1', h2, _⟩
    · omega
    · rw [h1'] at hW1
      have := (weights_slice h1.2.2 hW1).1
      have := Nat.le_mul_of_pos_right (el.length + sp.length) b25
      omega
  have each : ∀ i, ∃ l : List Int, i < k → (l.length ≤ 2 ^ 48 ∧ IntRow (embH w) (embC w (f i)) l) := fun i => by
    by_cases hi : i < k
    · rcases hf with rfl | ⟨el, sp, h1', h2, h3'⟩
      · omega
      · rw [h1'] at hW1
        obtain ⟨m', y, h5, h6⟩ := h3' i hi
        obtain ⟨l, h7, h8, _⟩ := read_ints h25 c3 h3 b3 ((weights_slice h1.2.2 hW1).2 _ h6) h5
        exact ⟨l, fun _ => ⟨h7, h8⟩⟩
    · exact ⟨[], fun h => absurd h hi⟩
  refine ⟨vars, embC w b, (List.range k).map fun i => Classical.choose (each i), fun i => embC w (f i), rfl, ?_⟩
  have hget : ∀ i, i < k → ((List.range k).map fun i => Classical.choose (each i)).getD i [] = Classical.choose (each i) := fun i hi => by
    rw [List.getD_eq_getElem?_getD, List.getElem?_map, List.getElem?_range hi]; rfl
  have hlen : ((List.range k).map fun i => Classical.choose (each i)).length = k := by simp
  refine ⟨by rw [hlen]; exact hr, fun i hi => ?_, fun l hl => ?_, by rw [hlen]; omega⟩
  · rw [hlen] at hi
    rw [hget i hi]
    exact (Classical.choose_spec (each i) hi).2
  · obtain ⟨i, hi, rfl⟩ := List.mem_map.1 hl
    have := (Classical.choose_spec (each i) (List.mem_range.1 hi)).1
    omega
omit F in
theorem bools_read {H : Type} {enc : TypeId × Value → H} {P : Program} {w : World} {t e : TypeId} {fuel : Nat} {v : Value} {x : DataW H × List MemPlace} (ht : P.underlying t = some (.slice e)) (hc : P.cellsOf e = 1) (he : P.underlying e = some .bool)
    {W : World} {base : Nat} (hok : Value.okWide P W .any base t v)
    (h : DataW.trod enc P w 0 (fun _ => true) true fuel t v.cells.toList = some x) : ∃ m, BoolRow (embH w) (emb w v) m := by
  have hv : v.cells.toList = [v] ∧ emb w v = embC w v := by
    rcases DataW.trod_slice ht h with ⟨h0, _⟩ | ⟨a, len, cap, _, _, _, _, h0, _⟩
    all_goals
      cases v
      case agg cs =>
        exfalso
        simp [Value.okWide, ht, Cell.okWide, Cell.ok] at hok
      all_goals first | exact ⟨rfl, rfl⟩ | skip
  rw [hv.1] at h
  obtain ⟨m, hm⟩ := read_bools ht hc he h
  exact ⟨m, by rw [hv.2]; exact hm⟩
end Pf
end Go.Proofs.YtfjloafebkjadaaGreatDoor
