/- Rules for operations one by one; maps. -/
import Derived.Test.YtfjloafebkjadaaGreatDoorAIRow
/- Rules that take themselves: plain operations, sums in range. -/
namespace Go.AI
/-- Taken without a thought: no sum that might wrap, and no comparison where guards look at one. -/
def easy (ops : List Oper) (op : Op) : Bool := match op with
  | .binOp b _ _ _ _ => (match b with
    | .eql | .neq | .lss | .leq | .gtr | .geq => !(ops.any (·.guard.isSome))
    | _ => false)
  | .unOp u _ _ => (match u with | .not => true | _ => false)
  | .convert .. => false
  | .call c => (match c.callee with | .builtin .len | .builtin .cap => true | _ => false)
  | _ => true
variable {T : Tab} {X : Oracle} {n : Nat} {σ : Nat → AV} {h : AH}
theorem EvO.plain {ops rest : List Oper} {o : Oper} {d : Nat} {v : AV} {Q : (Nat → AV) → AH → Prop} (hg : o.guard = none) (hd : o.dst = some d) (hn : Nat.ble (d + 1) n = true) (_he : easy ops o.op = true) (hk : kindOf T o.op = .quiet) (hv : fquiet T (evf σ) h o.op = some v) (H : EvO T X n ops rest (upd σ d v) h Q) : EvO T X n ops (o :: rest) σ h Q :=
  EvO.cons hg hd hn (EvP.quiet hk hv H)
theorem EvO.plainOn {ops rest : List Oper} {o : Oper} {d : Nat} {v : AV} {Q : (Nat → AV) → AH → Prop} (hg : fguard σ ops o = some true) (hd : o.dst = some d) (hn : Nat.ble (d + 1) n = true) (_he : easy ops o.op = true) (hk : kindOf T o.op = .quiet) (hv : fquiet T (evf σ) h o.op = some v) (H : EvO T X n ops rest (upd σ d v) h Q) : EvO T X n ops (o :: rest) σ h Q :=
  EvO.on hg hd hn (EvP.quiet hk hv H)
theorem EvR.plain {ops : List Oper} {s : PStep} {p : List PStep} {o : Oper} {d : Nat} {v : AV} {Q : (Nat → AV) → AH → Prop} (ho : lget ops s.idx = some o) (hg : o.guard = none) (hd : o.dst = some d) (hn : Nat.ble (d + 1) n = true) (_he : easy ops o.op = true) (hk : kindOf T o.op = .quiet) (hv : fquiet T (evf σ) h o.op = some v) (H : EvR T X n ops p (upd σ d v) h Q) : EvR T X n ops (s :: p) σ h Q :=
  EvR.cons ho hg hd hn (EvP.quiet hk hv H)
theorem EvR.plainOn {ops : List Oper} {s : PStep} {p : List PStep} {o : Oper} {d : Nat} {v : AV} {Q : (Nat → AV) → AH → Prop} (ho : lget ops s.idx = some o) (hg : fguard σ ops o = some true) (hd : o.dst = some d) (hn : Nat.ble (d + 1) n = true) (_he : easy ops o.op = true) (hk : kindOf T o.op = .quiet) (hv : fquiet T (evf σ) h o.op = some v) (H : EvR T X n ops p (upd σ d v) h Q) : EvR T X n ops (s :: p) σ h Q :=
  EvR.on ho hg hd hn (EvP.quiet hk hv H)
/-- A bool that guards look at: both ways. -/
theorem EvP.bool {op : Op} {b : Bool} {Q : AV → AH → Prop} (hk : kindOf T op = .quiet) (hv : fquiet T (evf σ) h op = some (.bool b)) (H1 : b = true → Q (.bool true) h) (H2 : b = false → Q (.bool false) h) : EvP T X op σ h Q :=
  EvP.quiet hk hv (by cases b; exact H2 rfl; exact H1 rfl)
theorem EvP.add64 {t : TypeId} {x y : Operand} {c : TypeId} {a b : Int} {Q : AV → AH → Prop} (hx : evf σ x = .int .i64 a) (hy : evf σ y = .int .i64 b) (hr : -9223372036854775808 ≤ a + b ∧ a + b ≤ 9223372036854775807) (H : Q (.int .i64 (a + b)) h) : EvP T X (.binOp .add t x y c) σ h Q :=
  EvP.quiet rfl (by simp only [fquiet, hx, hy]; exact AI.add64 hr) H
theorem EvP.sub64 {t : TypeId} {x y : Operand} {c : TypeId} {a b : Int} {Q : AV → AH → Prop} (hx : evf σ x = .int .i64 a) (hy : evf σ y = .int .i64 b) (hr : -9223372036854775808 ≤ a - b ∧ a - b ≤ 9223372036854775807) (H : Q (.int .i64 (a - b)) h) : EvP T X (.binOp .sub t x y c) σ h Q :=
  EvP.quiet rfl (by simp only [fquiet, hx, hy]; exact AI.sub64 hr) H
theorem EvP.mul64 {t : TypeId} {x y : Operand} {c : TypeId} {a b : Int} {Q : AV → AH → Prop} (hx : evf σ x = .int .i64 a) (hy : evf σ y = .int .i64 b) (hr : -9223372036854775808 ≤ a * b ∧ a * b ≤ 9223372036854775807) (H : Q (.int .i64 (a * b)) h) : EvP T X (.binOp .mul t x y c) σ h Q :=
  EvP.quiet rfl (by
    simp only [fquiet, hx, hy]
    show some (AV.int .i64 (IntKind.i64.wrap (a * b))) = _
    rw [IntWalk.i64_in _ hr]) H
theorem EvP.neg64 {t : TypeId} {x : Operand} {a : Int} {Q : AV → AH → Prop} (hx : evf σ x = .int .i64 a) (hr : -9223372036854775808 ≤ -a ∧ -a ≤ 9223372036854775807) (H : Q (.int .i64 (-a)) h) : EvP T X (.unOp .neg t x) σ h Q :=
  EvP.quiet rfl (by
    simp only [fquiet, hx, aunOp]
    show some (AV.int .i64 (IntKind.i64.wrap (0 - a))) = _
    rw [Int.zero_sub, IntWalk.i64_in _ hr]) H
theorem EvP.max {cl : Call} {x y : Operand} {k : IntKind} {a b : Int} {Q : AV → AH → Prop} (hc : cl.callee = .builtin .max) (ha : cl.args.toList = [x, y]) (hx : evf σ x = .int k a) (hy : evf σ y = .int k b) (H : Q (.int k (max a b)) h) : EvP T X (.call cl) σ h Q :=
  EvP.quiet (by simp only [kindOf, hc]) (by
    simp only [fquiet, hc, ha, List.map_cons, List.map_nil, hx, hy, aminmax, minmax, if_true]
    rw [Int.max_def]
    congr 2
    split <;> split <;> omega) H
theorem EvP.min {cl : Call} {x y : Operand} {k : IntKind} {a b : Int} {Q : AV → AH → Prop} (hc : cl.callee = .builtin .min) (ha : cl.args.toList = [x, y]) (hx : evf σ x = .int k a) (hy : evf σ y = .int k b) (H : Q (.int k (min a b)) h) : EvP T X (.call cl) σ h Q :=
  EvP.quiet (by simp only [kindOf, hc]) (by
    simp only [fquiet, hc, ha, List.map_cons, List.map_nil, hx, hy, aminmax, minmax, Bool.false_eq_true, if_false]
    rw [Int.min_def]
    congr 2
    split <;> split <;> omega) H
theorem EvC.decide {c : Operand} {p : Prop} [Decidable p] {a b : Code} {Q : AExit → (Nat → AV) → AH → Prop} (hc : evf σ c = .bool (decide p)) (H1 : p → EvC T X n a σ h Q) (H2 : ¬ p → EvC T X n b σ h Q) : EvC T X n (.cond c a b) σ h Q :=
  EvC.cond hc (fun e => H1 (of_decide_eq_true e)) (fun e => H2 (of_decide_eq_false e))
theorem ret_is {rs : List ResultVar} {Q : AV → AH → Prop} {u v : AV} (h1 : fresults T σ h rs = some [u]) (h2 : u = v) (H : Q v h) : atEnd T rs Q .ret σ h := end_ret h1 (by rw [h2]; exact H)
theorem norm_is {rs : List ResultVar} {Q : AV → AH → Prop} {u v : AV} (h1 : fresults T σ h rs = some [u]) (h2 : u = v) (H : Q v h) : atEnd T rs Q .normal σ h := end_normal h1 (by rw [h2]; exact H)
theorem ret_are {rs : List ResultVar} {Q : AV → AH → Prop} {us vs : List AV} (h1 : fresults T σ h rs = some us) (h2 : us = vs) (H : Q (packRes vs) h) : atEnd T rs Q .ret σ h := end_ret h1 (by rw [h2]; exact H)
theorem norm_are {rs : List ResultVar} {Q : AV → AH → Prop} {us vs : List AV} (h1 : fresults T σ h rs = some us) (h2 : us = vs) (H : Q (packRes vs) h) : atEnd T rs Q .normal σ h := end_normal h1 (by rw [h2]; exact H)
/-- Where ways meet: what holds there. -/
def join0 (M : (Nat → AV) → AH → Prop) (Q : AExit → (Nat → AV) → AH → Prop) : AExit → (Nat → AV) → AH → Prop
  | .normal, σ, h => M σ h
  | ex, σ, h => Q ex σ h
structure Join (M : (Nat → AV) → AH → Prop) (Q : AExit → (Nat → AV) → AH → Prop) (ex : AExit) (σ : Nat → AV) (h : AH) : Prop where
  out : join0 M Q ex σ h
theorem EvC.join {c : Code} {Q : AExit → (Nat → AV) → AH → Prop} (M : (Nat → AV) → AH → Prop) (H1 : EvC T X n c σ h (Join M Q)) (H2 : ∀ σ h', M σ h' → Q .normal σ h') : EvC T X n c σ h Q :=
  EvC.mono H1 fun ex e h' _ hj => by
    have hj := hj.out
    cases ex with
    | normal => exact H2 _ _ hj
    | ret => exact hj
    | exit i => exact hj
theorem jo_normal {M : (Nat → AV) → AH → Prop} {Q : AExit → (Nat → AV) → AH → Prop} (H : M σ h) : Join M Q .normal σ h := ⟨H⟩
theorem jo_ret {M : (Nat → AV) → AH → Prop} {Q : AExit → (Nat → AV) → AH → Prop} (H : Q .ret σ h) : Join M Q .ret σ h := ⟨H⟩
theorem jo_exit {M : (Nat → AV) → AH → Prop} {Q : AExit → (Nat → AV) → AH → Prop} {i : Nat} (H : Q (.exit i) σ h) : Join M Q (.exit i) σ h := ⟨H⟩
theorem Vec.sc {col : Nat → Nat} {c e sz m : Nat} {v : AV} {cs : List AV} (V : Vec col c h e sz v m cs) : v.cells = [v] ∧ scalar v = true := by
  cases V <;> exact ⟨rfl, rfl⟩
theorem RowOf.sc {sz m : Nat} {v : AV} {g : Nat → List AV} (V : RowOf h sz v m g) : v.cells = [v] ∧ Go.AI.scalar v = true := by
  cases V <;> exact ⟨rfl, rfl⟩
/-- A store of one cell. -/
theorem EvP.store1 {G : AH} {col : Nat → Nat} {t : TypeId} {a x : Operand} {id off : Nat} {cs : List AV} {e : TypeId} {i : TInfo} {u : AV} {Q : AV → AH → Prop} (S : HS G h col) (c : Nat) (hb : h.t.get id = some (.cells cs e false)) (hc : col id = c) (h0 : c ≠ 0) (ha : evf σ a = .ptr id off) (hx : evf σ x = u) (hi : T.tt.get t = some i) (hs : i.size = 1) (hu : u.cells = [u] ∧ scalar u = true) (hl : off < cs.length)
    (H : ∀ h1, Step (fun x => x = c) col h col h1 → HS G h1 col → h1.t.get id = some (.cells (lset cs off u) e false) → (∀ j, j ≠ id → h1.t.get j = h.t.get j) → h1.next = h.next → Q (.tuple []) h1) : EvP T X (.store t a x) σ h Q := by
  refine EvP.storeC S c hb hc h0 ha hx hi (by rw [hu.1, hs]; rfl) (by rw [hu.1]; simp [hu.2]) (by rw [hu.1]; simp; omega) fun h1 A S1 g1 g2 g3 => H h1 A S1 ?_ g2 g3
  rw [hu.1] at g1
  exact g1
theorem scalar_known {v : AV} (h : scalar v = true) : known v = true := by cases v <;> simp_all [scalar, known]
/-- A row of one value. -/
theorem build1 {t e : TypeId} {ei : TInfo} {v : AV} (ht : descOf T t = .slice e) (he : T.tt.get e = some ei) (hs : ei.size = 1) (hz : ei.zero.length = 1) (hv : v.cells = [v] ∧ scalar v = true) : abuildSlice T t 1 [(0, v)] = some (.cells [v] e false, .slice 1 1 true) := by
  obtain ⟨z, hz'⟩ : ∃ z, ei.zero = [z] := List.length_eq_one_iff.1 hz
  simp [abuildSlice, ht, he, hs, hz', rep, afill, hv.1, scalar_known hv.2, lsetMany, lset]
/-- No row of no elements that points into the midst of something. -/
def NZ : AV → Prop
  | .slice _ off 0 _ _ => off = 0
  | _ => True
theorem Vec.nz {col : Nat → Nat} {c e sz m : Nat} {v : AV} {cs : List AV} (V : Vec col c h e sz v m cs) : NZ v := by
  cases V with
  | nil => trivial
  | mk => cases m <;> first | rfl | trivial
theorem first0 {id off cap : Nat} {ex : Bool} {cs : List AV} (hc : cellsOf h id = some cs) (nz : NZ (.slice id off 0 cap ex)) : afirst h 1 0 (.slice id off 0 cap ex) = some [] := by
  have : off = 0 := nz
  subst this
  simp [afirst, hc, sub]
theorem RowOf.first1 {k : Nat} {x : AV} {f : Nat → AV} (row : RowOf h 1 x k (fun i => [f i])) (hk : 0 < k) : alenOf x = some k ∧ afirst h 1 k x = some ((List.range k).map f) := by
  cases row with
  | nil => omega
  | empty => omega
  | @mk id off _ cap ex cs _ hc hg =>
    refine ⟨rfl, ?_⟩
    have hlast := sub_some (hg (k - 1) (by omega))
    simp only [afirst, hc, Nat.mul_one, sub]
    rw [if_pos (by omega)]
    congr 1
    apply List.ext_getElem?
    intro i
    by_cases hi : i < k
    · obtain ⟨h1, h2, h3⟩ := sub_some (hg i hi)
      rw [Nat.mul_one] at h1 h2
      rw [List.getElem?_take, if_pos hi, List.getElem?_drop, List.getElem?_map, List.getElem?_range hi]
      rw [List.take_one, List.head?_drop, List.getElem?_eq_getElem (by omega)] at h2
      rw [List.getElem?_eq_getElem (by omega)]
      simp only [Option.toList_some, List.cons.injEq, and_true] at h2
      simp [h2]
    · rw [List.getElem?_eq_none (by simp; omega), List.getElem?_eq_none (by simp; omega)]
/-- An append of a row, which may be empty. -/
theorem EvP.appendRow {G : AH} {col : Nat → Nat} {cl : Call} {s y : Operand} {ts : List TypeId} {c : Nat} {e m k : Nat} {v x : AV} {cs : List AV} {f : Nat → AV} {t xt e2 : TypeId} {ei : TInfo} {Q : AV → AH → Prop} (S : HS G h col) (V : Vec col c h e 1 v m cs) (h0 : c ≠ 0) (row : RowOf h 1 x k (fun i => [f i])) (nz : NZ x) (hsc : ∀ i, i < k → scalar (f i) = true)
    (hcl : cl.callee = .builtin .append) (hts : cl.argTypes.toList = t :: xt :: ts) (hargs : cl.args.toList = [s, y]) (hv : evf σ s = v) (hy : evf σ y = x)
    (ht : descOf T t = .slice e) (hxt : descOf T xt = .slice e2) (hei : T.tt.get e = some ei) (hsz : ei.size = 1) (hz : ei.zero.length = 1) (hb : (m + k) * ei.bytes ≤ maxBytes) (hq : m + k ≤ 2 ^ 40)
    (H : ∀ v' h1 col1, Step (fun x => x = c) col h col1 h1 → HS G h1 col1 → Vec col1 c h1 e 1 v' (m + k) (cs ++ (List.range k).map f) → Q v' h1) : EvP T X (.call cl) σ h Q := by
  rcases Nat.eq_zero_or_pos k with rfl | hk
  · have V0 : Vec col c h e 1 v (m + 0) (cs ++ (List.range 0).map f) := by simpa using V
    refine EvP.eff (v := v) (h' := h) (by simp only [kindOf, hcl]) ?_ (Nat.le_refl _) (H v h col (Step.refl S) S V0)
    have hx : alenOf x = some 0 ∧ afirst h 1 0 x = some [] := by
      cases row with
      | nil => exact ⟨rfl, rfl⟩
      | empty => exact ⟨rfl, rfl⟩
      | mk hc _ => exact ⟨rfl, first0 hc nz⟩
    have hap : aappend T h t xt v x = some (v, h) := by
      cases V with
      | nil => simp [aappend, ht, hxt, hei, hsz, hx.1, hx.2]
      | @mk id _ cap ex _ tail hg hc hn hxx =>
        cases ex with
        | true => simp [aappend, ht, hxt, hei, hsz, hx.1, hx.2, (hxx rfl).1]
        | false =>
          have hs : szOf T e = 1 := by simp [szOf, hei, hsz]
          simp [aappend, ht, hxt, hei, hsz, hx.1, hx.2, ownOf, hg, hs]
          omega
    simp only [feff, hcl, hts, hargs, hv, hy, hap, rb, Option.map_some]
  · obtain ⟨h1, h2⟩ := row.first1 hk
    refine EvP.appendC S V h0 hcl hts hargs hv hy ht hxt hei hsz (by decide) hz h1 h2 (by simp) hk ?_ hb hq H
    rw [List.all_eq_true]
    intro u hu
    obtain ⟨i, hi, rfl⟩ := List.mem_map.1 hu
    exact hsc i (List.mem_range.1 hi)
theorem RowOf.firstN {k j : Nat} {x : AV} {f : Nat → AV} (row : RowOf h 1 x k (fun i => [f i])) (nz : NZ x) (hj : j ≤ k) : alenOf x = some k ∧ afirst h 1 j x = some ((List.range j).map f) := by
  cases row with
  | nil => obtain rfl : j = 0 := by omega
           exact ⟨rfl, rfl⟩
  | empty => obtain rfl : j = 0 := by omega
             exact ⟨rfl, rfl⟩
  | @mk id off _ cap ex cs _ hc hg =>
    rcases Nat.eq_zero_or_pos k with rfl | hk
    · obtain rfl : j = 0 := by omega
      exact ⟨rfl, first0 hc nz⟩
    obtain ⟨_, h1⟩ := (RowOf.mk (cap := cap) (ex := ex) hc hg).first1 (f := f) hk
    refine ⟨rfl, ?_⟩
    simp only [afirst, hc, Nat.mul_one, sub] at h1 ⊢
    split at h1
    · rename_i hl
      rw [if_pos (by omega)]
      simp only [Option.some.injEq] at h1
      congr 1
      have : ((cs.drop off).take k).take j = (cs.drop off).take j := by rw [List.take_take]; congr 1; omega
      rw [← this, h1, ← List.map_take, List.take_range]
      congr 2; omega
    · cases h1
/-- copy. -/
theorem EvP.copyC {G : AH} {col : Nat → Nat} {cl : Call} {s y : Operand} {ts : List TypeId} {c e m k : Nat} {v x : AV} {cs : List AV} {f : Nat → AV} {t : TypeId} {ei : TInfo} {Q : AV → AH → Prop} (S : HS G h col) (V : Vec col c h e 1 v m cs) (h0 : c ≠ 0) (row : RowOf h 1 x k (fun i => [f i])) (nz : NZ x) (hsc : ∀ i, i < k → scalar (f i) = true)
    (hcl : cl.callee = .builtin .copy) (hts : cl.argTypes.toList = t :: ts) (hargs : cl.args.toList = [s, y]) (hv : evf σ s = v) (hy : evf σ y = x) (ht : descOf T t = .slice e) (hei : T.tt.get e = some ei) (hsz : ei.size = 1)
    (H : ∀ h1, Step (fun x => x = c) col h col h1 → HS G h1 col → Vec col c h1 e 1 v m ((List.range (Nat.min k m)).map f ++ cs.drop (Nat.min k m)) → Q (.int .i64 (Nat.min k m)) h1) : EvP T X (.call cl) σ h Q := by
  have hmin : Nat.min k m ≤ k := Nat.min_le_left ..
  have hmin2 : Nat.min k m ≤ m := Nat.min_le_right ..
  obtain ⟨h1, h2⟩ := row.firstN nz hmin
  have hdl : alenOf v = some m := by cases V <;> rfl
  generalize hj : Nat.min k m = j at *
  have hlen : ((List.range j).map f).length = j * 1 := by simp
  have key : ∃ h1, acopy T h t v x = some (.int .i64 j, h1) ∧ Step (fun x => x = c) col h col h1 ∧ Vec col c h1 e 1 v m ((List.range j).map f ++ cs.drop j) := by
    have hjm : Nat.min k m = j := hj
    rcases Nat.eq_zero_or_pos j with rfl | hpos
    · refine ⟨h, ?_, Step.refl S, by simpa using V⟩
      cases V with
      | nil => simp only [acopy, ht, hei, h1, hdl, hsz, hjm, h2, hlen, ne_eq, not_true, if_false]
      | mk =>
        simp only [acopy, ht, hei, h1, hdl, hsz, hjm, h2, hlen, ne_eq, not_true, if_false]
        rw [if_pos (by simp)]
    · cases V with
      | nil => omega
      | @mk id _ cap ex _ tail hg hc hn hxx =>
        rw [Nat.mul_one] at hn
        have hall : ((List.range j).map f).all scalar = true := by
          rw [List.all_eq_true]
          intro u hu
          obtain ⟨i, hi, rfl⟩ := List.mem_map.1 hu
          exact hsc i (by have := List.mem_range.1 hi; omega)
        have hset : lsetMany (cs ++ tail) 0 ((List.range j).map f) = ((List.range j).map f ++ cs.drop j) ++ tail := by
          have := lsetMany_append ([] : List AV) (cs ++ tail) ((List.range j).map f) (by simp; omega)
          simp only [List.nil_append, List.length_nil] at this
          rw [this, List.length_map, List.length_range, List.drop_append_of_le_length (by omega), List.append_assoc]
        refine ⟨h.upd id (.cells (lsetMany (cs ++ tail) 0 ((List.range j).map f)) e false), ?_, upd_step S.wf S.fresh hg hc, ?_⟩
        · have hne : (List.range j).map f ≠ [] := by
            intro e
            have := congrArg List.length e
            simp at this; omega
          simp only [acopy, ht, hei, h1, hdl, hsz, hjm, h2, hlen, ne_eq, not_true, if_false, if_neg hne, ownOf, hg, put?]
          rw [if_pos ⟨hall, by simp; omega⟩]; rfl
        · rw [hset]
          exact .mk (get_upd ..) hc (by simp; omega) (fun e => by
            have := hxx e
            simp only [List.length_append, List.length_map, List.length_range, List.length_drop] at this ⊢
            omega)
  obtain ⟨h3, k1, k2, k3⟩ := key
  refine EvP.eff (by simp only [kindOf, hcl]) ?_ k2.nx (H h3 k2 (S.step k2 (fun e => h0 e.symm)) k3)
  simp only [feff, hcl, hts, hargs, hv, hy, k1, rb, Option.map_some]
theorem EvO.mono {ops rest : List Oper} {Q' : (Nat → AV) → AH → Prop} (Q : (Nat → AV) → AH → Prop) (H : EvO T X n ops rest σ h Q) (hQ : ∀ σ' h', Q σ' h' → Q' σ' h') : EvO T X n ops rest σ h Q' := by
  obtain ⟨K, σ', h', h1, h2, h3⟩ := H
  exact ⟨K, σ', h', h1, h2, hQ _ _ h3⟩
end Go.AI
/- Regions that draw their order, where something acts: what is looked at twice lies in what stays. -/
namespace Go.AI
/-- 'G' stays until the act number 'm'; 'j': how many acted before. -/
def Stays (T : Tab) (m : Nat) : AH → Nat → List Rec → Prop
  | _, _, [] => True
  | G, j, r :: rs => r.s.lo = j ∧ (r.s.eff = true → j < m → G.le r.h') ∧ (r.go = true → r.s.lo < r.s.hi → kindOf T r.o.op = .quiet → r.s.hi ≤ m ∧ ∃ v, aquiet T r.env G r.o.op = some v ∧ veq r.v v = true) ∧
    ∃ G', Stays T m G' (if r.s.eff then j + 1 else j) rs ∧ G.le G' ∧ (r.go = true → r.s.eff = false → r.s.lo < r.s.hi → kindOf T r.o.op = .fresh → r.s.hi ≤ m ∧ ∃ o mk, afresh T r.env r.o.op = some (o, mk) ∧ oeq o o = true ∧ G'.t.get r.h.next = some o)
variable {T : Tab} {X : Oracle} {n m j : Nat} {σ : Nat → AV} {h G : AH}
theorem stays_le : ∀ {rs : List Rec} {G : AH} {j : Nat}, Stays T m G j rs → ∀ c, j + c ≤ m → ∀ e ∈ (rs.filter (·.s.eff)).take c, G.le e.h'
  | [], _, _, _, _, _, e, he => by simp at he
  | r :: rs, G, j, hg, c, hc, e, he => by
    obtain ⟨h1, h2, _, G', h3, h4, _⟩ := hg
    cases hr : r.s.eff with
    | true =>
      rw [List.filter_cons_of_pos (by simpa using hr)] at he
      rw [hr] at h3
      simp only [if_true] at h3
      cases c with
      | zero => simp at he
      | succ c =>
        rw [List.take_succ_cons] at he
        rcases List.mem_cons.1 he with rfl | he
        · exact h2 hr (by omega)
        · exact AH.le.trans' h4 (stays_le h3 c (by omega) e he)
    | false =>
      rw [List.filter_cons_of_neg (by simpa using hr)] at he
      rw [hr] at h3
      exact AH.le.trans' h4 (stays_le h3 c hc e he)
theorem stays_recheck : ∀ {rs : List Rec} {G : AH} {j : Nat}, Stays T m G j rs → recheck T rs = true
  | [], _, _, _ => rfl
  | r :: rs, G, j, hg => by
    obtain ⟨h0, _, hq, G', h1, h2, hf⟩ := hg
    simp only [recheck, stays_recheck h1, Bool.and_true, Bool.or_eq_true]
    cases he : r.s.eff with
    | true => left; rfl
    | false =>
      right
      rw [he] at h1
      rw [List.all_eq_true]
      intro e hm
      have hlt : r.s.lo < r.s.hi := by
        rcases Nat.lt_or_ge r.s.lo r.s.hi with hl | hl
        · exact hl
        · rw [Nat.sub_eq_zero_of_le hl] at hm; simp at hm
      cases hgo : r.go with
      | false => simp [again, hgo]
      | true =>
        cases hk : kindOf T r.o.op with
        | eff => simp [again, hk]
        | quiet =>
          obtain ⟨h5, v, h3, h4⟩ := hq hgo hlt hk
          have := quiet_mono (AH.le.trans' h2 (stays_le h1 (r.s.hi - r.s.lo) (by simp only [Bool.false_eq_true, if_false]; omega) e hm)) h3
          simp [again, hgo, hk, this, h4]
        | fresh =>
          obtain ⟨h5, o, mk, h3, h4, h6⟩ := hf hgo he hlt hk
          have := stays_le h1 (r.s.hi - r.s.lo) (by simp only [Bool.false_eq_true, if_false]; omega) e hm _ _ h6
          simp [again, hgo, hk, h3, this, h4]
variable (T X) in
structure EvH (m : Nat) (G : AH) (j : Nat) (n : Nat) (ops : List Oper) (p : List PStep) (σ : Nat → AV) (h : AH) (Q : (Nat → AV) → AH → Prop) : Prop where
  out : ∃ K σ' h', (∀ env, Env.at env = σ → ∀ k, K ≤ k → ∃ rs env', Env.at env' = σ' ∧ arun T X k n ops p env h = some (rs, env', h') ∧ Stays T m G j rs) ∧ h.next ≤ h'.next ∧ Q σ' h'
theorem EvC.drawnH (m : Nat) (G : AH) {id : Nat} {ops : Array Oper} {l : List Oper} {p : List PStep} {Q : AExit → (Nat → AV) → AH → Prop} (hl : ops.toList = l) (hp : plan T l = p) (hk : planOk T l p = true) (H : EvH T X m G 0 n l p σ h (Q .normal)) : EvC T X n (.region id ops true) σ h Q := by
  subst hl; subst hp
  obtain ⟨K, e, h', h1, h2, h3⟩ := H
  refine ⟨K + 1, .normal, e, h', fun env he k hk' => ?_, h2, h3⟩
  obtain ⟨j, rfl, hj⟩ := up hk'
  obtain ⟨rs, env1, a1, a2, hr⟩ := h1 env he j (by omega)
  exact ⟨env1, a1, by simp only [acode, hk, if_true, a2, stays_recheck hr]⟩
theorem EvH.nil {ops : List Oper} {Q : (Nat → AV) → AH → Prop} (H : Q σ h) : EvH T X m G j n ops [] σ h Q := by
  refine ⟨1, σ, h, fun env he k hk => ?_, Nat.le_refl _, H⟩
  obtain ⟨j, rfl, hj⟩ := up hk
  exact ⟨[], env, he, by simp only [arun], trivial⟩
/-- What is found in what stays. -/
theorem EvH.quietG {ops : List Oper} {s : PStep} {p : List PStep} {o : Oper} {d : Nat} {v : AV} {Q : (Nat → AV) → AH → Prop} (hG : G.le h) (hj : Nat.beq s.lo j = true) (hs : s.eff = false) (hm : Nat.ble s.hi m = true) (ho : lget ops s.idx = some o) (hg : o.guard = none) (hd : o.dst = some d) (hn : Nat.ble (d + 1) n = true) (hk : kindOf T o.op = .quiet)
    (hv : fquiet T (evf σ) G o.op = some v) (hq : veq v v = true) (H : EvH T X m G j n ops p (upd σ d v) h Q) : EvH T X m G j n ops (s :: p) σ h Q := by
  have hn : d < n := Nat.le_of_ble_eq_true hn
  obtain ⟨K', e, h'', g1, g2, g3⟩ := H
  refine ⟨K' + 2, e, h'', fun env he k hk' => ?_, g2, g3⟩
  obtain ⟨j', rfl, hj'⟩ := up hk'
  obtain ⟨i, rfl, hi⟩ := up hj'
  obtain ⟨rs, env2, b1, b2, b3⟩ := g1 (env.put d v) (by rw [at_upd, he]) (i + 1) (by omega)
  have hvG : aquiet T env G o.op = some v := by rw [fquiet_eq, aev_evf, he]; exact hv
  have hv' : aquiet T env h o.op = some v := quiet_mono hG hvG
  have hop : aop T X (i + 1) env h o.op = some (v, h) := by simp only [aop, hk, hv']
  have hgo : guardOk env ops o = some true := by simp only [guardOk, hg]
  refine ⟨⟨s, o, env, h, true, v, h⟩ :: rs, env2, b1, by simp only [arun, ho, hgo, hop, putDst, hd, if_pos hn, if_neg (Nat.lt_irrefl _), b2], Nat.eq_of_beq_eq_true hj, (fun _ _ => hG), (fun _ _ _ => ⟨Nat.le_of_ble_eq_true hm, v, hvG, hq⟩), G, ?_, (fun _ _ e => e), (fun _ _ _ e => nomatch hk.symm.trans e)⟩
  show Stays T m G (if s.eff then j + 1 else j) rs
  rw [hs]; exact b3
/-- What is looked at but once. -/
theorem EvH.quiet1 {ops : List Oper} {s : PStep} {p : List PStep} {o : Oper} {d : Nat} {v : AV} {Q : (Nat → AV) → AH → Prop} (hj : Nat.beq s.lo j = true) (hs : s.eff = false) (ho : lget ops s.idx = some o) (hg : o.guard = none) (hd : o.dst = some d) (hn : Nat.ble (d + 1) n = true) (hk : kindOf T o.op = .quiet) (h1 : Nat.ble s.hi s.lo = true)
    (hv : fquiet T (evf σ) h o.op = some v) (H : EvH T X m G j n ops p (upd σ d v) h Q) : EvH T X m G j n ops (s :: p) σ h Q := by
  have hn : d < n := Nat.le_of_ble_eq_true hn
  have h1 := Nat.le_of_ble_eq_true h1
  obtain ⟨K', e, h'', g1, g2, g3⟩ := H
  refine ⟨K' + 2, e, h'', fun env he k hk' => ?_, g2, g3⟩
  obtain ⟨j', rfl, hj'⟩ := up hk'
  obtain ⟨i, rfl, hi⟩ := up hj'
  obtain ⟨rs, env2, b1, b2, b3⟩ := g1 (env.put d v) (by rw [at_upd, he]) (i + 1) (by omega)
  have hv' : aquiet T env h o.op = some v := by rw [fquiet_eq, aev_evf, he]; exact hv
  have hop : aop T X (i + 1) env h o.op = some (v, h) := by simp only [aop, hk, hv']
  have hgo : guardOk env ops o = some true := by simp only [guardOk, hg]
  refine ⟨⟨s, o, env, h, true, v, h⟩ :: rs, env2, b1, by simp only [arun, ho, hgo, hop, putDst, hd, if_pos hn, if_neg (Nat.lt_irrefl _), b2], Nat.eq_of_beq_eq_true hj, (fun e => nomatch hs.symm.trans e), (fun _ hl _ => absurd h1 (Nat.not_le.2 hl)), G, ?_, (fun _ _ e => e), (fun _ _ _ e => nomatch hk.symm.trans e)⟩
  show Stays T m G (if s.eff then j + 1 else j) rs
  rw [hs]; exact b3
/-- An operation that acts. -/
theorem EvH.act {ops : List Oper} {s : PStep} {p : List PStep} {o : Oper} {d : Nat} {Q : (Nat → AV) → AH → Prop} (hj : Nat.beq s.lo j = true) (hs : s.eff = true) (ho : lget ops s.idx = some o) (hg : o.guard = none) (hd : o.dst = some d) (hn : Nat.ble (d + 1) n = true) (hk : kindOf T o.op = .eff)
    (H : EvP T X o.op σ h fun v h' => (j < m → G.le h') ∧ EvH T X m G (j + 1) n ops p (upd σ d v) h' Q) : EvH T X m G j n ops (s :: p) σ h Q := by
  have hn : d < n := Nat.le_of_ble_eq_true hn
  obtain ⟨K, v, h', h1, h2, hle, K', e, h'', g1, g2, g3⟩ := H
  refine ⟨max K K' + 1, e, h'', fun env he k hk' => ?_, Nat.le_trans h2 g2, g3⟩
  obtain ⟨j', rfl, hj'⟩ := up hk'
  obtain ⟨rs, env2, b1, b2, b3⟩ := g1 (env.put d v) (by rw [at_upd, he]) j' (by omega)
  have hgo : guardOk env ops o = some true := by simp only [guardOk, hg]
  refine ⟨⟨s, o, env, h, true, v, h'⟩ :: rs, env2, b1, by simp only [arun, ho, hgo, h1 env he j' (by omega), putDst, hd, if_pos hn, if_neg (Nat.not_lt.2 h2), b2], Nat.eq_of_beq_eq_true hj, (fun _ hl => hle hl), (fun _ _ e => nomatch hk.symm.trans e), G, ?_, (fun _ _ e => e), (fun _ _ _ e => nomatch hk.symm.trans e)⟩
  show Stays T m G (if s.eff then j + 1 else j) rs
  rw [hs]; exact b3
theorem EvH.act0 {ops : List Oper} {s : PStep} {p : List PStep} {o : Oper} {Q : (Nat → AV) → AH → Prop} (hj : Nat.beq s.lo j = true) (hs : s.eff = true) (ho : lget ops s.idx = some o) (hg : o.guard = none) (hd : o.dst = none) (hk : kindOf T o.op = .eff)
    (H : EvP T X o.op σ h fun _ h' => (j < m → G.le h') ∧ EvH T X m G (j + 1) n ops p σ h' Q) : EvH T X m G j n ops (s :: p) σ h Q := by
  obtain ⟨K, v, h', h1, h2, hle, K', e, h'', g1, g2, g3⟩ := H
  refine ⟨max K K' + 1, e, h'', fun env he k hk' => ?_, Nat.le_trans h2 g2, g3⟩
  obtain ⟨j', rfl, hj'⟩ := up hk'
  obtain ⟨rs, env2, b1, b2, b3⟩ := g1 env he j' (by omega)
  have hgo : guardOk env ops o = some true := by simp only [guardOk, hg]
  refine ⟨⟨s, o, env, h, true, v, h'⟩ :: rs, env2, b1, by simp only [arun, ho, hgo, h1 env he j' (by omega), putDst, hd, if_neg (Nat.not_lt.2 h2), b2], Nat.eq_of_beq_eq_true hj, (fun _ hl => hle hl), (fun _ _ e => nomatch hk.symm.trans e), G, ?_, (fun _ _ e => e), (fun _ _ _ e => nomatch hk.symm.trans e)⟩
  show Stays T m G (if s.eff then j + 1 else j) rs
  rw [hs]; exact b3
/-- A new object, which stays, too. -/
theorem EvH.new {ops : List Oper} {s : PStep} {p : List PStep} {o : Oper} {d : Nat} {b : AObj} {mk : Mk} {Q : (Nat → AV) → AH → Prop} {col : Nat → Nat} {G0 : AH} (S : HS G0 h col) (hG : G.le h) (hj : Nat.beq s.lo j = true) (hs : s.eff = false) (hm : Nat.ble s.hi m = true) (ho : lget ops s.idx = some o) (hg : o.guard = none) (hd : o.dst = some d) (hn : Nat.ble (d + 1) n = true) (hk : kindOf T o.op = .fresh) (hv : ffresh T (evf σ) o.op = some (b, mk)) (hq : oeq b b = true)
    (H : ∀ h1 id, Step (fun _ => False) col h col h1 → HS (G0.add id b) h1 col → G0.le (G0.add id b) → (G.add id b).le h1 → G.le (G.add id b) → h1.t.get id = some b → col id = 0 → h.next ≤ id → EvH T X m (G.add id b) j n ops p (upd σ d (mk.av id)) h1 Q) : EvH T X m G j n ops (s :: p) σ h Q := by
  have hn : d < n := Nat.le_of_ble_eq_true hn
  have A := new_step0 S.wf S.fresh b
  have S1 := S.step A (fun e => e)
  have hc : col h.next = 0 := S.fresh _ (Nat.le_refl _)
  have hnone : h.t.get h.next = none := S.wf _ (Nat.le_refl _)
  have hGn : G.t.get h.next = none := by
    cases e : G.t.get h.next with
    | none => rfl
    | some o' => have := hG _ _ e; rw [hnone] at this; cases this
  have hle : h.le (h.new b).2 := AH.le_new b hnone
  have hGl : (G.add h.next b).le (h.new b).2 := fun i o' e' => by
    simp only [AH.add, Tree.get_put] at e'
    split at e'
    · rename_i hi; cases e'; rw [hi]; exact get_new ..
    · exact hle _ _ (hG i o' e')
  have hGG : G.le (G.add h.next b) := fun i o' e' => by
    simp only [AH.add, Tree.get_put]
    split
    · rename_i hi; rw [hi, hGn] at e'; cases e'
    · exact e'
  obtain ⟨K', e, h'', g1, g2, g3⟩ := H _ _ A (S1.add (get_new ..) hc) (S1.le_add (get_new ..)) hGl hGG (get_new ..) hc (Nat.le_refl _)
  refine ⟨K' + 2, e, h'', fun env he k hk' => ?_, Nat.le_trans A.nx g2, g3⟩
  obtain ⟨j', rfl, hj'⟩ := up hk'
  obtain ⟨i, rfl, hi⟩ := up hj'
  obtain ⟨rs, env2, b1, b2, b3⟩ := g1 (env.put d (mk.av h.next)) (by rw [at_upd, he]) (i + 1) (by omega)
  have hv' : afresh T env o.op = some (b, mk) := by rw [ffresh_eq, aev_evf, he]; exact hv
  have hop : aop T X (i + 1) env h o.op = some (mk.av h.next, (h.new b).2) := by simp only [aop, hk, hv', hnone]
  have hgo : guardOk env ops o = some true := by simp only [guardOk, hg]
  refine ⟨⟨s, o, env, h, true, mk.av h.next, (h.new b).2⟩ :: rs, env2, b1, by simp only [arun, ho, hgo, hop, putDst, hd, if_pos hn, if_neg (Nat.not_lt.2 A.nx), b2], Nat.eq_of_beq_eq_true hj, (fun e => nomatch hs.symm.trans e), (fun _ _ e => nomatch hk.symm.trans e), G.add h.next b, ?_, hGG, (fun _ _ _ _ => ⟨Nat.le_of_ble_eq_true hm, b, mk, hv', hq, AH.get_add ..⟩)⟩
  show Stays T m _ (if s.eff then j + 1 else j) rs
  rw [hs]; exact b3
theorem EvH.easyG {ops : List Oper} {s : PStep} {p : List PStep} {o : Oper} {d : Nat} {v : AV} {Q : (Nat → AV) → AH → Prop} (hG : G.le h) (hj : Nat.beq s.lo j = true) (hs : s.eff = false) (hm : Nat.ble s.hi m = true) (ho : lget ops s.idx = some o) (_he : easy ops o.op = true) (hg : o.guard = none) (hd : o.dst = some d) (hn : Nat.ble (d + 1) n = true) (hk : kindOf T o.op = .quiet)
    (hv : fquiet T (evf σ) G o.op = some v) (hq : veq v v = true) (H : EvH T X m G j n ops p (upd σ d v) h Q) : EvH T X m G j n ops (s :: p) σ h Q := EvH.quietG hG hj hs hm ho hg hd hn hk hv hq H
theorem EvH.easy1 {ops : List Oper} {s : PStep} {p : List PStep} {o : Oper} {d : Nat} {v : AV} {Q : (Nat → AV) → AH → Prop} (hj : Nat.beq s.lo j = true) (hs : s.eff = false) (ho : lget ops s.idx = some o) (_he : easy ops o.op = true) (hg : o.guard = none) (hd : o.dst = some d) (hn : Nat.ble (d + 1) n = true) (hk : kindOf T o.op = .quiet) (h1 : Nat.ble s.hi s.lo = true)
    (hv : fquiet T (evf σ) h o.op = some v) (H : EvH T X m G j n ops p (upd σ d v) h Q) : EvH T X m G j n ops (s :: p) σ h Q := EvH.quiet1 hj hs ho hg hd hn hk h1 hv H
theorem neg64 {a : Int} (hr : -9223372036854775808 ≤ -a ∧ -a ≤ 9223372036854775807) : some (AV.int .i64 (IntKind.i64.wrap (0 - a))) = some (.int .i64 (-a)) := by
  rw [Int.zero_sub, IntWalk.i64_in _ hr]
def simpleV : AV → Bool
  | .bool _ | .int .. | .str _ | .ptr .. | .glob .. | .nilPtr | .slice .. | .nilSlice | .eslice | .map _ | .nilMap | .nilFunc | .nilIface => true
  | _ => false
theorem veq_s {v : AV} (h : simpleV v = true) : veq v v = true := by
  cases v <;> simp_all [simpleV, veq]
theorem Vec.veq {col : Nat → Nat} {c e sz m : Nat} {v : AV} {cs : List AV} (V : Vec col c h e sz v m cs) : Go.AI.veq v v = true := by
  cases V <;> simp [Go.AI.veq]
end Go.AI
/- Maps of one's own whose keys are whole numbers. -/
namespace Go.AI
variable {T : Tab} {X : Oracle} {G h h1 : AH} {col col1 : Nat → Nat} {R : Nat → Prop} {σ : Nat → AV}
def mget : List (Int × AV) → Int → Option AV
  | [], _ => none
  | p :: m, k => if p.1 = k then some p.2 else mget m k
def mput : List (Int × AV) → Int → AV → List (Int × AV)
  | [], k, v => [(k, v)]
  | p :: m, k, v => if p.1 = k then (k, v) :: m else p :: mput m k v
def mdel : List (Int × AV) → Int → List (Int × AV)
  | [], _ => []
  | p :: m, k => if p.1 = k then m else p :: mdel m k
theorem mget_none : ∀ {m : List (Int × AV)} {k : Int}, mget m k = none ↔ k ∉ m.map (·.1)
  | [], k => by simp [mget]
  | p :: m, k => by
    unfold mget
    split
    · rename_i h; subst h; simp
    · rename_i h
      have h' : ¬ k = p.1 := fun e => h e.symm
      rw [mget_none (m := m)]; simp [h']
theorem mget_mput : ∀ (m : List (Int × AV)) (k : Int) (v : AV) (k' : Int), mget (mput m k v) k' = if k = k' then some v else mget m k'
  | [], k, v, k' => by simp [mput, mget]
  | p :: m, k, v, k' => by
    unfold mput
    split
    · rename_i h
      subst h
      simp only [mget]
      split <;> rfl
    · rename_i h
      simp only [mget, mget_mput m k v k']
      split
      · rename_i h2; subst h2
        rw [if_neg (fun e => h e.symm)]
      · rfl
theorem mput_keys : ∀ (m : List (Int × AV)) (k : Int) (v : AV), (mput m k v).map (·.1) = if k ∈ m.map (·.1) then m.map (·.1) else m.map (·.1) ++ [k]
  | [], k, v => by simp [mput]
  | p :: m, k, v => by
    unfold mput
    split
    · rename_i h; subst h; simp
    · rename_i h
      have h' : ¬ k = p.1 := fun e => h e.symm
      rw [List.map_cons, mput_keys m k v]
      by_cases hk : k ∈ m.map (·.1)
      · rw [if_pos hk, if_pos (by simp only [List.map_cons, List.mem_cons]; exact .inr hk)]; rfl
      · rw [if_neg hk, if_neg (by simp only [List.map_cons, List.mem_cons, not_or]; exact ⟨h', hk⟩)]; rfl
theorem mput_nodup {m : List (Int × AV)} (h : (m.map (·.1)).Nodup) (k : Int) (v : AV) : ((mput m k v).map (·.1)).Nodup := by
  rw [mput_keys]
  split
  · exact h
  · rename_i hk
    rw [List.nodup_append]
    exact ⟨h, by simp, fun a ha b hb e => by simp at hb; subst hb; subst e; exact hk ha⟩
theorem mdel_keys : ∀ (m : List (Int × AV)) (k : Int), (mdel m k).map (·.1) = (m.map (·.1)).erase k
  | [], k => by simp [mdel]
  | p :: m, k => by
    unfold mdel
    split
    · rename_i h; subst h; simp
    · rename_i h
      rw [List.map_cons, List.map_cons, mdel_keys m k, List.erase_cons_tail (by simpa using h)]
theorem mdel_nodup {m : List (Int × AV)} (h : (m.map (·.1)).Nodup) (k : Int) : ((mdel m k).map (·.1)).Nodup := by
  rw [mdel_keys]; exact h.erase k
theorem mget_mdel : ∀ {m : List (Int × AV)} (_ : (m.map (·.1)).Nodup) (k k' : Int), mget (mdel m k) k' = if k = k' then none else mget m k'
  | [], _, k, k' => by simp [mdel, mget]
  | p :: m, h, k, k' => by
    rw [List.map_cons, List.nodup_cons] at h
    unfold mdel
    split
    · rename_i h2; subst h2
      split
      · rename_i h3; subst h3; exact mget_none.2 h.1
      · rename_i h3; simp only [mget]; rw [if_neg h3]
    · rename_i h2
      simp only [mget, mget_mdel h.2 k k']
      split
      · rename_i h3; subst h3; rw [if_neg (fun e => h2 e.symm)]
      · rfl
inductive Ents : List AEntry → List (Int × AV) → Prop
  | nil : Ents [] []
  | cons {e : AEntry} {es : List AEntry} {p : Int × AV} {m : List (Int × AV)} (hk : e.key = .int .i64 p.1) (hv : e.val = p.2) (H : Ents es m) : Ents (e :: es) (p :: m)
theorem Ents.length {es : List AEntry} {m : List (Int × AV)} (H : Ents es m) : es.length = m.length := by
  induction H with
  | nil => rfl
  | cons _ _ _ ih => simp [ih]
theorem Ents.push {es : List AEntry} {m : List (Int × AV)} (H : Ents es m) {k : Int} {v : AV} (c : Nat) (hk : mget m k = none) : Ents (es ++ [{ key := .int .i64 k, val := v, born := c }]) (mput m k v) := by
  induction H with
  | nil => exact .cons rfl rfl .nil
  | @cons e es p m h1 h2 H ih =>
    simp only [mget] at hk
    split at hk
    · cases hk
    · rename_i hn
      unfold mput
      rw [if_neg hn]
      exact .cons h1 h2 (ih hk)
theorem Ents.find {kt : TypeId} {q : IntKind} {k : Int} {es : List AEntry} {m : List (Int × AV)} (H : Ents es m) : ∀ i, (mget m k = none ∧ findkey T (kt, .int q) (.int .i64 k) es i = some none) ∨
    ∃ j v, mget m k = some v ∧ findkey T (kt, .int q) (.int .i64 k) es i = some (some (i + j, v)) ∧ (∀ u, Ents (modEntry (fun e => { e with key := .int .i64 k, val := u }) es j) (mput m k u)) ∧ Ents (es.eraseIdx j) (mdel m k) := by
  induction H with
  | nil => exact fun i => .inl ⟨rfl, rfl⟩
  | @cons e es p m h1 h2 H ih =>
    intro i
    have hs : samekey T (kt, .int q) (.int .i64 k) e.key = some (k == p.1) := by rw [h1]; rfl
    by_cases hk : p.1 = k
    · right
      refine ⟨0, p.2, by simp only [mget]; rw [if_pos hk], ?_, fun u => ?_, ?_⟩
      · simp only [findkey, hs, hk, beq_self_eq_true, h2, Nat.add_zero]
      · simp only [modEntry, mput]; rw [if_pos hk]; exact .cons rfl rfl H
      · simp only [List.eraseIdx_cons_zero, mdel]; rw [if_pos hk]; exact H
    · have hkf : (k == p.1) = false := by rw [beq_eq_false_iff_ne]; exact fun e => hk e.symm
      rcases ih (i + 1) with ⟨g1, g2⟩ | ⟨j, v, g1, g2, g3, g4⟩
      · left
        exact ⟨by simp only [mget]; rw [if_neg hk]; exact g1, by simp only [findkey, hs, hkf]; exact g2⟩
      · right
        refine ⟨j + 1, v, by simp only [mget]; rw [if_neg hk]; exact g1, ?_, fun u => ?_, ?_⟩
        · simp only [findkey, hs, hkf]; rw [g2]; congr 3; omega
        · simp only [modEntry, mput]; rw [if_neg hk]; exact .cons h1 h2 (g3 u)
        · simp only [List.eraseIdx_cons_succ, mdel]; rw [if_neg hk]; exact .cons h1 h2 g4
/-- When each entry came: at times of its own, before now. -/
def Born (es : List AEntry) (clk : Nat) : Prop := (es.map (·.born)).Nodup ∧ ∀ b ∈ es.map (·.born), b < clk
theorem Born.push {es : List AEntry} {clk : Nat} (h : Born es clk) (k v : AV) : Born (es ++ [{ key := k, val := v, born := clk }]) (clk + 1) := by
  obtain ⟨h1, h2⟩ := h
  constructor
  · rw [List.map_append, List.nodup_append]
    exact ⟨h1, by simp, fun a ha b hb e => by simp at hb; subst hb; subst e; exact absurd (h2 _ ha) (Nat.lt_irrefl _)⟩
  · intro b hb
    rw [List.map_append] at hb
    rcases List.mem_append.1 hb with h | h
    · exact Nat.lt_succ_of_lt (h2 b h)
    · simp at h; omega
theorem mod_born {f : AEntry → AEntry} (hf : ∀ e, (f e).born = e.born) : ∀ (es : List AEntry) (i : Nat), (modEntry f es i).map (·.born) = es.map (·.born)
  | [], _ => rfl
  | e :: es, 0 => by simp [modEntry, hf]
  | e :: es, i + 1 => by simp [modEntry, mod_born hf es i]
theorem Born.mod {es : List AEntry} {clk : Nat} (h : Born es clk) {f : AEntry → AEntry} (hf : ∀ e, (f e).born = e.born) (i : Nat) : Born (modEntry f es i) clk := by
  unfold Born; rw [mod_born hf]; exact h
theorem Born.erase {es : List AEntry} {clk : Nat} (h : Born es clk) (i : Nat) : Born (es.eraseIdx i) clk := by
  have hs : ((es.eraseIdx i).map (·.born)).Sublist (es.map (·.born)) := (List.eraseIdx_sublist es i).map _
  exact ⟨h.1.sublist hs, fun b hb => h.2 b (hs.subset hb)⟩
/-- A map of one's own. -/
inductive MapI (col : Nat → Nat) (c : Nat) (h : AH) : AV → List (Int × AV) → Prop
  | mk {r clk : Nat} {es : List AEntry} {m : List (Int × AV)} (hg : h.t.get r = some (.map es clk)) (hc : col r = c) (he : Ents es m) (hn : (m.map (·.1)).Nodup) (hb : Born es clk) : MapI col c h (.map r) m
variable {c : Nat} {mv : AV} {m : List (Int × AV)} {t kt : TypeId} {q : IntKind} {z : AV}
theorem MapI.nodup (M : MapI col c h mv m) : (m.map (·.1)).Nodup := by cases M; assumption
theorem MapI.step (M : MapI col c h mv m) (A : Step R col h col1 h1) (hw : WF h) (hc : ¬ R c) : MapI col1 c h1 mv m := by
  cases M with
  | mk hg hc' he hn hb =>
    obtain ⟨h3, h4⟩ := A.get hw hg (by rw [hc']; exact hc)
    exact .mk h3 (h4.trans hc') he hn hb
theorem MapI.le (M : MapI col c h mv m) (hl : h.le h1) : MapI col c h1 mv m := by
  cases M with
  | mk hg hc he hn hb => exact .mk (hl _ _ hg) hc he hn hb
theorem MapI.new {r : Nat} (hg : h.t.get r = some (.map [] 0)) (hc : col r = c) : MapI col c h (.map r) [] := .mk hg hc .nil (by simp) ⟨by simp, fun b hb => by simp at hb⟩
theorem MapI.look (M : MapI col c h mv m) (hk : ∀ k, keyed T t (.int .i64 k) = some ((kt, .int q), z)) (k : Int) : alookup T h t mv (.int .i64 k) false = some ((mget m k).getD z) := by
  cases M with
  | mk hg hc he hn hb =>
    unfold alookup
    simp only [hk, entriesOf, hg, Option.map_some]
    rcases he.find (T := T) (kt := kt) (q := q) (k := k) 0 with ⟨g1, g2⟩ | ⟨j, v, g1, g2, _⟩
    · simp [g1, g2]
    · simp [g1, g2]
theorem MapI.look2 (M : MapI col c h mv m) (hk : ∀ k, keyed T t (.int .i64 k) = some ((kt, .int q), z)) (k : Int) : alookup T h t mv (.int .i64 k) true = some (.tuple [(mget m k).getD z, .bool (mget m k).isSome]) := by
  cases M with
  | mk hg hc he hn hb =>
    unfold alookup
    simp only [hk, entriesOf, hg, Option.map_some]
    rcases he.find (T := T) (kt := kt) (q := q) (k := k) 0 with ⟨g1, g2⟩ | ⟨j, v, g1, g2, _⟩
    · simp [g1, g2]
    · simp [g1, g2]
theorem MapI.len (M : MapI col c h mv m) {e : TypeId} (ht : descOf T t = .map kt e) : alen T h t mv = some (.int .i64 m.length) := by
  cases M with
  | mk hg hc he hn hb =>
    simp only [alen, ht, entriesOf, hg, he.length]
theorem MapI.put (M : MapI col c h mv m) (hk : ∀ k, keyed T t (.int .i64 k) = some ((kt, .int q), z)) (S : HS G h col) (h0 : c ≠ 0) (k : Int) (u : AV) : ∃ h1, amapUpdate T h t mv (.int .i64 k) u = some h1 ∧ Step (fun x => x = c) col h col h1 ∧ HS G h1 col ∧ MapI col c h1 mv (mput m k u) ∧ h1.next = h.next := by
  cases M with
  | @mk r clk es _ hg hc he hn hb =>
    unfold amapUpdate
    simp only [hk, entriesOf, hg]
    rcases he.find (T := T) (kt := kt) (q := q) (k := k) 0 with ⟨g1, g2⟩ | ⟨j, v, g1, g2, g3, _⟩
    · have A := upd_step (o' := .map (es ++ [{ key := .int .i64 k, val := u, born := clk }]) (clk + 1)) S.wf S.fresh hg hc
      exact ⟨_, by simp only [g2], A, S.step A (fun e => h0 e.symm), .mk (get_upd ..) hc (he.push clk g1) (mput_nodup hn k u) (hb.push _ _), rfl⟩
    · have A := upd_step (o' := .map (modEntry (fun e => { e with key := .int .i64 k, val := u }) es (0 + j)) clk) S.wf S.fresh hg hc
      refine ⟨_, by simp only [g2], A, S.step A (fun e => h0 e.symm), .mk (get_upd ..) hc ?_ (mput_nodup hn k u) (hb.mod (f := fun e => { e with key := .int .i64 k, val := u }) (fun _ => rfl) _), rfl⟩
      rw [Nat.zero_add]; exact g3 u
theorem MapI.del (M : MapI col c h mv m) (hk : ∀ k, keyed T t (.int .i64 k) = some ((kt, .int q), z)) (S : HS G h col) (h0 : c ≠ 0) (k : Int) : ∃ h1, adelete T h t mv (.int .i64 k) = some h1 ∧ Step (fun x => x = c) col h col h1 ∧ HS G h1 col ∧ MapI col c h1 mv (mdel m k) ∧ h1.next = h.next := by
  cases M with
  | @mk r clk es _ hg hc he hn hb =>
    unfold adelete
    simp only [hk, entriesOf, hg]
    rcases he.find (T := T) (kt := kt) (q := q) (k := k) 0 with ⟨g1, g2⟩ | ⟨j, v, g1, g2, _, g4⟩
    · refine ⟨h, by simp only [g2], (Step.refl S).mono (fun _ e => (e : False).elim), S, .mk hg hc ?_ (mdel_nodup hn k) hb, rfl⟩
      have : mdel m k = m := by
        clear he hn hb g2
        induction m with
        | nil => rfl
        | cons p m ih =>
          simp only [mget] at g1
          split at g1
          · cases g1
          · rename_i hp; unfold mdel; rw [if_neg hp, ih g1]
      rw [this]; exact he
    · have A := upd_step (o' := .map (es.eraseIdx (0 + j)) clk) S.wf S.fresh hg hc
      refine ⟨_, by simp only [g2], A, S.step A (fun e => h0 e.symm), .mk (get_upd ..) hc ?_ (mdel_nodup hn k) (hb.erase _), rfl⟩
      rw [Nat.zero_add]; exact g4
theorem EvP.mapPut {mo ko xo : Operand} {u : AV} {k : Int} {Q : AV → AH → Prop} (S : HS G h col) (M : MapI col c h mv m) (h0 : c ≠ 0) (hk : ∀ k, keyed T t (.int .i64 k) = some ((kt, .int q), z)) (hm : evf σ mo = mv) (hko : evf σ ko = .int .i64 k) (hx : evf σ xo = u)
    (H : ∀ h1, Step (fun x => x = c) col h col h1 → HS G h1 col → MapI col c h1 mv (mput m k u) → Q (.tuple []) h1) : EvP T X (.mapUpdate t mo ko xo) σ h Q := by
  obtain ⟨h1, g1, g2, g3, g4, _⟩ := M.put hk S h0 k u
  refine EvP.eff (v := .tuple []) (h' := h1) rfl ?_ g2.nx (H _ g2 g3 g4)
  simp only [feff, hm, hko, hx, g1, rh, Option.map_some]
theorem EvP.mapIns {mo ko xo : Operand} {u : AV} {k : Int} {Q : AV → AH → Prop} (S : HS G h col) (M : MapI col c h mv m) (h0 : c ≠ 0) (hk : ∀ k, keyed T t (.int .i64 k) = some ((kt, .int q), z)) (hm : evf σ mo = mv) (hko : evf σ ko = .int .i64 k) (hx : evf σ xo = u)
    (H : ∀ h1, Step (fun x => x = c) col h col h1 → HS G h1 col → MapI col c h1 mv (mput m k u) → Q (.tuple []) h1) : EvP T X (.insert t mo ko xo) σ h Q := by
  obtain ⟨h1, g1, g2, g3, g4, _⟩ := M.put hk S h0 k u
  refine EvP.eff (v := .tuple []) (h' := h1) rfl ?_ g2.nx (H _ g2 g3 g4)
  simp only [feff, hm, hko, hx, g1, rh, Option.map_some]
theorem EvP.mapDel {cl : Call} {mo ko : Operand} {ts : List TypeId} {k : Int} {Q : AV → AH → Prop} (S : HS G h col) (M : MapI col c h mv m) (h0 : c ≠ 0) (hk : ∀ k, keyed T t (.int .i64 k) = some ((kt, .int q), z)) (hcl : cl.callee = .builtin .delete) (hts : cl.argTypes.toList = t :: ts) (hargs : cl.args.toList = [mo, ko]) (hm : evf σ mo = mv) (hko : evf σ ko = .int .i64 k)
    (H : ∀ h1, Step (fun x => x = c) col h col h1 → HS G h1 col → MapI col c h1 mv (mdel m k) → Q (.tuple []) h1) : EvP T X (.call cl) σ h Q := by
  obtain ⟨h1, g1, g2, g3, g4, _⟩ := M.del hk S h0 k
  refine EvP.eff (v := .tuple []) (h' := h1) (by simp only [kindOf, hcl]) ?_ g2.nx (H _ g2 g3 g4)
  simp only [feff, hcl, hts, hargs, hm, hko, g1, rh, Option.map_some]
/-- An entry that was looked up to be written. -/
structure MapE (col : Nat → Nat) (c : Nat) (h : AH) (mv : AV) (m : List (Int × AV)) (k : Int) (b : Nat) : Prop where
  out : ∃ (r clk : Nat) (es : List AEntry) (i : Nat) (e : AEntry), mv = .map r ∧ h.t.get r = some (.map es clk) ∧ col r = c ∧ Ents es m ∧ (m.map (·.1)).Nodup ∧ Born es clk ∧ es[i]? = some e ∧ e.key = .int .i64 k ∧ e.born = b ∧ mget m k ≠ none
theorem find_at {kt : TypeId} {q : IntKind} {k : Int} {es : List AEntry} {m : List (Int × AV)} (H : Ents es m) {v : AV} (hv : mget m k = some v) : ∀ i, ∃ j e, findkey T (kt, .int q) (.int .i64 k) es i = some (some (i + j, v)) ∧ es[j]? = some e ∧ e.key = .int .i64 k ∧ e.val = v ∧ Ents (modEntry (fun e => { e with key := .int .i64 k }) es j) m := by
  induction H with
  | nil => cases hv
  | @cons e es p m h1 h2 H ih =>
    intro i
    have hs : samekey T (kt, .int q) (.int .i64 k) e.key = some (k == p.1) := by rw [h1]; rfl
    simp only [mget] at hv
    by_cases hk : p.1 = k
    · rw [if_pos hk] at hv
      injection hv with hv
      refine ⟨0, e, ?_, rfl, by rw [h1, hk], by rw [h2, hv], ?_⟩
      · simp only [findkey, hs, hk, beq_self_eq_true, h2, hv, Nat.add_zero]
      · exact .cons (by rw [hk]) h2 H
    · rw [if_neg hk] at hv
      have hkf : (k == p.1) = false := by rw [beq_eq_false_iff_ne]; exact fun e => hk e.symm
      obtain ⟨j, e', g1, g2, g3, g4, g5⟩ := ih hv (i + 1)
      refine ⟨j + 1, e', ?_, g2, g3, g4, .cons h1 h2 g5⟩
      simp only [findkey, hs, hkf]; rw [g1]; congr 3; omega
theorem get_mod {f : AEntry → AEntry} : ∀ {es : List AEntry} {i : Nat} {e : AEntry}, es[i]? = some e → (modEntry f es i)[i]? = some (f e)
  | [], _, _, h => by simp at h
  | x :: es, 0, e, h => by simp at h; subst h; rfl
  | x :: es, i + 1, e, h => by simp [modEntry]; exact get_mod (by simpa using h)
theorem MapI.ent (M : MapI col c h mv m) (hk : ∀ k, keyed T t (.int .i64 k) = some ((kt, .int q), z)) (S : HS G h col) (h0 : c ≠ 0) {k : Int} {v : AV} (hv : mget m k = some v) : ∃ h1 b, amapEntry T h t mv (.int .i64 k) = some (.tuple [v, .int .i64 (b : Nat)], h1) ∧ Step (fun x => x = c) col h col h1 ∧ HS G h1 col ∧ MapE col c h1 mv m k b := by
  cases M with
  | @mk r clk es _ hg hc he hn hb =>
    obtain ⟨j, e, g1, g2, g3, g4, g5⟩ := find_at (T := T) (kt := kt) (q := q) he hv 0
    rw [Nat.zero_add] at g1
    have A := upd_step (o' := .map (modEntry (fun e => { e with key := .int .i64 k }) es j) clk) S.wf S.fresh hg hc
    refine ⟨_, e.born, ?_, A, S.step A (fun e => h0 e.symm), ⟨r, clk, _, j, { e with key := .int .i64 k }, rfl, get_upd .., hc, g5, hn, hb.mod (f := fun e => { e with key := .int .i64 k }) (fun _ => rfl) _, get_mod g2, rfl, rfl, by rw [hv]; exact fun e => nomatch e⟩⟩
    unfold amapEntry
    simp only [hk, entriesOf, hg, g1, lget_eq, g2]
theorem find_born : ∀ {es : List AEntry} (_ : (es.map (·.born)).Nodup) {j : Nat} {e : AEntry}, es[j]? = some e → ∀ i, findBorn (e.born : Int) es i = some (i + j)
  | [], _, _, _, h, _ => by simp at h
  | x :: es, hn, 0, e, h, i => by
    simp at h; subst h
    simp [findBorn]
  | x :: es, hn, j + 1, e, h, i => by
    rw [List.map_cons, List.nodup_cons] at hn
    have h' : es[j]? = some e := by simpa using h
    have hne : x.born ≠ e.born := fun e' => hn.1 (by rw [e']; exact List.mem_map_of_mem (List.mem_of_getElem? h'))
    unfold findBorn
    rw [if_neg (by simp only [beq_iff_eq]; omega), find_born hn.2 h' (i + 1)]
    congr 1; omega
theorem ents_val {es : List AEntry} {m : List (Int × AV)} (H : Ents es m) (hn : (m.map (·.1)).Nodup) {j : Nat} {e : AEntry} {k : Int} (hj : es[j]? = some e) (hk : e.key = .int .i64 k) (u : AV) : Ents (modEntry (fun e => { e with val := u }) es j) (mput m k u) := by
  induction H generalizing j with
  | nil => simp at hj
  | @cons x es p m h1 h2 H ih =>
    rw [List.map_cons, List.nodup_cons] at hn
    cases j with
    | zero =>
      simp at hj; subst hj
      have : p.1 = k := by rw [h1] at hk; injection hk
      unfold mput
      rw [if_pos this]
      exact .cons (by rw [h1, this]) rfl H
    | succ j =>
      have hj' : es[j]? = some e := by simpa using hj
      have hm : k ∈ m.map (·.1) := by
        clear ih hn h1 h2
        induction H generalizing j with
        | nil => simp at hj'
        | @cons y es p' m g1 g2 H ih2 =>
          cases j with
          | zero =>
            simp at hj'; subst hj'
            have : p'.1 = k := by rw [g1] at hk; injection hk
            simp [this]
          | succ j =>
            have := ih2 (j := j) (by simpa using hj') (by simpa using hj')
            simp only [List.map_cons, List.mem_cons]; exact .inr this
      have hne : ¬ p.1 = k := fun e' => hn.1 (by rw [e']; exact hm)
      unfold mput
      rw [if_neg hne]
      exact .cons h1 h2 (ih hn.2 hj')
theorem MapE.put {k : Int} {b : Nat} (M : MapE col c h mv m k b) (S : HS G h col) (h0 : c ≠ 0) (q : IntKind) (u : AV) : ∃ h1, aentryStore h mv (.int q b) u = some h1 ∧ Step (fun x => x = c) col h col h1 ∧ HS G h1 col ∧ MapI col c h1 mv (mput m k u) := by
  obtain ⟨r, clk, es, i, e, rfl, hg, hc, he, hn, hb, hi, hk, rfl, _⟩ := M.out
  have A := upd_step (o' := .map (modEntry (fun e => { e with val := u }) es i) clk) S.wf S.fresh hg hc
  have hf := find_born hb.1 hi 0
  rw [Nat.zero_add] at hf
  refine ⟨_, by simp only [aentryStore, entriesOf, hg, hf], A, S.step A (fun e => h0 e.symm), .mk (get_upd ..) hc (ents_val he hn hi hk u) (mput_nodup hn k u) (hb.mod (f := fun e => { e with val := u }) (fun _ => rfl) _)⟩
theorem EvP.mapEnt {mo ko : Operand} {k : Int} {v : AV} {Q : AV → AH → Prop} (S : HS G h col) (M : MapI col c h mv m) (h0 : c ≠ 0) (hk : ∀ k, keyed T t (.int .i64 k) = some ((kt, .int q), z)) (hm : evf σ mo = mv) (hko : evf σ ko = .int .i64 k) (hv : mget m k = some v)
    (H : ∀ h1 b, Step (fun x => x = c) col h col h1 → HS G h1 col → MapE col c h1 mv m k b → Q (.tuple [v, .int .i64 (b : Nat)]) h1) : EvP T X (.mapEntry t mo ko) σ h Q := by
  obtain ⟨h1, b, g1, g2, g3, g4⟩ := M.ent hk S h0 hv
  refine EvP.eff rfl ?_ g2.nx (H _ _ g2 g3 g4)
  simp only [feff, hm, hko, g1, rb, Option.map_some]
theorem EvP.entSt {mo so xo : Operand} {k : Int} {b : Nat} {qk : IntKind} {u : AV} {Q : AV → AH → Prop} (S : HS G h col) (M : MapE col c h mv m k b) (h0 : c ≠ 0) (hm : evf σ mo = mv) (hso : evf σ so = .int qk b) (hx : evf σ xo = u)
    (H : ∀ h1, Step (fun x => x = c) col h col h1 → HS G h1 col → MapI col c h1 mv (mput m k u) → Q (.tuple []) h1) : EvP T X (.entryStore t mo so xo) σ h Q := by
  obtain ⟨h1, g1, g2, g3, g4⟩ := M.put S h0 qk u
  refine EvP.eff (v := .tuple []) (h' := h1) rfl ?_ g2.nx (H _ g2 g3 g4)
  simp only [feff, hm, hso, hx, g1, rh, Option.map_some]
end Go.AI
