/- Rules for rows and heaps by colours. -/
import Derived.Test.YtfjloafebkjadaaGreatDoorAIFun
import Derived.IntWalk
/- Reading slices. -/
namespace Go.AI
variable {T : Tab} {h : AH}
theorem tab_fn {P : Program} {f : FuncId} {F : Func} {x : AFunc} (_h1 : P.funcs[f]? = some F) (h2 : mkAFunc F = some x) (h3 : (mkTab P).ft.get f = mkAFunc F) : (mkTab P).ft.get f = some x := h3.trans h2
/-- A value is a row of so many elements, each of so many cells. -/
inductive RowOf (h : AH) (size : Nat) : AV → Nat → (Nat → List AV) → Prop
  | nil {g : Nat → List AV} : RowOf h size .nilSlice 0 g
  | empty {g : Nat → List AV} : RowOf h size .eslice 0 g
  | mk {id off len cap : Nat} {ex : Bool} {cs : List AV} {g : Nat → List AV} (hc : cellsOf h id = some cs) (hg : ∀ i, i < len → sub cs (off + i * size) size = some (g i)) : RowOf h size (.slice id off len cap ex) len g
theorem RowOf.len {size len : Nat} {v : AV} {g : Nat → List AV} (hr : RowOf h size v len g) {t e : TypeId} (ht : descOf T t = .slice e) : alen T h t v = some (.int .i64 len) := by
  cases hr <;> simp [alen, ht]
theorem sub_one {α : Type} {l r : List α} {i : Nat} (h : sub l i 1 = some r) : ∃ x, r = [x] ∧ lget l i = some x := by
  obtain ⟨h5, h6, h7⟩ := sub_some h
  have hi : i < l.length := by omega
  refine ⟨l[i], ?_, ?_⟩
  · subst h6
    rw [List.take_one, List.head?_drop, List.getElem?_eq_getElem hi]; rfl
  · rw [lget_eq, List.getElem?_eq_getElem hi]
theorem RowOf.addr {size len : Nat} {v : AV} {g : Nat → List AV} (hr : RowOf h size v len g) {t e : TypeId} {ie : TInfo} (ht : descOf T t = .slice e) (he : T.tt.get e = some ie) (hs : ie.size = size) {k : IntKind} {i : Int} (h0 : 0 ≤ i) (h1 : i < len) :
    ∃ id off cs, aindexAddr T t v (.int k i) = some (.ptr id off) ∧ cellsOf h id = some cs ∧ sub cs off size = some (g i.toNat) := by
  cases hr with
  | nil => omega
  | empty => omega
  | @mk id off _ cap ex cs _ hc hg =>
    exact ⟨id, off + i.toNat * size, cs, by simp [aindexAddr, ht, he, h0, h1, hs], hc, hg _ (by omega)⟩
/-- A scalar element. -/
theorem RowOf.at1 {len : Nat} {v : AV} {g : Nat → AV} (hr : RowOf h 1 v len (fun i => [g i])) {t e : TypeId} {ie : TInfo} (ht : descOf T t = .slice e) (he : T.tt.get e = some ie) (hs : ie.size = 1) (ha : ie.isAgg = false) {k : IntKind} {i : Int} (h0 : 0 ≤ i) (h1 : i < len) :
    ∃ p, aindexAddr T t v (.int k i) = some p ∧ aload T h e p = some (g i.toNat) := by
  obtain ⟨id, off, cs, h2, h3, h4⟩ := hr.addr ht he hs (k := k) h0 h1
  obtain ⟨x, h5, h6⟩ := sub_one h4
  refine ⟨_, h2, ?_⟩
  simp only [List.cons.injEq, and_true] at h5
  simp [aload, h3, apart, he, ha, h6, h5]
/-- An element that is an aggregate. -/
theorem RowOf.atN {size len : Nat} {v : AV} {g : Nat → List AV} (hr : RowOf h size v len g) {t e : TypeId} {ie : TInfo} (ht : descOf T t = .slice e) (he : T.tt.get e = some ie) (hs : ie.size = size) (ha : ie.isAgg = true) {k : IntKind} {i : Int} (h0 : 0 ≤ i) (h1 : i < len) :
    ∃ p, aindexAddr T t v (.int k i) = some p ∧ aload T h e p = some (.agg (g i.toNat)) := by
  obtain ⟨id, off, cs, h2, h3, h4⟩ := hr.addr ht he hs (k := k) h0 h1
  exact ⟨_, h2, by simp [aload, h3, apart, he, ha, hs, h4]⟩
theorem add64 {a b : Int} (h : -9223372036854775808 ≤ a + b ∧ a + b ≤ 9223372036854775807) : some (AV.int .i64 (IntKind.i64.wrap (a + b))) = some (.int .i64 (a + b)) := by
  rw [IntWalk.i64_in _ h]
theorem sub64 {a b : Int} (h : -9223372036854775808 ≤ a - b ∧ a - b ≤ 9223372036854775807) : some (AV.int .i64 (IntKind.i64.wrap (a - b))) = some (.int .i64 (a - b)) := by
  rw [IntWalk.i64_in _ h]
theorem succ64 {i : Nat} (h : i < 9223372036854775807) : some (AV.int .i64 (IntKind.i64.wrap ((i : Int) + 1))) = some (.int .i64 ((i + 1 : Nat) : Int)) := by
  rw [add64 (by omega)]; simp
theorem addN64 {a b : Nat} (h : a + b ≤ 9223372036854775807) : some (AV.int .i64 (IntKind.i64.wrap ((a : Int) + (b : Int)))) = some (.int .i64 ((a + b : Nat) : Int)) := by
  rw [add64 (by omega)]; simp
/-- Variables that hold what they must. -/
def upds : List (Nat × AV) → (Nat → AV) → Nat → AV
  | [], σ => σ
  | p :: l, σ => upd (upds l σ) p.1 p.2
def AllAt (σ : Nat → AV) : List (Nat × AV) → Prop
  | [] => True
  | p :: l => σ p.1 = p.2 ∧ AllAt σ l
theorem hold {σ : Nat → AV} : ∀ {l : List (Nat × AV)}, AllAt σ l → σ = upds l σ
  | [], _ => rfl
  | p :: l, h => by
    have := hold h.2
    rw [upds, ← this, upd_self σ h.1]
/-! ### A heap that grows -/
/-- Nothing lies where new objects come. -/
def WF (h : AH) : Prop := ∀ i, h.next ≤ i → h.t.get i = none
/-- The heap has objects more. -/
structure Grew (h h' : AH) : Prop where
  le : h.le h'
  wf : WF h'
  nx : h.next ≤ h'.next
theorem Grew.refl (hw : WF h) : Grew h h := ⟨fun _ _ e => e, hw, Nat.le_refl _⟩
theorem Grew.trans {h1 h2 : AH} (a : Grew h h1) (b : Grew h1 h2) : Grew h h2 := ⟨fun _ _ e => b.le _ _ (a.le _ _ e), b.wf, Nat.le_trans a.nx b.nx⟩
theorem cellsOf_le {h h' : AH} (hl : h.le h') {id : Nat} {cs : List AV} (e : cellsOf h id = some cs) : cellsOf h' id = some cs := by
  unfold cellsOf at *
  split at e
  · rename_i hg; rw [hl _ _ hg]; exact e
  · cases e
theorem RowOf.mono {h h' : AH} (hl : h.le h') {size len : Nat} {v : AV} {g : Nat → List AV} (hr : RowOf h size v len g) : RowOf h' size v len g := by
  cases hr with
  | nil => exact .nil
  | empty => exact .empty
  | mk hc hg => exact .mk (cellsOf_le hl hc) hg
theorem grew_new (hw : WF h) (b : AObj) : Grew h (h.new b).2 where
  le := fun id o e => by
    have : id ≠ h.next := fun e' => by rw [e', hw _ (Nat.le_refl _)] at e; cases e
    simp only [AH.new]; rw [Tree.get_put_ne _ _ this]; exact e
  wf := fun i hi => by
    simp only [AH.new] at hi ⊢
    rw [Tree.get_put_ne _ _ (by omega)]; exact hw i (by omega)
  nx := by simp [AH.new]
variable {X : Oracle} {σ : Nat → AV}
theorem EvP.new {op : Op} {b : AObj} {mk : Mk} {Q : AV → AH → Prop} (hk : kindOf T op = .fresh) (hv : ffresh T (evf σ) op = some (b, mk)) (hw : WF h) (H : ∀ h1 id, Grew h h1 → h1.t.get id = some b → h.t.get id = none → Q (mk.av id) h1) : EvP T X op σ h Q :=
  EvP.fresh hk hv (hw _ (Nat.le_refl _)) (H _ _ (grew_new hw b) (by simp only [AH.new]; exact Tree.get_put_same ..) (hw _ (Nat.le_refl _)))
/-- A scalar read out of an object. -/
theorem load1 {id off : Nat} {cs : List AV} {e t : TypeId} {ro : Bool} {i : TInfo} {v : AV} (hb : h.t.get id = some (.cells cs e ro)) (hi : T.tt.get t = some i) (ha : i.isAgg = false) (hv : lget cs off = some v) : aload T h t (.ptr id off) = some v := by
  simp only [aload, cellsOf, hb, apart, hi, ha, Bool.false_eq_true, if_false, hv]
theorem box1 {ρ : Operand → AV} {e : TypeId} {x : Operand} (hi : (T.tt.get e).isSome = true) (hk : known (ρ x) = true) : ffresh T ρ (.box e x) = some (.cells (ρ x).cells e false, .ptr) := by
  obtain ⟨i, hi⟩ := Option.isSome_iff_exists.1 hi
  simp only [ffresh, hi, hk, if_true]
theorem boolEq {c : Bool} {t : TypeId} {i : TInfo} (hi : T.tt.get t = some i) (hd : i.desc = .bool) (a b : Bool) : abinOp T .eql c t (.bool a) (.bool b) = some (.bool (a == b)) := by
  simp only [abinOp, aeqTop, aeq, hi, hd, aeqFlat, Option.map_some]
/-- An aggregate read whole out of an object. -/
theorem loadAgg {id off n : Nat} {cs r : List AV} {e t : TypeId} {ro : Bool} (hb : h.t.get id = some (.cells cs e ro)) (hi : (match T.tt.get t with | some i => i.isAgg && Nat.beq i.size n | none => false) = true) (hs : sub cs off n = some r) : aload T h t (.ptr id off) = some (.agg r) := by
  cases hg : T.tt.get t with
  | none => rw [hg] at hi; cases hi
  | some i =>
    rw [hg] at hi
    simp only [Bool.and_eq_true] at hi
    have hn := Nat.eq_of_beq_eq_true hi.2
    simp only [aload, cellsOf, hb, apart, hg, hi.1, if_true, hn, hs, Option.map_some]
theorem RowOf.scalar {size len : Nat} {v : AV} {g : Nat → List AV} (hr : RowOf h size v len g) : known v = true ∧ v.cells = [v] := by
  cases hr <;> exact ⟨rfl, rfl⟩
end Go.AI
/- Regions that draw their order, where all that acts only adds objects: looking again finds the same. -/
namespace Go.AI
def Good (T : Tab) : AH → List Rec → Prop
  | _, [] => True
  | h, r :: rs => h.le r.h' ∧ (r.go = true → kindOf T r.o.op = .quiet → ∃ v, aquiet T r.env h r.o.op = some v ∧ veq r.v v = true) ∧ (kindOf T r.o.op = .fresh → r.s.eff = true ∨ r.s.hi ≤ r.s.lo) ∧ Good T r.h' rs
variable {T : Tab} {X : Oracle} {n : Nat} {σ : Nat → AV} {h : AH}
theorem AH.le.trans' {a b c : AH} (h1 : a.le b) (h2 : b.le c) : a.le c := fun _ _ e => h2 _ _ (h1 _ _ e)
theorem good_le : ∀ {rs : List Rec} {h : AH}, Good T h rs → ∀ e ∈ rs, h.le e.h'
  | [], _, _, _, he => by cases he
  | r :: rs, h, hg, e, he => by
    rcases List.mem_cons.1 he with rfl | he
    · exact hg.1
    · exact AH.le.trans' hg.1 (good_le hg.2.2.2 e he)
theorem good_recheck : ∀ {rs : List Rec} {h : AH}, Good T h rs → recheck T rs = true
  | [], _, _ => rfl
  | r :: rs, h, hg => by
    simp only [recheck, good_recheck hg.2.2.2, Bool.and_true, Bool.or_eq_true]
    cases hk : kindOf T r.o.op with
    | eff => right; rw [List.all_eq_true]; intro e _; simp [again, hk]
    | fresh =>
      rcases hg.2.2.1 hk with h1 | h1
      · exact .inl h1
      · right; rw [Nat.sub_eq_zero_of_le h1]; simp
    | quiet =>
      right; rw [List.all_eq_true]
      intro e he
      have he' : e ∈ rs := (List.mem_filter.1 (List.mem_of_mem_take he)).1
      cases hgo : r.go with
      | false => simp [again, hgo]
      | true =>
        obtain ⟨v, h1, h2⟩ := hg.2.1 hgo hk
        have := quiet_mono (AH.le.trans' hg.1 (good_le hg.2.2.2 e he')) h1
        simp [again, hgo, hk, this, h2]
variable (T X) in
structure EvG (n : Nat) (ops : List Oper) (p : List PStep) (σ : Nat → AV) (h : AH) (Q : (Nat → AV) → AH → Prop) : Prop where
  out : ∃ K σ' h', (∀ env, Env.at env = σ → ∀ k, K ≤ k → ∃ rs env', Env.at env' = σ' ∧ arun T X k n ops p env h = some (rs, env', h') ∧ Good T h rs) ∧ h.next ≤ h'.next ∧ Q σ' h'
theorem EvC.drawnG {id : Nat} {ops : Array Oper} {l : List Oper} {p : List PStep} {Q : AExit → (Nat → AV) → AH → Prop} (hl : ops.toList = l) (hp : plan T l = p) (hk : planOk T l p = true) (H : EvG T X n l p σ h (Q .normal)) : EvC T X n (.region id ops true) σ h Q := by
  subst hl; subst hp
  obtain ⟨K, e, h', h1, h2, h3⟩ := H
  refine ⟨K + 1, .normal, e, h', fun env he k hk' => ?_, h2, h3⟩
  obtain ⟨j, rfl, hj⟩ := up hk'
  obtain ⟨rs, env1, a1, a2, hr⟩ := h1 env he j (by omega)
  exact ⟨env1, a1, by simp only [acode, hk, if_true, a2, good_recheck hr]⟩
theorem EvG.nil {ops : List Oper} {Q : (Nat → AV) → AH → Prop} (H : Q σ h) : EvG T X n ops [] σ h Q := by
  refine ⟨1, σ, h, fun env he k hk => ?_, Nat.le_refl _, H⟩
  obtain ⟨j, rfl, hj⟩ := up hk
  exact ⟨[], env, he, by simp only [arun], trivial⟩
theorem EvG.off {ops : List Oper} {s : PStep} {p : List PStep} {o : Oper} {d : Nat} {Q : (Nat → AV) → AH → Prop} (ho : lget ops s.idx = some o) (hg : fguard σ ops o = some false) (hd : o.dst = some d) (hn : Nat.ble (d + 1) n = true) (hf : (match kindOf T o.op with | .fresh => s.eff || Nat.ble s.hi s.lo | _ => true) = true)
    (H : EvG T X n ops p (upd σ d (.tuple [])) h Q) : EvG T X n ops (s :: p) σ h Q := by
  have hn : d < n := Nat.le_of_ble_eq_true hn
  obtain ⟨K', e, h'', g1, g2, g3⟩ := H
  refine ⟨K' + 1, e, h'', fun env he k hk => ?_, g2, g3⟩
  obtain ⟨j, rfl, hj⟩ := up hk
  obtain ⟨rs, env2, b1, b2, b3⟩ := g1 (env.put d (.tuple [])) (by rw [at_upd, he]) j (by omega)
  refine ⟨⟨s, o, env, h, false, .tuple [], h⟩ :: rs, env2, b1, by simp only [arun, ho, fguard_eq, he, hg, putDst, hd, if_pos hn, b2], (fun _ _ e => e), (fun e => nomatch e), (fun hk => ?_), b3⟩
  simp only at hk
  rw [hk] at hf
  simpa using hf
theorem EvG.quiet {ops : List Oper} {s : PStep} {p : List PStep} {o : Oper} {d : Nat} {v : AV} {Q : (Nat → AV) → AH → Prop} (ho : lget ops s.idx = some o) (hg : fguard σ ops o = some true) (hd : o.dst = some d) (hn : Nat.ble (d + 1) n = true) (hk : kindOf T o.op = .quiet)
    (hv : fquiet T (evf σ) h o.op = some v) (hq : veq v v = true) (H : EvG T X n ops p (upd σ d v) h Q) : EvG T X n ops (s :: p) σ h Q := by
  have hn : d < n := Nat.le_of_ble_eq_true hn
  obtain ⟨K', e, h'', g1, g2, g3⟩ := H
  refine ⟨K' + 2, e, h'', fun env he k hk' => ?_, g2, g3⟩
  obtain ⟨j, rfl, hj⟩ := up hk'
  obtain ⟨i, rfl, hi⟩ := up hj
  obtain ⟨rs, env2, b1, b2, b3⟩ := g1 (env.put d v) (by rw [at_upd, he]) (i + 1) (by omega)
  have hv' : aquiet T env h o.op = some v := by rw [fquiet_eq, aev_evf, he]; exact hv
  have hop : aop T X (i + 1) env h o.op = some (v, h) := by simp only [aop, hk, hv']
  exact ⟨⟨s, o, env, h, true, v, h⟩ :: rs, env2, b1, by simp only [arun, ho, fguard_eq, he, hg, hop, putDst, hd, if_pos hn, if_neg (Nat.lt_irrefl _), b2], (fun _ _ e => e), (fun _ _ => ⟨v, hv', hq⟩), (fun e => nomatch hk.symm.trans e), b3⟩
theorem EvG.call {ops : List Oper} {s : PStep} {p : List PStep} {o : Oper} {d : Nat} {Q : (Nat → AV) → AH → Prop} (ho : lget ops s.idx = some o) (hg : fguard σ ops o = some true) (hd : o.dst = some d) (hn : Nat.ble (d + 1) n = true) (hk : kindOf T o.op = .eff)
    (H : EvP T X o.op σ h fun v h' => h.le h' ∧ EvG T X n ops p (upd σ d v) h' Q) : EvG T X n ops (s :: p) σ h Q := by
  have hn : d < n := Nat.le_of_ble_eq_true hn
  obtain ⟨K, v, h', h1, h2, hle, K', e, h'', g1, g2, g3⟩ := H
  refine ⟨max K K' + 1, e, h'', fun env he k hk' => ?_, Nat.le_trans h2 g2, g3⟩
  obtain ⟨j, rfl, hj⟩ := up hk'
  obtain ⟨rs, env2, b1, b2, b3⟩ := g1 (env.put d v) (by rw [at_upd, he]) j (by omega)
  exact ⟨⟨s, o, env, h, true, v, h'⟩ :: rs, env2, b1, by simp only [arun, ho, fguard_eq, he, hg, h1 env he j (by omega), putDst, hd, if_pos hn, if_neg (Nat.not_lt.2 h2), b2], hle, (fun _ e => nomatch hk.symm.trans e), (fun e => nomatch hk.symm.trans e), b3⟩
theorem RowOf.veq {size len : Nat} {v : AV} {g : Nat → List AV} (hr : RowOf h size v len g) : veq v v = true := by
  cases hr <;> simp [Go.AI.veq]
end Go.AI
/- Objects of one's own in a heap, beside what is only read: by colours. -/
namespace Go.AI
/-- A heap, what in it is only read (it has the colour 0), and the colours of all others. -/
structure HS (G h : AH) (col : Nat → Nat) : Prop where
  wf : WF h
  le : G.le h
  ro : ∀ i o, G.t.get i = some o → col i = 0
  fresh : ∀ i, h.next ≤ i → col i = 0
/-- Only objects of some colours have turned, or are new. -/
structure Step (R : Nat → Prop) (col : Nat → Nat) (h : AH) (col' : Nat → Nat) (h' : AH) : Prop where
  old : ∀ i, i < h.next → col' i = col i
  new : ∀ i, h.next ≤ i → col' i ≠ 0 → R (col' i)
  fresh : ∀ i, h'.next ≤ i → col' i = 0
  same : ∀ i, i < h.next → ¬ R (col i) → h'.t.get i = h.t.get i
  nx : h.next ≤ h'.next
  wf : WF h'
variable {T : Tab} {X : Oracle} {G h h1 h2 : AH} {col col1 col2 : Nat → Nat} {R R' : Nat → Prop} {σ : Nat → AV}
theorem WF.lt (hw : WF h) {i : Nat} {o : AObj} (e : h.t.get i = some o) : i < h.next := by
  rcases Nat.lt_or_ge i h.next with hl | hl
  · exact hl
  · rw [hw i hl] at e; cases e
theorem Step.refl (S : HS G h col) : Step R col h col h where
  old := fun _ _ => rfl
  new := fun i hi hc => absurd (S.fresh i hi) hc
  fresh := S.fresh
  same := fun _ _ _ => rfl
  nx := Nat.le_refl _
  wf := S.wf
theorem Step.mono (A : Step R col h col1 h1) (hR : ∀ c, R c → R' c) : Step R' col h col1 h1 where
  old := A.old
  new := fun i hi hc => hR _ (A.new i hi hc)
  fresh := A.fresh
  same := fun i hi hc => A.same i hi (fun hr => hc (hR _ hr))
  nx := A.nx
  wf := A.wf
theorem Step.trans (A : Step R col h col1 h1) (B : Step R col1 h1 col2 h2) : Step R col h col2 h2 where
  old := fun i hi => (B.old i (Nat.lt_of_lt_of_le hi A.nx)).trans (A.old i hi)
  new := fun i hi hc => by
    rcases Nat.lt_or_ge i h1.next with hl | hl
    · rw [B.old i hl] at hc ⊢; exact A.new i hi hc
    · exact B.new i hl hc
  fresh := B.fresh
  same := fun i hi hc => (B.same i (Nat.lt_of_lt_of_le hi A.nx) (by rw [A.old i hi]; exact hc)).trans (A.same i hi hc)
  nx := Nat.le_trans A.nx B.nx
  wf := B.wf
theorem HS.step (S : HS G h col) (A : Step R col h col1 h1) (h0 : ¬ R 0) : HS G h1 col1 where
  wf := A.wf
  le := fun i o e => by
    have e' := S.le i o e
    rw [A.same i (S.wf.lt e') (by rw [S.ro i o e]; exact h0)]; exact e'
  ro := fun i o e => by rw [A.old i (S.wf.lt (S.le i o e))]; exact S.ro i o e
  fresh := A.fresh
/-- What is only read may be told more of. -/
def AH.add (G : AH) (id : Nat) (o : AObj) : AH := ⟨G.t.put id o, G.next⟩
theorem HS.add (S : HS G h col) {id : Nat} {o : AObj} (e : h.t.get id = some o) (hc : col id = 0) : HS (G.add id o) h col where
  wf := S.wf
  le := fun i o' e' => by
    simp only [AH.add, Tree.get_put] at e'
    split at e'
    · rename_i hi; cases e'; rw [hi]; exact e
    · exact S.le i o' e'
  ro := fun i o' e' => by
    simp only [AH.add, Tree.get_put] at e'
    split at e'
    · rename_i hi; rw [hi]; exact hc
    · exact S.ro i o' e'
  fresh := S.fresh
theorem HS.le_add (S : HS G h col) {id : Nat} {o : AObj} (e : h.t.get id = some o) : G.le (G.add id o) := fun i o' e' => by
  simp only [AH.add, Tree.get_put]
  split
  · rename_i hi; subst hi; rw [← S.le _ _ e', e]
  · exact e'
theorem AH.get_add (G : AH) (id : Nat) (o : AObj) : (G.add id o).t.get id = some o := Tree.get_put_same ..
/-- All of a heap, only read. -/
theorem HS.all (hw : WF h) : HS h h (fun _ => 0) := ⟨hw, fun _ _ e => e, fun _ _ _ => rfl, fun _ _ => rfl⟩
theorem HS.down {G' : AH} (S : HS G h col) (hl : G'.le G) : HS G' h col := ⟨S.wf, fun i o e => S.le i o (hl i o e), fun i o e => S.ro i o (hl i o e), S.fresh⟩
/-- Loads out of what is only read. -/
theorem HS.load (S : HS G h col) {t : TypeId} {p v : AV} (e : aload T G t p = some v) : aload T h t p = some v := load_mono S.le e
theorem HS.get (S : HS G h col) {i : Nat} {o : AObj} (e : G.t.get i = some o) : h.t.get i = some o := S.le i o e
/-- An object of one's own, under later steps. -/
theorem Step.get (A : Step R col h col1 h1) (hw : WF h) {id : Nat} {o : AObj} (e : h.t.get id = some o) (hc : ¬ R (col id)) : h1.t.get id = some o ∧ col1 id = col id :=
  ⟨(A.same id (hw.lt e) hc).trans e, A.old id (hw.lt e)⟩
def recol (col : Nat → Nat) (id c : Nat) : Nat → Nat := fun i => if i = id then c else col i
theorem recol_same (col : Nat → Nat) (id c : Nat) : recol col id c id = c := by simp [recol]
theorem new_step (hw : WF h) (hf : ∀ i, h.next ≤ i → col i = 0) (o : AObj) (c : Nat) : Step (fun x => x = c) col h (recol col h.next c) (h.new o).2 where
  old := fun i hi => by simp only [recol]; rw [if_neg (by omega)]
  new := fun i hi hc => by
    simp only [recol] at hc ⊢
    split
    · rfl
    · rename_i hn; rw [if_neg hn] at hc; exact absurd (hf i hi) hc
  fresh := fun i hi => by
    simp only [AH.new] at hi
    simp only [recol]; rw [if_neg (by omega)]; exact hf i (by omega)
  same := fun i hi _ => by simp only [AH.new]; exact Tree.get_put_ne _ _ (by omega)
  nx := by simp [AH.new]
  wf := (grew_new hw o).wf
theorem new_step0 (hw : WF h) (hf : ∀ i, h.next ≤ i → col i = 0) (o : AObj) : Step (fun _ => False) col h col (h.new o).2 where
  old := fun _ _ => rfl
  new := fun i hi hc => hc (hf i hi)
  fresh := fun i hi => by simp only [AH.new] at hi; exact hf i (by omega)
  same := fun i hi _ => by simp only [AH.new]; exact Tree.get_put_ne _ _ (by omega)
  nx := by simp [AH.new]
  wf := (grew_new hw o).wf
theorem upd_step (hw : WF h) (hf : ∀ i, h.next ≤ i → col i = 0) {id : Nat} {o o' : AObj} {c : Nat} (e : h.t.get id = some o) (hc : col id = c) : Step (fun x => x = c) col h col (h.upd id o') where
  old := fun _ _ => rfl
  new := fun i hi hc => absurd (hf i hi) hc
  fresh := fun i hi => hf i hi
  same := fun i hi hr => by
    simp only [AH.upd]
    exact Tree.get_put_ne _ _ (fun e' => hr (by rw [e']; exact hc))
  nx := Nat.le_refl _
  wf := fun i hi => by
    simp only [AH.upd] at hi ⊢
    rw [Tree.get_put_ne _ _ (by have := hw.lt e; omega)]; exact hw i hi
theorem get_upd (h : AH) (id : Nat) (o : AObj) : (h.upd id o).t.get id = some o := Tree.get_put_same ..
theorem get_new (h : AH) (o : AObj) : (h.new o).2.t.get h.next = some o := Tree.get_put_same ..
/-- A new object of a colour. -/
theorem EvP.newC {op : Op} {b : AObj} {mk : Mk} {Q : AV → AH → Prop} (S : HS G h col) (c : Nat) (hk : kindOf T op = .fresh) (hv : ffresh T (evf σ) op = some (b, mk)) (h0 : c ≠ 0)
    (H : ∀ h1 id col1, Step (fun x => x = c) col h col1 h1 → HS G h1 col1 → h1.t.get id = some b → col1 id = c → h.next ≤ id → Q (mk.av id) h1) : EvP T X op σ h Q :=
  EvP.fresh hk hv (S.wf _ (Nat.le_refl _)) (H _ _ _ (new_step S.wf S.fresh b c) (S.step (new_step S.wf S.fresh b c) (fun e => h0 e.symm)) (get_new ..) (recol_same ..) (Nat.le_refl _))
/-- A new object that is only read from now on. -/
theorem EvP.newR {op : Op} {b : AObj} {mk : Mk} {Q : AV → AH → Prop} (S : HS G h col) (hk : kindOf T op = .fresh) (hv : ffresh T (evf σ) op = some (b, mk))
    (H : ∀ h1 id, Step (fun _ => False) col h col h1 → HS (G.add id b) h1 col → G.le (G.add id b) → h1.t.get id = some b → col id = 0 → h.next ≤ id → Q (mk.av id) h1) : EvP T X op σ h Q := by
  have A := new_step0 S.wf S.fresh b
  have S1 := S.step A (fun e => e)
  have hc : col h.next = 0 := S.fresh _ (Nat.le_refl _)
  exact EvP.fresh hk hv (S.wf _ (Nat.le_refl _)) (H _ _ A (S1.add (get_new ..) hc) (S1.le_add (get_new ..)) (get_new ..) hc (Nat.le_refl _))
theorem astore_own {t : TypeId} {id off : Nat} {cs : List AV} {e : TypeId} {i : TInfo} {v : AV} (hb : h.t.get id = some (.cells cs e false)) (hi : T.tt.get t = some i) (hn : v.cells.length = i.size) (hs : v.cells.all scalar = true) (hl : off + v.cells.length ≤ cs.length) :
    astore T h t (.ptr id off) v = some (h.upd id (.cells (lsetMany cs off v.cells) e false)) := by
  simp only [astore, ownOf, hb, hi, hn, if_true, put?]
  rw [if_pos ⟨hs, by omega⟩]
/-- A store into an object of one's own. -/
theorem EvP.storeC {t : TypeId} {a x : Operand} {id off : Nat} {cs : List AV} {e : TypeId} {i : TInfo} {v : AV} {Q : AV → AH → Prop} (S : HS G h col) (c : Nat) (hb : h.t.get id = some (.cells cs e false)) (hc : col id = c) (h0 : c ≠ 0) (ha : evf σ a = .ptr id off) (hx : evf σ x = v) (hi : T.tt.get t = some i) (hn : v.cells.length = i.size) (hs : v.cells.all scalar = true) (hl : off + v.cells.length ≤ cs.length)
    (H : ∀ h1, Step (fun x => x = c) col h col h1 → HS G h1 col → h1.t.get id = some (.cells (lsetMany cs off v.cells) e false) → (∀ j, j ≠ id → h1.t.get j = h.t.get j) → h1.next = h.next → Q (.tuple []) h1) : EvP T X (.store t a x) σ h Q := by
  refine EvP.eff (v := .tuple []) (h' := h.upd id (.cells (lsetMany cs off v.cells) e false)) rfl ?_ (Nat.le_refl _) ?_
  · simp only [feff, ha, hx, astore_own hb hi hn hs hl, rh, Option.map_some]
  · have A := upd_step (o' := .cells (lsetMany cs off v.cells) e false) S.wf S.fresh hb hc
    exact H _ A (S.step A (fun e => h0 e.symm)) (get_upd ..) (fun j hj => Tree.get_put_ne _ _ hj) rfl
/-! ### Growing rows -/
inductive Vec (col : Nat → Nat) (c : Nat) (h : AH) (e : TypeId) (sz : Nat) : AV → Nat → List AV → Prop
  | nil : Vec col c h e sz .nilSlice 0 []
  | mk {id n cap : Nat} {ex : Bool} {cs tail : List AV} (hg : h.t.get id = some (.cells (cs ++ tail) e false)) (hc : col id = c) (hn : cs.length = n * sz) (hx : ex = true → n ≤ cap ∧ (cs ++ tail).length = cap * sz) : Vec col c h e sz (.slice id 0 n cap ex) n cs
theorem Vec.step {c : Nat} {e sz n : Nat} {v : AV} {cs : List AV} (V : Vec col c h e sz v n cs) (A : Step R col h col1 h1) (hw : WF h) (hc : ¬ R c) : Vec col1 c h1 e sz v n cs := by
  cases V with
  | nil => exact .nil
  | mk hg hc' hn hx =>
    obtain ⟨h3, h4⟩ := A.get hw hg (by rw [hc']; exact hc)
    exact .mk h3 (h4.trans hc') hn hx
theorem Vec.row {c : Nat} {e sz n : Nat} {v : AV} {cs : List AV} (V : Vec col c h e sz v n cs) : RowOf h sz v n (fun i => (cs.drop (i * sz)).take sz) := by
  cases V with
  | nil => exact .nil
  | @mk id _ cap ex _ tail hg hc hn hx =>
    refine .mk (cs := cs ++ tail) (by unfold cellsOf; rw [hg]) fun i hi => ?_
    have : (i + 1) * sz ≤ n * sz := Nat.mul_le_mul_right sz hi
    rw [Nat.succ_mul] at this
    unfold sub
    rw [Nat.zero_add, if_pos (by simp; omega), List.drop_append_of_le_length (by omega), List.take_append_of_le_length (by simp; omega)]
theorem Vec.count {c : Nat} {e sz n : Nat} {v : AV} {cs : List AV} (V : Vec col c h e sz v n cs) : cs.length = n * sz := by
  cases V with
  | nil => simp
  | mk _ _ hn _ => exact hn
theorem lsetMany_append {α : Type} (a b vs : List α) (hl : vs.length ≤ b.length) : lsetMany (a ++ b) a.length vs = a ++ vs ++ b.drop vs.length := by
  apply List.ext_getElem?
  intro j
  rw [lsetMany_get vs (a ++ b) a.length (by simp; omega) j]
  split
  · rename_i hj
    rw [List.append_assoc, List.getElem?_append_right hj.1, List.getElem?_append_left (by omega)]
  · rename_i hj
    rcases Nat.lt_or_ge j a.length with h1 | h1
    · rw [List.getElem?_append_left h1, List.append_assoc, List.getElem?_append_left h1]
    · rw [List.getElem?_append_right h1, List.append_assoc, List.getElem?_append_right h1, List.getElem?_append_right (by omega), List.getElem?_drop]
      congr 1; omega
theorem afirst_all {id k sz cap : Nat} {ex : Bool} {cs : List AV} {e : TypeId} {ro : Bool} (hb : h.t.get id = some (.cells cs e ro)) (hn : cs.length = k * sz) : afirst h sz k (.slice id 0 k cap ex) = some cs := by
  simp only [afirst, cellsOf, hb, sub, Nat.zero_add, ← hn, List.drop_zero, List.take_length]
  rw [if_pos (Nat.le_refl _)]
theorem vec_append {c : Nat} {e sz n k : Nat} {v x : AV} {cs new : List AV} {t xt e2 : TypeId} {ei : TInfo} (S : HS G h col) (V : Vec col c h e sz v n cs) (ht : descOf T t = .slice e) (hxt : descOf T xt = .slice e2) (hei : T.tt.get e = some ei) (hsz : ei.size = sz) (hp : 0 < sz) (hz : ei.zero.length = sz)
    (hx1 : alenOf x = some k) (hx2 : afirst h sz k x = some new) (hnl : new.length = k * sz) (hk : 0 < k) (hsc : new.all scalar = true) (hb : (n + k) * ei.bytes ≤ maxBytes) (hq : n + k ≤ 2 ^ 40) :
    ∃ v' h1 col1, aappend T h t xt v x = some (v', h1) ∧ Step (fun x => x = c) col h col1 h1 ∧ Vec col1 c h1 e sz v' (n + k) (cs ++ new) := by
  have hkz : k ≠ 0 := by omega
  have hz' : ei.zero.length = ei.size := by rw [hz, hsz]
  have hp' : 0 < ei.size := by omega
  have fresh : h.t.get h.next = none := S.wf _ (Nat.le_refl _)
  cases V with
  | nil =>
    simp only [Nat.zero_add] at hb hq
    refine ⟨.slice h.next 0 k 0 false, (h.new (.cells new e false)).2, recol col h.next c, ?_, new_step S.wf S.fresh _ c, ?_⟩
    · subst hsz
      simp only [aappend, ht, hxt, hei, hx1, hx2, hnl, ne_eq, not_true, if_false, if_neg hkz]
      rw [if_pos ⟨hb, hq, hp', hz'⟩]
    · simp only [Nat.zero_add, List.nil_append]
      exact .mk (tail := []) (by rw [List.append_nil]; exact get_new ..) (recol_same ..) hnl (fun e => by cases e)
  | @mk id _ cap ex _ tail hg hc hn hx =>
    subst hsz
    have hsum : (n + k) * ei.size = n * ei.size + k * ei.size := Nat.add_mul ..
    cases ex with
    | true =>
      obtain ⟨hx3, hx4⟩ := hx rfl
      by_cases hcap : n + k ≤ cap
      · have hle : (n + k) * ei.size ≤ cap * ei.size := Nat.mul_le_mul_right _ hcap
        have hlen : n * ei.size + new.length ≤ (cs ++ tail).length := by rw [hx4, hnl, ← hsum]; exact hle
        have hset : lsetMany (cs ++ tail) (n * ei.size) new = (cs ++ new) ++ tail.drop new.length := by
          rw [← hn]; exact lsetMany_append _ _ _ (by simp at hlen; omega)
        refine ⟨.slice id 0 (n + k) cap true, h.upd id (.cells (lsetMany (cs ++ tail) (n * ei.size) new) e false), col, ?_, upd_step S.wf S.fresh hg hc, ?_⟩
        · simp only [aappend, ht, hxt, hei, hx1, hx2, hnl, ne_eq, not_true, if_false, if_neg hkz, if_pos hcap, ownOf, hg, put?, Nat.zero_add]
          rw [if_pos ⟨hsc, by rw [← hnl]; exact hlen⟩]; rfl
        · refine .mk (tail := tail.drop new.length) (by rw [← hset]; exact get_upd ..) hc (by rw [List.length_append, hn, hnl, hsum]) (fun _ => ⟨hcap, ?_⟩)
          rw [← hset, lsetMany_length, hx4]
      · have hsub : sub (cs ++ tail) 0 (n * ei.size) = some cs := by
          unfold sub
          rw [if_pos (by simp; omega), List.drop_zero, ← hn, List.take_left]
        refine ⟨.slice h.next 0 (n + k) 0 false, (h.new (.cells (cs ++ new) e false)).2, recol col h.next c, ?_, new_step S.wf S.fresh _ c, ?_⟩
        · simp only [aappend, ht, hxt, hei, hx1, hx2, hnl, ne_eq, not_true, if_false, if_neg hkz, if_neg hcap, cellsOf, hg, hsub]
          rw [if_pos ⟨hb, hq, hp', hz'⟩]
        · exact .mk (tail := []) (by rw [List.append_nil]; exact get_new ..) (recol_same ..) (by rw [List.length_append, hn, hnl, hsum]) (fun e => by cases e)
    | false =>
      have hsz : szOf T e = ei.size := by simp [szOf, hei]
      by_cases hroom : (n + k) * ei.size ≤ (cs ++ tail).length
      · have hlen : n * ei.size + new.length ≤ (cs ++ tail).length := by rw [hnl, ← hsum]; exact hroom
        have hset : lsetMany (cs ++ tail) (n * ei.size) new = (cs ++ new) ++ tail.drop new.length := by
          rw [← hn]; exact lsetMany_append _ _ _ (by simp at hlen; omega)
        refine ⟨.slice id 0 (n + k) 0 false, h.upd id (.cells (lsetMany (cs ++ tail) (n * ei.size) new) e false), col, ?_, upd_step S.wf S.fresh hg hc, ?_⟩
        · simp only [aappend, ht, hxt, hei, hx1, hx2, hnl, ne_eq, not_true, if_false, if_neg hkz, ownOf, hg, put?, Nat.zero_add]
          rw [if_neg (by rw [hsz]; simp; omega), if_pos hroom, if_pos ⟨hsc, by rw [← hnl]; exact hlen⟩]; rfl
        · exact .mk (tail := tail.drop new.length) (by rw [← hset]; exact get_upd ..) hc (by rw [List.length_append, hn, hnl, hsum]) (fun e => by cases e)
      · have hsub : sub (cs ++ tail) 0 (n * ei.size) = some cs := by
          unfold sub
          rw [if_pos (by simp; omega), List.drop_zero, ← hn, List.take_left]
        have A := upd_step (o' := .dead) S.wf S.fresh hg hc
        have B := new_step A.wf A.fresh (.cells (cs ++ new) e false) c
        refine ⟨.slice h.next 0 (n + k) 0 false, ((h.upd id .dead).new (.cells (cs ++ new) e false)).2, recol col h.next c, ?_, A.trans B, ?_⟩
        · simp only [aappend, ht, hxt, hei, hx1, hx2, hnl, ne_eq, not_true, if_false, if_neg hkz, ownOf, hg, Nat.zero_add]
          rw [if_neg (by rw [hsz]; simp; omega), if_neg hroom, if_pos ⟨hb, hq, hz', hsc⟩, hsub]
        · exact .mk (tail := []) (by rw [List.append_nil]; exact get_new ..) (recol_same ..) (by rw [List.length_append, hn, hnl, hsum]) (fun e => by cases e)
/-- An append to a row of one's own. -/
theorem EvP.appendC {cl : Call} {s y : Operand} {ts : List TypeId} {c : Nat} {e sz n k : Nat} {v x : AV} {cs new : List AV} {t xt e2 : TypeId} {ei : TInfo} {Q : AV → AH → Prop} (S : HS G h col) (V : Vec col c h e sz v n cs) (h0 : c ≠ 0) (hcl : cl.callee = .builtin .append) (hts : cl.argTypes.toList = t :: xt :: ts) (hargs : cl.args.toList = [s, y]) (hv : evf σ s = v) (hy : evf σ y = x)
    (ht : descOf T t = .slice e) (hxt : descOf T xt = .slice e2) (hei : T.tt.get e = some ei) (hsz : ei.size = sz) (hp : 0 < sz) (hz : ei.zero.length = sz) (hx1 : alenOf x = some k) (hx2 : afirst h sz k x = some new) (hnl : new.length = k * sz) (hk : 0 < k) (hsc : new.all scalar = true) (hb : (n + k) * ei.bytes ≤ maxBytes) (hq : n + k ≤ 2 ^ 40)
    (H : ∀ v' h1 col1, Step (fun x => x = c) col h col1 h1 → HS G h1 col1 → Vec col1 c h1 e sz v' (n + k) (cs ++ new) → Q v' h1) : EvP T X (.call cl) σ h Q := by
  obtain ⟨v', h1, col1, h2, h3, h4⟩ := vec_append S V ht hxt hei hsz hp hz hx1 hx2 hnl hk hsc hb hq
  refine EvP.eff (by simp only [kindOf, hcl]) ?_ h3.nx (H _ _ _ h3 (S.step h3 (fun e => h0 e.symm)) h4)
  simp only [feff, hcl, hts, hargs, hv, hy, h2, rb, Option.map_some]
theorem Vec.at1 {c : Nat} {e n : Nat} {v : AV} {cs : List AV} (V : Vec col c h e 1 v n cs) {t : TypeId} {ie : TInfo} (ht : descOf T t = .slice e) (he : T.tt.get e = some ie) (hs : ie.size = 1) (ha : ie.isAgg = false) {k : IntKind} {i : Int} (h0 : 0 ≤ i) (hi : i < n) :
    ∃ p u, aindexAddr T t v (.int k i) = some p ∧ aload T h e p = some u ∧ cs[i.toNat]? = some u := by
  obtain ⟨id, off, cc, h2, h3, h4⟩ := V.row.addr ht he hs (k := k) (i := i) h0 hi
  obtain ⟨x, h5, h6⟩ := sub_one h4
  refine ⟨_, x, h2, by simp [aload, h3, apart, he, ha, h6], ?_⟩
  have hc := V.count
  rw [Nat.mul_one] at hc
  simp only [Nat.mul_one] at h5
  rw [List.take_one, List.head?_drop, List.getElem?_eq_getElem (by omega)] at h5
  rw [List.getElem?_eq_getElem (by omega)]
  simpa using h5
/-- A store at a place of a row of one's own. -/
theorem EvP.setV {t : TypeId} {a x : Operand} {c e n : Nat} {v u p : AV} {cs : List AV} {ei : TInfo} {k : IntKind} {i : Int} {Q : AV → AH → Prop} (S : HS G h col) (V : Vec col c h e 1 v n cs) (h0 : c ≠ 0) (ht : descOf T t = .slice e) (he : T.tt.get e = some ei) (hs : ei.size = 1) (hi0 : 0 ≤ i) (hi : i < n)
    (hp : aindexAddr T t v (.int k i) = some p) (ha : evf σ a = p) (hx : evf σ x = u) (hu : u.cells = [u]) (hsc : scalar u = true)
    (H : ∀ h1, Step (fun x => x = c) col h col h1 → HS G h1 col → Vec col c h1 e 1 v n (cs.set i.toNat u) → h1.next = h.next → Q (.tuple []) h1) : EvP T X (.store e a x) σ h Q := by
  cases V with
  | nil => omega
  | @mk id _ cap ex _ tail hg hc hn hxx =>
    have : p = .ptr id i.toNat := by
      simp only [aindexAddr, ht, he, hs] at hp
      rw [if_pos ⟨by omega, by omega⟩] at hp
      simpa using hp.symm
    subst this
    rw [Nat.mul_one] at hn
    have hset : lsetMany (cs ++ tail) i.toNat u.cells = cs.set i.toNat u ++ tail := by
      rw [hu]; simp only [lsetMany, lset_eq]
      rw [List.set_append_left _ _ (by omega)]
    refine EvP.storeC (v := u) S c hg hc h0 ha hx he (by rw [hu, hs]; rfl) (by rw [hu]; simp [hsc]) (by rw [hu]; simp; omega) fun h1 A S1 g1 _ hn1 => H h1 A S1 ?_ hn1
    rw [hset] at g1
    exact .mk g1 hc (by simp [hn]) (fun e => by have := hxx e; simpa using this)
/-- So many at once. -/
theorem make_vec {t e : TypeId} {ei : TInfo} {n : Nat} (ht : descOf T t = .slice e) (he : T.tt.get e = some ei) (hz : ei.zero.length = ei.size) (hn : n ≤ 2 ^ 40) (hb : (n : Int) * ei.bytes ≤ (maxBytes : Int)) : amakeSlice T t (.int .i64 n) (.int .i64 n) = some (.cells (rep n ei.zero) e false, .slice n n true) := by
  simp only [amakeSlice, ht, he]
  rw [if_pos ⟨by omega, Int.le_refl _, by omega, hb, hz⟩]; simp
theorem zero_fresh : ∀ i, h.next ≤ i → (fun _ : Nat => 0) i = 0 := fun _ _ => rfl
/-- What a callee did with objects of its own, as its caller sees it. -/
theorem Step.hide (S : HS G h col) (A : Step R (fun _ => 0) h col1 h1) (h0 : ¬ R 0) : Step (fun _ => False) col h col h1 where
  old := fun _ _ => rfl
  new := fun i hi hc => hc (S.fresh i hi)
  fresh := fun i hi => S.fresh i (Nat.le_trans A.nx hi)
  same := fun i hi _ => A.same i hi h0
  nx := A.nx
  wf := A.wf
theorem HS.hide (S : HS G h col) (A : Step R (fun _ => 0) h col1 h1) (h0 : ¬ R 0) : HS G h1 col := HS.step S (Step.hide S A h0) (fun e => e)
theorem Vec.publish {c : Nat} {e sz n : Nat} {v : AV} {cs : List AV} (S : HS G h col) (A : Step R (fun _ => 0) h col1 h1) (h0 : ¬ R 0) (V : Vec col1 c h1 e sz v n cs) (hc : c ≠ 0) : ∃ G', HS G' h1 col ∧ G.le G' ∧ RowOf G' sz v n (fun i => (cs.drop (i * sz)).take sz) := by
  have S1 := HS.hide S A h0
  cases V with
  | nil => exact ⟨G, S1, fun _ _ e => e, .nil⟩
  | @mk id _ cap ex _ tail hg hc' hn hx =>
    have hid : h.next ≤ id := by
      rcases Nat.lt_or_ge id h.next with hl | hl
      · have := A.old id hl
        rw [this] at hc'
        exact absurd hc'.symm hc
      · exact hl
    refine ⟨G.add id _, S1.add hg (S.fresh id hid), S1.le_add hg, ?_⟩
    exact Vec.row (.mk (col := fun _ => c) (c := c) (AH.get_add ..) rfl hn hx)
/-- A block of one's own. -/
theorem Vec.block {c : Nat} {e sz n : Nat} {v : AV} {cs : List AV} (V : Vec col c h e sz v n cs) (hn : 0 < n) : ∃ id cap ex tail, v = .slice id 0 n cap ex ∧ h.t.get id = some (.cells (cs ++ tail) e false) ∧ col id = c := by
  cases V with
  | nil => omega
  | @mk id _ cap ex _ tail hg hc _ _ => exact ⟨id, cap, ex, tail, rfl, hg, hc⟩
theorem Vec.in_add {c : Nat} {e sz n : Nat} {id cap : Nat} {ex : Bool} {cs tail : List AV} {G' : AH} (V : Vec col c h e sz (.slice id 0 n cap ex) n cs) (hg : h.t.get id = some (.cells (cs ++ tail) e false)) (hG : G'.t.get id = some (.cells (cs ++ tail) e false)) : RowOf G' sz (.slice id 0 n cap ex) n (fun i => (cs.drop (i * sz)).take sz) := by
  cases V with
  | @mk _ _ _ _ _ tail' hg' hc hn hx =>
    rw [hg] at hg'
    simp only [Option.some.injEq, AObj.cells.injEq, List.append_cancel_left_eq] at hg'
    obtain ⟨rfl, _⟩ := hg'
    exact Vec.row (.mk (col := fun _ => c) (c := c) hG rfl hn hx)
theorem AH.add_le {id : Nat} {o : AObj} (hl : G.le h) (e : h.t.get id = some o) : (G.add id o).le h := fun i o' e' => by
  simp only [AH.add, Tree.get_put] at e'
  split at e'
  · rename_i hi; cases e'; rw [hi]; exact e
  · exact hl i o' e'
theorem AH.get_add_ne {id i : Nat} {o : AObj} (hne : i ≠ id) : (G.add id o).t.get i = G.t.get i := Tree.get_put_ne _ _ hne
theorem RowOf.len_any {sz n : Nat} {v : AV} {g : Nat → List AV} (hr : RowOf h sz v n g) {t e : TypeId} (ht : descOf T t = .slice e) (h' : AH) : alen T h' t v = some (.int .i64 n) := by
  cases hr <;> simp [alen, ht]
/-- Where a callee has only added objects. -/
theorem HS.grow (S : HS G h col) (hl : h.le h1) (hw : WF h1) (hn : h.next ≤ h1.next) : HS G h1 col := ⟨hw, fun i o e => hl i o (S.le i o e), S.ro, fun i hi => S.fresh i (Nat.le_trans hn hi)⟩
theorem Vec.le {c : Nat} {e sz n : Nat} {v : AV} {cs : List AV} (V : Vec col c h e sz v n cs) (hl : h.le h1) : Vec col c h1 e sz v n cs := by
  cases V with
  | nil => exact .nil
  | mk hg hc hn hx => exact .mk (hl _ _ hg) hc hn hx
end Go.AI
