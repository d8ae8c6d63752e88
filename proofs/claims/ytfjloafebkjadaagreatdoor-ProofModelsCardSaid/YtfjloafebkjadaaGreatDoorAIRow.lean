import Derived.Test.YtfjloafebkjadaaGreatDoorAIHoare
import Derived.IntWalk
/- Reading slices. -/
namespace Go.AI
variable {T : Tab} {h : AH}
theorem tab_fn {P : Program} {f : FuncId} {F : Func} {x : AFunc} (_h1 : P.funcs[f]? = some F) (h2 : mkAFunc F = some x) (h3 : (mkTab P).ft.get f = mkAFunc F) : (mkTab P).ft.get f = some x := h3.trans h2
/-- A value is a row of so many elements, each of so many cells. -/
inductive RowOf (h : AH) (size : Nat) : AV → Nat → (Nat → List AV) → Prop
  | nil {g : Nat → List AV} : RowOf h size .nilSlice 0 g
  | empty {g : Nat → List AV} : RowOf h size .eslice 0 g
  | mk {id off len cap : Nat} {ex : Bool} {cs : List AV} {g : Nat → List AV} (hc : cellsOf h id = some cs) (hg : ∀ i, i < len → sub cs (off + i * size) size = some (g i)) : RowOf h size (.slice id off len cap ex) len g
theorem RowOf.len {size len : Nat} {v : AV} {g : Nat → List AV} (hr : RowOf h size v len g) {t e : TypeId} (ht : descOf T t = .slice e) : alen T h t v = some (.int .i64 len) := by
  cases hr <;> simp [alen, ht]
theorem sub_one {α : Type} {l r : List α} {i : Nat} (h : sub l i 1 = some r) : ∃ x, r = [x] ∧ lget l i = some x := by
  obtain ⟨h5, h6, h7⟩ := sub_some h
  have hi : i < l.length := by omega
  refine ⟨l[i], ?_, ?_⟩
  · subst h6
    rw [List.take_one, List.head?_drop, List.getElem?_eq_getElem hi]; rfl
  · rw [lget_eq, List.getElem?_eq_getElem hi]
theorem RowOf.addr {size len : Nat} {v : AV} {g : Nat → List AV} (hr : RowOf h size v len g) {t e : TypeId} {ie : TInfo} (ht : descOf T t = .slice e) (he : T.tt.get e = some ie) (hs : ie.size = size) {k : IntKind} {i : Int} (h0 : 0 ≤ i) (h1 : i < len) :
    ∃ id off cs, aindexAddr T t v (.int k i) = some (.ptr id off) ∧ cellsOf h id = some cs ∧ sub cs off size = some (g i.toNat) := by
  cases hr with
  | nil => omega
  | empty => omega
  | @mk id off _ cap ex cs _ hc hg =>
    exact ⟨id, off + i.toNat * size, cs, by simp [aindexAddr, ht, he, h0, h1, hs], hc, hg _ (by omega)⟩
/-- A scalar element. -/
theorem RowOf.at1 {len : Nat} {v : AV} {g : Nat → AV} (hr : RowOf h 1 v len (fun i => [g i])) {t e : TypeId} {ie : TInfo} (ht : descOf T t = .slice e) (he : T.tt.get e = some ie) (hs : ie.size = 1) (ha : ie.isAgg = false) {k : IntKind} {i : Int} (h0 : 0 ≤ i) (h1 : i < len) :
    ∃ p, aindexAddr T t v (.int k i) = some p ∧ aload T h e p = some (g i.toNat) := by
  obtain ⟨id, off, cs, h2, h3, h4⟩ := hr.addr ht he hs (k := k) h0 h1
  obtain ⟨x, h5, h6⟩ := sub_one h4
  refine ⟨_, h2, ?_⟩
  simp only [List.cons.injEq, and_true] at h5
  simp [aload, h3, apart, he, ha, h6, h5]
/-- An element that is an aggregate. -/
theorem RowOf.atN {size len : Nat} {v : AV} {g : Nat → List AV} (hr : RowOf h size v len g) {t e : TypeId} {ie : TInfo} (ht : descOf T t = .slice e) (he : T.tt.get e = some ie) (hs : ie.size = size) (ha : ie.isAgg = true) {k : IntKind} {i : Int} (h0 : 0 ≤ i) (h1 : i < len) :
    ∃ p, aindexAddr T t v (.int k i) = some p ∧ aload T h e p = some (.agg (g i.toNat)) := by
  obtain ⟨id, off, cs, h2, h3, h4⟩ := hr.addr ht he hs (k := k) h0 h1
  exact ⟨_, h2, by simp [aload, h3, apart, he, ha, hs, h4]⟩
theorem add64 {a b : Int} (h : -9223372036854775808 ≤ a + b ∧ a + b ≤ 9223372036854775807) : some (AV.int .i64 (IntKind.i64.wrap (a + b))) = some (.int .i64 (a + b)) := by
  rw [IntWalk.i64_in _ h]
theorem sub64 {a b : Int} (h : -9223372036854775808 ≤ a - b ∧ a - b ≤ 9223372036854775807) : some (AV.int .i64 (IntKind.i64.wrap (a - b))) = some (.int .i64 (a - b)) := by
  rw [IntWalk.i64_in _ h]
theorem succ64 {i : Nat} (h : i < 9223372036854775807) : some (AV.int .i64 (IntKind.i64.wrap ((i : Int) + 1))) = some (.int .i64 ((i + 1 : Nat) : Int)) := by
  rw [add64 (by omega)]; simp
theorem addN64 {a b : Nat} (h : a + b ≤ 9223372036854775807) : some (AV.int .i64 (IntKind.i64.wrap ((a : Int) + (b : Int)))) = some (.int .i64 ((a + b : Nat) : Int)) := by
  rw [add64 (by omega)]; simp
/-- Variables that hold what they must. -/
def upds : List (Nat × AV) → (Nat → AV) → Nat → AV
  | [], σ => σ
  | p :: l, σ => upd (upds l σ) p.1 p.2
def AllAt (σ : Nat → AV) : List (Nat × AV) → Prop
  | [] => True
  | p :: l => σ p.1 = p.2 ∧ AllAt σ l
theorem hold {σ : Nat → AV} : ∀ {l : List (Nat × AV)}, AllAt σ l → σ = upds l σ
  | [], _ => rfl
  | p :: l, h => by
    have := hold h.2
    rw [upds, ← this, upd_self σ h.1]
/-! ### A heap that grows -/
/-- Nothing lies where new objects come. -/
def WF (h : AH) : Prop := ∀ i, h.next ≤ i → h.t.get i = none
/-- The heap has objects more. -/
structure Grew (h h' : AH) : Prop where
  le : h.le h'
  wf : WF h'
  nx : h.next ≤ h'.next
theorem Grew.refl (hw : WF h) : Grew h h := ⟨fun _ _ e => e, hw, Nat.le_refl _⟩
theorem Grew.trans {h1 h2 : AH} (a : Grew h h1) (b : Grew h1 h2) : Grew h h2 := ⟨fun _ _ e => b.le _ _ (a.le _ _ e), b.wf, Nat.le_trans a.nx b.nx⟩
theorem cellsOf_le {h h' : AH} (hl : h.le h') {id : Nat} {cs : List AV} (e : cellsOf h id = some cs) : cellsOf h' id = some cs := by
  unfold cellsOf at *
  split at e
  · rename_i hg; rw [hl _ _ hg]; exact e
  · cases e
theorem RowOf.mono {h h' : AH} (hl : h.le h') {size len : Nat} {v : AV} {g : Nat → List AV} (hr : RowOf h size v len g) : RowOf h' size v len g := by
  cases hr with
  | nil => exact .nil
  | empty => exact .empty
  | mk hc hg => exact .mk (cellsOf_le hl hc) hg
theorem grew_new (hw : WF h) (b : AObj) : Grew h (h.new b).2 where
  le := fun id o e => by
    have : id ≠ h.next := fun e' => by rw [e', hw _ (Nat.le_refl _)] at e; cases e
    simp only [AH.new]; rw [Tree.get_put_ne _ _ this]; exact e
  wf := fun i hi => by
    simp only [AH.new] at hi ⊢
    rw [Tree.get_put_ne _ _ (by omega)]; exact hw i (by omega)
  nx := by simp [AH.new]
variable {X : Oracle} {σ : Nat → AV}
theorem EvP.new {op : Op} {b : AObj} {mk : Mk} {Q : AV → AH → Prop} (hk : kindOf T op = .fresh) (hv : ffresh T (evf σ) op = some (b, mk)) (hw : WF h) (H : ∀ h1 id, Grew h h1 → h1.t.get id = some b → h.t.get id = none → Q (mk.av id) h1) : EvP T X op σ h Q :=
  EvP.fresh hk hv (hw _ (Nat.le_refl _)) (H _ _ (grew_new hw b) (by simp only [AH.new]; exact Tree.get_put_same ..) (hw _ (Nat.le_refl _)))
/-- A scalar read out of an object. -/
theorem load1 {id off : Nat} {cs : List AV} {e t : TypeId} {ro : Bool} {i : TInfo} {v : AV} (hb : h.t.get id = some (.cells cs e ro)) (hi : T.tt.get t = some i) (ha : i.isAgg = false) (hv : lget cs off = some v) : aload T h t (.ptr id off) = some v := by
  simp only [aload, cellsOf, hb, apart, hi, ha, Bool.false_eq_true, if_false, hv]
theorem box1 {ρ : Operand → AV} {e : TypeId} {x : Operand} (hi : (T.tt.get e).isSome = true) (hk : known (ρ x) = true) : ffresh T ρ (.box e x) = some (.cells (ρ x).cells e false, .ptr) := by
  obtain ⟨i, hi⟩ := Option.isSome_iff_exists.1 hi
  simp only [ffresh, hi, hk, if_true]
theorem boolEq {c : Bool} {t : TypeId} {i : TInfo} (hi : T.tt.get t = some i) (hd : i.desc = .bool) (a b : Bool) : abinOp T .eql c t (.bool a) (.bool b) = some (.bool (a == b)) := by
  simp only [abinOp, aeqTop, aeq, hi, hd, aeqFlat, Option.map_some]
/-- An aggregate read whole out of an object. -/
theorem loadAgg {id off n : Nat} {cs r : List AV} {e t : TypeId} {ro : Bool} (hb : h.t.get id = some (.cells cs e ro)) (hi : (match T.tt.get t with | some i => i.isAgg && Nat.beq i.size n | none => false) = true) (hs : sub cs off n = some r) : aload T h t (.ptr id off) = some (.agg r) := by
  cases hg : T.tt.get t with
  | none => rw [hg] at hi; cases hi
  | some i =>
    rw [hg] at hi
    simp only [Bool.and_eq_true] at hi
    have hn := Nat.eq_of_beq_eq_true hi.2
    simp only [aload, cellsOf, hb, apart, hg, hi.1, if_true, hn, hs, Option.map_some]
theorem RowOf.scalar {size len : Nat} {v : AV} {g : Nat → List AV} (hr : RowOf h size v len g) : known v = true ∧ v.cells = [v] := by
  cases hr <;> exact ⟨rfl, rfl⟩
end Go.AI
