/- A heap's items in a row of two cells each. -/
import Derived.Test.YtohlmbbmeknfiaaQHeap
/- A heap's items in a row of two cells each. -/
namespace Go.AI.Q
open Go.AI
def itC (x : It) : List AV := [.int .i64 x.1, .int .i64 x.2]
def cellsH (hp : List It) : List AV := hp.flatMap itC
theorem cellsH_len : ∀ hp : List It, (cellsH hp).length = hp.length * 2
  | [] => rfl
  | x :: hp => by
    have := cellsH_len hp
    unfold cellsH at *
    rw [List.flatMap_cons, List.length_append, this]
    simp [itC]; omega
theorem cellsH_all : ∀ hp : List It, (cellsH hp).all scalar = true
  | [] => rfl
  | x :: hp => by
    have := cellsH_all hp
    unfold cellsH at *
    rw [List.flatMap_cons, List.all_append, this]; rfl
theorem cellsH_get : ∀ (hp : List It) (i : Nat), i < hp.length → (cellsH hp)[i * 2]? = some (.int .i64 (at' hp i).1) ∧ (cellsH hp)[i * 2 + 1]? = some (.int .i64 (at' hp i).2)
  | [], i, h => absurd h (Nat.not_lt_zero _)
  | x :: hp, 0, _ => ⟨rfl, rfl⟩
  | x :: hp, i + 1, h => by
    have := cellsH_get hp i (by simpa using h)
    unfold cellsH at *
    rw [List.flatMap_cons, show (i + 1) * 2 = i * 2 + 2 by omega, show i * 2 + 2 + 1 = i * 2 + 1 + 2 by omega]
    exact this
theorem cellsH_at {hp : List It} {i : Nat} (h : i < hp.length) : ((cellsH hp).drop (i * 2)).take 2 = itC (at' hp i) := by
  obtain ⟨h1, h2⟩ := cellsH_get hp i h
  have hl := cellsH_len hp
  apply List.ext_getElem?
  intro k
  rw [List.getElem?_take]
  split
  · rename_i hk
    rw [List.getElem?_drop]
    have : k = 0 ∨ k = 1 := by omega
    rcases this with rfl | rfl
    · rw [Nat.add_zero, h1]; rfl
    · rw [h2]; rfl
  · rename_i hk
    rw [List.getElem?_eq_none]; simp [itC]; omega
theorem ext_cells {a b : List It} (hl : a.length = b.length) (h : ∀ i, i < b.length → at' a i = at' b i) : a = b := by
  apply List.ext_getElem?
  intro i
  rcases Nat.lt_or_ge i b.length with h1 | h1
  · have := h i h1
    unfold at' at this
    rw [List.getD_eq_getElem?_getD, List.getD_eq_getElem?_getD, List.getElem?_eq_getElem (by omega), List.getElem?_eq_getElem h1] at this
    rw [List.getElem?_eq_getElem (by omega), List.getElem?_eq_getElem h1]
    exact congrArg some this
  · rw [List.getElem?_eq_none (by omega), List.getElem?_eq_none h1]
/-- A list of cells is that of a heap. -/
theorem cells_of {cs : List AV} {hp : List It} (hl : cs.length = hp.length * 2) (h : ∀ i, i < hp.length → cs[i * 2]? = some (.int .i64 (at' hp i).1) ∧ cs[i * 2 + 1]? = some (.int .i64 (at' hp i).2)) : cs = cellsH hp := by
  have hl2 := cellsH_len hp
  apply List.ext_getElem?
  intro k
  rcases Nat.lt_or_ge k (hp.length * 2) with h1 | h1
  · have h2 := h (k / 2) (by omega)
    have h3 := cellsH_get hp (k / 2) (by omega)
    have : k = k / 2 * 2 ∨ k = k / 2 * 2 + 1 := by omega
    rcases this with e | e
    · rw [e, h2.1, h3.1]
    · rw [e, h2.2, h3.2]
  · rw [List.getElem?_eq_none (by omega), List.getElem?_eq_none (by omega)]
theorem cellsH_set {hp : List It} {i : Nat} {x : It} {tail : List AV} (hi : i < hp.length) : lsetMany (cellsH hp ++ tail) (i * 2) (itC x) = cellsH (hp.set i x) ++ tail := by
  have hl := cellsH_len hp
  have h1 : lsetMany (cellsH hp ++ tail) (i * 2) (itC x) = ((cellsH hp).set (i * 2) (.int .i64 x.1)).set (i * 2 + 1) (.int .i64 x.2) ++ tail := by
    show lset (lset (cellsH hp ++ tail) (i * 2) _) (i * 2 + 1) _ = _
    rw [lset_eq, lset_eq, List.set_append_left _ _ (by omega), List.set_append_left _ _ (by simp; omega)]
  rw [h1]
  congr 1
  refine cells_of (by simp [hl]) fun k hk => ?_
  rw [List.length_set] at hk
  obtain ⟨g1, g2⟩ := cellsH_get hp k hk
  rw [at_set hi]
  by_cases e : k = i
  · subst e
    rw [if_pos rfl]
    constructor
    · rw [List.getElem?_set_ne (by omega), List.getElem?_set_self (by omega)]
    · rw [List.getElem?_set_self (by simp; omega)]
  · rw [if_neg e]
    constructor
    · rw [List.getElem?_set_ne (by omega), List.getElem?_set_ne (by omega)]; exact g1
    · rw [List.getElem?_set_ne (by omega), List.getElem?_set_ne (by omega)]; exact g2
theorem cellsH_time {hp : List It} {i : Nat} {t : Int} {tail : List AV} (hi : i < hp.length) : lset (cellsH hp ++ tail) (i * 2) (.int .i64 t) = cellsH (hp.set i (t, (at' hp i).2)) ++ tail := by
  have hl := cellsH_len hp
  rw [lset_eq, List.set_append_left _ _ (by omega)]
  congr 1
  refine cells_of (by simp [hl]) fun k hk => ?_
  rw [List.length_set] at hk
  obtain ⟨g1, g2⟩ := cellsH_get hp k hk
  rw [at_set hi]
  by_cases e : k = i
  · subst e
    rw [if_pos rfl]
    exact ⟨by rw [List.getElem?_set_self (by omega)], by rw [List.getElem?_set_ne (by omega)]; exact g2⟩
  · rw [if_neg e]
    exact ⟨by rw [List.getElem?_set_ne (by omega)]; exact g1, by rw [List.getElem?_set_ne (by omega)]; exact g2⟩
variable {T : Tab} {X : Oracle} {G h h1 : AH} {col : Nat → Nat} {σ : Nat → AV} {c : Nat} {t e t3 : TypeId} {ei i3 : TInfo} {v : AV} {hp : List It}
theorem vec_split {sz n : Nat} {cs : List AV} (V : Vec col c h e sz v n cs) (hn : 0 < n) : ∃ id cap ex tail, v = .slice id 0 n cap ex ∧ h.t.get id = some (.cells (cs ++ tail) e false) ∧ col id = c ∧ cs.length = n * sz ∧ (ex = true → n ≤ cap ∧ (cs ++ tail).length = cap * sz) := by
  cases V with
  | nil => omega
  | @mk id _ cap ex _ tail hg hc h1 hx => exact ⟨id, cap, ex, tail, rfl, hg, hc, h1, hx⟩
abbrev HV (col : Nat → Nat) (c : Nat) (h : AH) (e : TypeId) (v : AV) (hp : List It) : Prop := Vec col c h e 2 v hp.length (cellsH hp)
theorem HV.at_ (V : HV col c h e v hp) (ht : descOf T t = .slice e) (he : T.tt.get e = some ei) (hs : ei.size = 2) (ha : ei.isAgg = true) (h3 : T.tt.get t3 = some i3) (ha3 : i3.isAgg = false) {k : IntKind} {i : Int} (h0 : 0 ≤ i) (hi : i < hp.length) :
    ∃ id, aindexAddr T t v (.int k i) = some (.ptr id (i.toNat * 2)) ∧ aload T h e (.ptr id (i.toNat * 2)) = some (.agg (itC (at' hp i.toNat))) ∧ aload T h t3 (.ptr id (i.toNat * 2)) = some (.int .i64 (at' hp i.toNat).1) ∧ aload T h t3 (.ptr id (i.toNat * 2 + 1)) = some (.int .i64 (at' hp i.toNat).2) := by
  have hl := cellsH_len hp
  obtain ⟨id, cap, ex, tail, rfl, hg, hc, hn', hx⟩ := vec_split V (by omega)
  · have hi' : i.toNat < hp.length := by omega
    obtain ⟨g1, g2⟩ := cellsH_get hp i.toNat hi'
    refine ⟨id, ?_, ?_, ?_, ?_⟩
    · simp only [aindexAddr, ht, he, hs]
      rw [if_pos ⟨h0, by omega⟩, Nat.zero_add]
    · simp only [aload, cellsOf, hg, apart, he, ha, hs, if_true]
      unfold sub
      rw [if_pos (by simp; omega), List.drop_append_of_le_length (by omega), List.take_append_of_le_length (by simp; omega), cellsH_at hi']; rfl
    · simp only [aload, cellsOf, hg, apart, h3, ha3, Bool.false_eq_true, if_false]
      rw [lget_eq, List.getElem?_append_left (by omega)]; exact g1
    · simp only [aload, cellsOf, hg, apart, h3, ha3, Bool.false_eq_true, if_false]
      rw [lget_eq, List.getElem?_append_left (by omega)]; exact g2
/-- A store of a whole item. -/
theorem EvP.setItem {a xo : Operand} {p : AV} {k : IntKind} {i : Nat} {x : It} {Q : AV → AH → Prop} (S : HS G h col) (V : HV col c h e v hp) (h0 : c ≠ 0) (ht : descOf T t = .slice e) (he : T.tt.get e = some ei) (hs : ei.size = 2) (hi : i < hp.length) (hpp : aindexAddr T t v (.int k i) = some p) (ha : evf σ a = p) (hx : evf σ xo = .agg (itC x))
    (H : ∀ h1, Step (fun x => x = c) col h col h1 → HS G h1 col → HV col c h1 e v (hp.set i x) → h1.next = h.next → Q (.tuple []) h1) : EvP T X (.store e a xo) σ h Q := by
  have hl := cellsH_len hp
  unfold HV at H
  rw [List.length_set] at H
  obtain ⟨id, cap, ex, tail, rfl, hg, hc, hn', hxx⟩ := vec_split V (by omega)
  · have : p = .ptr id (i * 2) := by
      simp only [aindexAddr, ht, he, hs] at hpp
      rw [if_pos ⟨by omega, by omega⟩] at hpp
      simpa using hpp.symm
    subst this
    refine EvP.storeC (v := .agg (itC x)) S c hg hc h0 ha hx he (by rw [hs]; rfl) rfl (by show i * 2 + 2 ≤ _; simp; omega) fun h1 A S1 g1 _ hn1 => H h1 A S1 ?_ hn1
    rw [show (AV.agg (itC x)).cells = itC x from rfl, cellsH_set (by omega)] at g1
    exact .mk g1 hc (by rw [cellsH_len, List.length_set]) (fun e => by have := hxx e; refine ⟨this.1, ?_⟩; rw [← this.2, List.length_append, List.length_append, cellsH_len, cellsH_len, List.length_set])
/-- A store of a time. -/
theorem EvP.setTime {a xo : Operand} {k : IntKind} {i : Nat} {tm : Int} {id : Nat} {Q : AV → AH → Prop} (S : HS G h col) (V : HV col c h e v hp) (h0 : c ≠ 0) (ht : descOf T t = .slice e) (he : T.tt.get e = some ei) (hs : ei.size = 2) (h3 : T.tt.get t3 = some i3) (hs3 : i3.size = 1) (hi : i < hp.length) (hpp : aindexAddr T t v (.int k i) = some (.ptr id (i * 2))) (ha : evf σ a = .ptr id (i * 2)) (hx : evf σ xo = .int .i64 tm)
    (H : ∀ h1, Step (fun x => x = c) col h col h1 → HS G h1 col → HV col c h1 e v (hp.set i (tm, (at' hp i).2)) → h1.next = h.next → Q (.tuple []) h1) : EvP T X (.store t3 a xo) σ h Q := by
  have hl := cellsH_len hp
  unfold HV at H
  rw [List.length_set] at H
  obtain ⟨id', cap, ex, tail, rfl, hg, hc, hn', hxx⟩ := vec_split V (by omega)
  · have : id' = id := by
      simp only [aindexAddr, ht, he, hs] at hpp
      rw [if_pos ⟨by omega, by omega⟩] at hpp
      injection hpp with hpp
      injection hpp
    subst this
    refine EvP.store1 (u := .int .i64 tm) S c hg hc h0 ha hx h3 hs3 ⟨rfl, rfl⟩ (by simp; omega) fun h1 A S1 g1 _ hn1 => H h1 A S1 ?_ hn1
    rw [cellsH_time (by omega)] at g1
    exact .mk g1 hc (by rw [cellsH_len, List.length_set]) (fun e => by have := hxx e; refine ⟨this.1, ?_⟩; rw [← this.2, List.length_append, List.length_append, cellsH_len, cellsH_len, List.length_set])
/-- The first part. -/
theorem Vec.cut {sz n k : Nat} {cs : List AV} (V : Vec col c h e sz v n cs) (ht : descOf T t = .slice e) (he : T.tt.get e = some ei) (hs : ei.size = sz) (hz : 0 < sz) (hk : k ≤ n) : ∃ v', aslice T h t v none (some (.int .i64 k)) none = some v' ∧ Vec col c h e sz v' k (cs.take (k * sz)) := by
  have b : ∀ c, k ≤ c → bounds n c none (some (.int .i64 k)) none = some (0, k, c) := fun c hc => by
    show (match (if (0 : Int) ≤ (k : Int) ∧ (k : Int) ≤ (c : Int) then some ((k : Int)).toNat else none) with | none => none | some h => some (0, h, c)) = _
    rw [if_pos (by omega)]; rfl
  cases V with
  | nil =>
    obtain rfl : k = 0 := by omega
    exact ⟨.nilSlice, by simp only [aslice, ht, he]; rw [b 0 (Nat.le_refl _)], by simp; exact .nil⟩
  | @mk id _ cap ex _ tail hg hc hn hx =>
    have hkz : k * sz ≤ n * sz := Nat.mul_le_mul_right _ hk
    have hct : cs ++ tail = cs.take (k * sz) ++ (cs.drop (k * sz) ++ tail) := by rw [← List.append_assoc, List.take_append_drop]
    have hlen : (cs.take (k * sz)).length = k * sz := by rw [List.length_take]; omega
    cases ex with
    | true =>
      obtain ⟨h1, h2⟩ := hx rfl
      refine ⟨.slice id 0 k cap true, ?_, .mk (tail := cs.drop (k * sz) ++ tail) (by rw [← hct]; exact hg) hc hlen (fun _ => ⟨by omega, by rw [← hct]; exact h2⟩)⟩
      simp only [aslice, ht, he]
      rw [b _ (by omega)]; simp [Go.AI.cut]
    | false =>
      refine ⟨.slice id 0 k 0 false, ?_, .mk (tail := cs.drop (k * sz) ++ tail) (by rw [← hct]; exact hg) hc hlen (fun e => nomatch e)⟩
      have hsz : szOf T e = sz := by simp [szOf, he, hs]
      have hq : k ≤ (cs ++ tail).length / sz := by
        rw [Nat.le_div_iff_mul_le hz]; simp; omega
      simp only [aslice, ht, he, ownOf, hg, hsz, hs, Nat.sub_zero]
      rw [if_neg (by omega), b _ hq]
      simp only
      rw [if_neg (by omega), if_neg (by omega)]
      simp
theorem EvH_newC {T : Tab} {X : Oracle} {n m j : Nat} {σ : Nat → AV} {h G G0 : AH} {col : Nat → Nat} {ops : List Oper} {s : PStep} {p : List PStep} {o : Oper} {d : Nat} {b : AObj} {mk : Mk} {Q : (Nat → AV) → AH → Prop} (S : HS G0 h col) (c : Nat) (hc0 : c ≠ 0) (hj : Nat.beq s.lo j = true) (hs : s.eff = false) (h1 : Nat.ble s.hi s.lo = true) (ho : lget ops s.idx = some o) (hg : o.guard = none) (hd : o.dst = some d) (hn : Nat.ble (d + 1) n = true) (hk : kindOf T o.op = .fresh) (hv : ffresh T (evf σ) o.op = some (b, mk))
    (H : ∀ h1 id col1, Step (fun x => x = c) col h col1 h1 → HS G0 h1 col1 → h1.t.get id = some b → col1 id = c → h.next ≤ id → EvH T X m G j n ops p (upd σ d (mk.av id)) h1 Q) : EvH T X m G j n ops (s :: p) σ h Q := by
  have hn : d < n := Nat.le_of_ble_eq_true hn
  have h1 := Nat.le_of_ble_eq_true h1
  have A := new_step S.wf S.fresh b c
  have hnone : h.t.get h.next = none := S.wf _ (Nat.le_refl _)
  obtain ⟨K', e, h'', g1, g2, g3⟩ := H _ _ _ A (S.step A (fun e => hc0 e.symm)) (get_new ..) (recol_same ..) (Nat.le_refl _)
  refine ⟨K' + 2, e, h'', fun env he k hk' => ?_, Nat.le_trans A.nx g2, g3⟩
  obtain ⟨j', rfl, hj'⟩ := Go.AI.up hk'
  obtain ⟨i, rfl, hi⟩ := Go.AI.up hj'
  obtain ⟨rs, env2, b1, b2, b3⟩ := g1 (env.put d (mk.av h.next)) (by rw [at_upd, he]) (i + 1) (by omega)
  have hv' : afresh T env o.op = some (b, mk) := by rw [ffresh_eq, aev_evf, he]; exact hv
  have hop : aop T X (i + 1) env h o.op = some (mk.av h.next, (h.new b).2) := by simp only [aop, hk, hv', hnone]
  have hgo : guardOk env ops o = some true := by simp only [guardOk, hg]
  refine ⟨⟨s, o, env, h, true, mk.av h.next, (h.new b).2⟩ :: rs, env2, b1, by simp only [arun, ho, hgo, hop, putDst, hd, if_pos hn, if_neg (Nat.not_lt.2 A.nx), b2], Nat.eq_of_beq_eq_true hj, (fun e => nomatch hs.symm.trans e), (fun _ _ e => nomatch hk.symm.trans e), G, ?_, (fun _ _ e => e), (fun _ _ hl _ => absurd h1 (Nat.not_le.2 hl))⟩
  show Stays T m _ (if s.eff then j + 1 else j) rs
  rw [hs]; exact b3
theorem veq_it (x : It) : veq (.agg (itC x)) (.agg (itC x)) = true := by simp [veq, veqs, itC]
/-- What a step leaves alone. -/
theorem Step.le' {R : Nat → Prop} {col1 : Nat → Nat} (A : Step R col h col1 h1) (hw : WF h) (hR : ∀ i, ¬ R (col i)) : h.le h1 := fun i o e => by rw [A.same i (hw.lt e) (hR i)]; exact e
theorem Step.drop {R R' : Nat → Prop} {col1 : Nat → Nat} (S : HS G h col) (A : Step R col h col1 h1) (hu : ∀ i, R (col i) → R' (col i)) : Step R' col h col h1 where
  old := fun _ _ => rfl
  new := fun i hi hc => absurd (S.fresh i hi) hc
  fresh := fun i hi => S.fresh i (Nat.le_trans A.nx hi)
  same := fun i hi hr => A.same i hi (fun h => hr (hu i h))
  nx := A.nx
  wf := A.wf
end Go.AI.Q
