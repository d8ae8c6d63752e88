/- What an argument's reading says of the read-only objects. -/
import Derived.Test.YtfjloafebkjadaaGreatDoorAIRow
import GoSem.ClaimJoined
import Derived.OpenShut
/- Every row of cells of a world as a read-only object, under its own number. -/
namespace Go.AI
def isRow (w : World) (b : Nat) : Bool := match w.heap[b]? with | some (.cells ..) => true | _ => false
/-- A cell's value. -/
def embC (w : World) : Value → AV
  | .pointer (some ⟨b, off, none⟩) => if isRow w b then .ptr b off else .undef
  | .slice (some _) 0 _ => .eslice
  | .slice (some ⟨b, off, none⟩) len cap => if isRow w b then .slice b off len cap true else .undef
  | v => toAV v
/-- An argument. -/
def emb (w : World) : Value → AV
  | .agg ⟨cs⟩ => .agg (cs.map (embC w))
  | v => embC w v
def embγ (T : Tab) (w : World) : Emb := fun b => match w.heap[b]? with
  | some (.cells c e _) => some (b, 0, c.size, szOf T e)
  | _ => none
def embO (w : World) : Obj → Option AObj
  | .cells c e _ => some (.cells (c.toList.map (embC w)) e true)
  | _ => none
def embL (w : World) : List Obj → Nat → Tree AObj → Tree AObj
  | [], _, t => t
  | o :: l, n, t => embL w l (n + 1) (match embO w o with | some x => t.put n x | none => t)
def embH (w : World) : AH := ⟨embL w w.heap.toList 0 .leaf, w.heap.size⟩
theorem embL_get (w : World) : ∀ (l : List Obj) (n : Nat) (t : Tree AObj) (b : Nat), (embL w l n t).get b = if n ≤ b ∧ b < n + l.length then (match l[b - n]? with | some o => (match embO w o with | some x => some x | none => t.get b) | none => t.get b) else t.get b
  | [], n, t, b => by simp [embL]
  | o :: l, n, t, b => by
    rw [embL, embL_get w l (n + 1)]
    have ht : (match embO w o with | some x => t.put n x | none => t).get b = if b = n then (match embO w o with | some x => some x | none => t.get b) else t.get b := by
      split
      · rw [Tree.get_put]
      · split <;> rfl
    by_cases hb : b = n
    · subst hb
      rw [if_neg (by omega), if_pos (by simp), ht, if_pos rfl]
      simp
    · by_cases h1 : n + 1 ≤ b ∧ b < n + 1 + l.length
      · rw [if_pos h1, if_pos (by simp; omega), ht, if_neg hb]
        have : b - n = (b - (n + 1)) + 1 := by omega
        rw [this, List.getElem?_cons_succ]
      · rw [if_neg h1, if_neg (by simp; omega), ht, if_neg hb]
theorem embH_get (w : World) (b : Nat) : (embH w).t.get b = (w.heap[b]?).bind (embO w) := by
  unfold embH
  rw [embL_get]
  simp only [Nat.zero_le, true_and, Nat.zero_add, Nat.sub_zero, Tree.get_leaf, Array.length_toList, Array.getElem?_toList]
  split
  · cases h : w.heap[b]? with
    | none => rfl
    | some o => simp only [Option.bind_some]; split <;> simp_all
  · rename_i h
    rw [Array.getElem?_eq_none (by omega)]; rfl
theorem embC_rel (T : Tab) (w : World) (v : Value) : VRel (embγ T w) (embC w v) v := by
  unfold embC
  split
  · rename_i b off
    split
    · rename_i h
      unfold isRow at h
      split at h
      · rename_i c e fz hb
        have hg : embγ T w b = some (b, 0, c.size, szOf T e) := by simp [embγ, hb]
        have := VRel.ptr (off := off) hg
        rw [Nat.zero_add] at this; exact this
      · cases h
    · exact .undef _
  · exact .eslice _ _
  · rename_i b off len cap _
    split
    · rename_i h
      unfold isRow at h
      split at h
      · rename_i c e fz hb
        have hg : embγ T w b = some (b, 0, c.size, szOf T e) := by simp [embγ, hb]
        have := VRel.slice (off := off) (len := len) (cap := cap) hg
        rw [Nat.zero_add] at this; exact this
      · cases h
    · exact .undef _
  · exact toAV_rel _ _
theorem embL_rel (T : Tab) (w : World) : ∀ l : List Value, LRel (embγ T w) (l.map (embC w)) l
  | [] => .nil
  | v :: l => .cons (embC_rel T w v) (embL_rel T w l)
theorem emb_rel (T : Tab) (w : World) (v : Value) : VRel (embγ T w) (emb w v) v := by
  unfold emb
  split
  · exact .agg (embL_rel T w _)
  · exact embC_rel T w v
theorem embs_rel (T : Tab) (w : World) : ∀ l : List Value, LRel (embγ T w) (l.map (emb w)) l
  | [] => .nil
  | v :: l => .cons (emb_rel T w v) (embs_rel T w l)
theorem emb_wrel (T : Tab) (w : World) (hg : GlobOk T w) : WRel T (embγ T w) (embH w) w w where
  below := ⟨rfl, rfl, rfl, Nat.le_refl _, fun _ _ => rfl⟩
  glob := hg
  dom := by
    intro b x e
    unfold embγ at e
    split at e
    · rename_i c t fz hb
      exact (Array.getElem?_eq_some_iff.1 hb).1
    · cases e
  obj := by
    intro id b s K z e
    unfold embγ at e
    split at e
    · rename_i c t fz hb
      cases e
      refine ⟨.cells (c.toList.map (embC w)) t true, by rw [embH_get, hb]; rfl, (Array.getElem?_eq_some_iff.1 hb).1, ⟨rfl, Nat.zero_mod _, ?_⟩, c, t, fz, hb, fun i v hi => ?_, by omega, by simp, fun h => by cases h⟩
      · intro c' e' fz' h; rw [hb] at h; cases h; rfl
      · rw [Nat.zero_add]
        rw [List.getElem?_map, Option.map_eq_some_iff] at hi
        obtain ⟨v', h1, rfl⟩ := hi
        exact ⟨v', by simpa using h1, embC_rel T w v'⟩
    · cases e
  inj := by
    intro i j b s K z s' K' z' e1 e2 hne hb
    unfold embγ at e1
    split at e1
    · rename_i c t fz hb'
      cases e1
      have := (Array.getElem?_eq_some_iff.1 hb').1
      omega
    · cases e1
theorem emb_wf (w : World) : WF (embH w) := by
  intro b hb
  rw [embH_get]
  have : w.heap[b]? = none := Array.getElem?_eq_none hb
  rw [this]; rfl
end Go.AI
/- What an argument's reading says of the read-only objects. -/
namespace Go.AI
variable {H : Type} {enc : TypeId × Value → H} {P : Program} {w : World}
theorem embC_slice {b off len cap : Nat} (hl : len ≠ 0) {c : Array Value} {e : TypeId} {fz : Nat × Nat} (hb : w.heap[b]? = some (.cells c e fz)) : embC w (.slice (some ⟨b, off, none⟩) len cap) = .slice b off len cap true := by
  have : isRow w b = true := by simp [isRow, hb]
  unfold embC
  split
  · rename_i h; cases h
  · rename_i h; cases h; exact absurd rfl hl
  · rename_i h; cases h; rw [if_pos this]
  · rename_i h1 h2 h3; exact absurd rfl (h3 _ _ _ _)
theorem RowOf.congr {h : AH} {size len : Nat} {v : AV} {g g' : Nat → List AV} (hr : RowOf h size v len g) (he : ∀ i, i < len → g i = g' i) : RowOf h size v len g' := by
  cases hr with
  | nil => exact .nil
  | empty => exact .empty
  | mk hc hg => exact .mk hc fun i hi => by rw [hg i hi, he i hi]
/-- A slice whose elements are one cell each. -/
theorem read_row1 {t e : TypeId} {fuel : Nat} {v : Value} {x : DataW H × List MemPlace} (ht : P.underlying t = some (.slice e)) (hc : P.cellsOf e = 1) (h : DataW.trod enc P w 0 (fun _ => true) true fuel t [v] = some x) :
    ∃ (n : Nat) (f : Nat → Value), RowOf (embH w) 1 (embC w v) n (fun i => [embC w (f i)]) ∧ (n = 0 ∨ ∃ elems spare, x.1 = .slice elems spare ∧ elems.length = n ∧ ∀ i, i < n → ∃ m y, DataW.trod enc P w 0 (fun _ => true) true m e [f i] = some y ∧ y.1 ∈ elems) := by
  rcases DataW.trod_slice ht h with h0 | ⟨a, len, cap, elems, rest, m, _, h0, rfl, hb, hl, hm, hlen, hel, _⟩
  · obtain ⟨h0, rfl⟩ := h0
    cases h0
    exact ⟨0, fun _ => undef, .nil, .inl rfl⟩
  · cases h0
    by_cases h0 : len = 0
    · subst h0
      exact ⟨0, fun _ => undef, .empty, .inl rfl⟩
    · have each : ∀ i, i < len → ∃ u y, w.cell? (a.add i) = some u ∧ DataW.trod enc P w 0 (fun _ => true) true m e [u] = some y ∧ y ∈ elems := by
        intro i hi
        have h1 := hel i hi
        rw [hc, Nat.mul_one] at h1
        have h2 : elems[i]? = some elems[i] := List.getElem?_eq_getElem (by omega)
        rw [h2, Option.bind_eq_some_iff] at h1
        obtain ⟨cs, h3, h4⟩ := h1
        have h5 : cs.length = 1 := by
          unfold World.cells? at h3
          rw [if_pos (Nat.zero_le _)] at h3
          have := mapM_some_length h3
          simpa using this
        obtain ⟨u, rfl⟩ := List.length_eq_one_iff.1 h5
        exact ⟨u, _, Go.ChangeShapes.cell_of_cells?_one h3, h4, List.getElem_mem _⟩
      obtain ⟨u0, _, h1, _⟩ := each 0 (by omega)
      have ha0 : a.add 0 = a := by simp [Addr.add]
      rw [ha0] at h1
      obtain ⟨b, off, spot⟩ := a
      have hrow : ∃ c e' fz, w.heap[b]? = some (.cells c e' fz) ∧ spot = none := by
        unfold World.cell? at h1
        dsimp only at h1
        split at h1
        · rename_i c e' fz hh
          split at h1
          · cases h1
          · rename_i hs
            exact ⟨c, e', fz, hh, by simpa using hs⟩
        · cases h1
      obtain ⟨c, e', fz, hh, rfl⟩ := hrow
      refine ⟨len, fun i => (c[off + i]?).getD undef, ?_, .inr ⟨_, _, rfl, by simpa using hlen, fun i hi => ?_⟩⟩
      · rw [embC_slice h0 hh]
        refine .mk (cs := c.toList.map (embC w)) (by unfold cellsOf; rw [embH_get, hh]; rfl) fun i hi => ?_
        obtain ⟨u, y, h2, h3, h4⟩ := each i hi
        rw [add_none, cell_block hh] at h2
        have hlt := (Array.getElem?_eq_some_iff.1 h2).1
        unfold sub
        rw [if_pos (by simp; omega), Nat.mul_one]
        rw [List.take_one, List.head?_drop, List.getElem?_map, Array.getElem?_toList, h2]
        simp [h2]
      · obtain ⟨u, y, h2, h3, h4⟩ := each i hi
        rw [add_none, cell_block hh] at h2
        exact ⟨m, y, by dsimp only; rw [h2]; exact h3, List.mem_map_of_mem h4⟩
theorem weights_all {e : TypeId} : ∀ {l : List (DataW H)} {d : DataW H}, d ∈ l → ∀ W ∈ d.weights P e, W ∈ DataW.weightsAll P e l
  | x :: l, d, h, W, hW => by
    unfold DataW.weightsAll
    rcases List.mem_cons.1 h with rfl | h
    · exact List.mem_append_left _ hW
    · exact List.mem_append_right _ (weights_all h W hW)
theorem weights_slice {t e : TypeId} {elems spare : List (DataW H)} {R : Nat} (ht : P.underlying t = some (.slice e)) (h : ∀ W ∈ (DataW.slice elems spare).weights P t, W ≤ R) : (elems.length + spare.length) * P.bytesOf e ≤ R ∧ ∀ d ∈ elems, ∀ W ∈ d.weights P e, W ≤ R := by
  unfold DataW.weights at h
  rw [ht] at h
  exact ⟨h _ (List.mem_cons_self ..), fun d hd W hW => h W (List.mem_cons_of_mem _ (List.mem_append_left _ (weights_all hd W hW)))⟩
theorem read_int {e : TypeId} {k : IntKind} {m : Nat} {u : Value} {y : DataW H × List MemPlace} (he : P.underlying e = some (.int k)) (h : DataW.trod enc P w 0 (fun _ => true) true m e [u] = some y) : ∃ n, u = .int k n ∧ (Lit.int k n).wf = true := by
  cases m with
  | zero => simp [DataW.trod] at h
  | succ m =>
    unfold DataW.trod at h
    rw [he] at h
    cases u <;> simp only [reduceCtorEq] at h
    split at h
    · rename_i hc; rw [hc.1]; exact ⟨_, rfl, hc.2⟩
    · cases h
theorem read_bool {e : TypeId} {m : Nat} {u : Value} {y : DataW H × List MemPlace} (he : P.underlying e = some .bool) (h : DataW.trod enc P w 0 (fun _ => true) true m e [u] = some y) : ∃ b, u = .bool b := by
  cases m with
  | zero => simp [DataW.trod] at h
  | succ m =>
    unfold DataW.trod at h
    rw [he] at h
    cases u <;> simp only [reduceCtorEq] at h
    exact ⟨_, rfl⟩
/-- A slice of integers as a list. -/
theorem read_ints {t e : TypeId} {k : IntKind} {fuel : Nat} {v : Value} {x : DataW H × List MemPlace} (ht : P.underlying t = some (.slice e)) (hc : P.cellsOf e = 1) (he : P.underlying e = some (.int k)) {R : Nat} (hby : 0 < P.bytesOf e) (hW : ∀ W ∈ x.1.weights P t, W ≤ R) (h : DataW.trod enc P w 0 (fun _ => true) true fuel t [v] = some x) :
    ∃ l : List Int, l.length ≤ R ∧ RowOf (embH w) 1 (embC w v) l.length (fun i => [.int k (l.getD i 0)]) ∧ ∀ n ∈ l, (Lit.int k n).wf = true := by
  obtain ⟨n, f, hr, hf⟩ := read_row1 ht hc h
  have hn : n ≤ R := by
    rcases hf with rfl | ⟨el, sp, h1, h2, _⟩
    · omega
    · rw [h1] at hW
      have := (weights_slice ht hW).1
      have := Nat.le_mul_of_pos_right (el.length + sp.length) hby
      omega
  have hf : ∀ i, i < n → ∃ m y, DataW.trod enc P w 0 (fun _ => true) true m e [f i] = some y := fun i hi => by
    rcases hf with rfl | ⟨el, sp, h1, h2, h3⟩
    · omega
    · obtain ⟨m, y, h4, _⟩ := h3 i hi; exact ⟨m, y, h4⟩
  have hg : ∀ i, i < n → ∃ z, f i = .int k z ∧ (Lit.int k z).wf = true := fun i hi => by
    obtain ⟨m, y, h1⟩ := hf i hi
    exact read_int he h1
  let g : Nat → Int := fun i => match f i with | .int _ z => z | _ => 0
  have hget : ∀ i, i < n → ((List.range n).map g).getD i 0 = g i := fun i hi => by
    rw [List.getD_eq_getElem?_getD, List.getElem?_map, List.getElem?_range hi]; rfl
  refine ⟨(List.range n).map g, by simpa using hn, ?_, fun z hz => ?_⟩
  · have hlen : ((List.range n).map g).length = n := by simp
    rw [hlen]
    refine hr.congr fun i hi => ?_
    obtain ⟨z, h1, _⟩ := hg i hi
    have h2 : g i = z := by simp only [g, h1]
    rw [hget i hi, h2, h1]; rfl
  · obtain ⟨i, hi, rfl⟩ := List.mem_map.1 hz
    obtain ⟨z, h1, h3⟩ := hg i (List.mem_range.1 hi)
    have h2 : g i = z := by simp only [g, h1]
    rw [h2]; exact h3
theorem read_bools {t e : TypeId} {fuel : Nat} {v : Value} {x : DataW H × List MemPlace} (ht : P.underlying t = some (.slice e)) (hc : P.cellsOf e = 1) (he : P.underlying e = some .bool) (h : DataW.trod enc P w 0 (fun _ => true) true fuel t [v] = some x) :
    ∃ l : List Bool, RowOf (embH w) 1 (embC w v) l.length (fun i => [.bool (l.getD i false)]) := by
  obtain ⟨n, f, hr, hf⟩ := read_row1 ht hc h
  have hf : ∀ i, i < n → ∃ m y, DataW.trod enc P w 0 (fun _ => true) true m e [f i] = some y := fun i hi => by
    rcases hf with rfl | ⟨el, sp, h1, h2, h3⟩
    · omega
    · obtain ⟨m, y, h4, _⟩ := h3 i hi; exact ⟨m, y, h4⟩
  have hg : ∀ i, i < n → ∃ z, f i = .bool z := fun i hi => by
    obtain ⟨m, y, h1⟩ := hf i hi
    exact read_bool he h1
  let g : Nat → Bool := fun i => match f i with | .bool z => z | _ => false
  have hget : ∀ i, i < n → ((List.range n).map g).getD i false = g i := fun i hi => by
    rw [List.getD_eq_getElem?_getD, List.getElem?_map, List.getElem?_range hi]; rfl
  refine ⟨(List.range n).map g, ?_⟩
  have hlen : ((List.range n).map g).length = n := by simp
  rw [hlen]
  refine hr.congr fun i hi => ?_
  · obtain ⟨z, h1⟩ := hg i hi
    have h2 : g i = z := by simp only [g, h1]
    rw [hget i hi, h2, h1]; rfl
end Go.AI
/- The tables that a row lays, as known variables. -/
namespace Go.AI
theorem laid_get {P : Program} {w : World} : ∀ {l : List (String × DataW Unit)} {ps : List MemPlace}, DataW.LaidVars P w l ps → ∀ n d, (n, d) ∈ l → ∃ g t c fuel p, P.globalNamed n = some g ∧ (P.globals[g]?).map (·.type) = some t ∧ (∃ e fz, w.heap[g]? = some (.cells c e fz)) ∧ DataW.trod (fun _ => ()) P w 0 (fun _ => true) false fuel t c.toList = some (d, p)
  | [], _, _, n, d, h => by cases h
  | (n0, d0) :: r, ps, hl, n, d, h => by
    obtain ⟨g, t, cs, fuel, p, q, h1, h2, h3, h4, h5, _⟩ := hl
    rcases List.mem_cons.1 h with h | h
    · cases h
      refine ⟨g, t, cs, fuel, p, h1, h2, ?_, h4⟩
      unfold World.var? at h3
      rw [h1] at h3
      simp only [Option.bind_some] at h3
      split at h3
      · rename_i c e fz hh; cases h3; exact ⟨e, fz, hh⟩
      · cases h3
    · exact laid_get h5 n d h
theorem laid_ints {P : Program} {w : World} {l : List (String × DataW Unit)} {ps : List MemPlace} (hl : DataW.LaidVars P w l ps) {n : String} {zs : List Int} {g : Nat} {t e : TypeId} {k : IntKind} (hm : (n, DataW.agg (zs.map fun z => DataW.lit (.int k z))) ∈ l)
    (hg : P.globalNamed n = some g) (ht : (P.globals[g]?).map (·.type) = some t) (hu : P.underlying t = some (.array zs.length e)) (he : P.underlying e = some (.int k)) (hc : P.cellsOf e = 1) (hct : P.cellsOf t = zs.length) :
    g < w.heap.size ∧ ∃ (c : Array Value) (e : TypeId) (fz : Nat × Nat), w.heap[g]? = some (.cells c e fz) ∧ (zs.map fun z => AV.int k z).length ≤ c.size ∧ ∀ (i : Nat) (v : AV), (zs.map fun z => AV.int k z)[i]? = some v → ∃ v', c[i]? = some v' ∧ ∀ γ, VRel γ v v' := by
  obtain ⟨g', t', c, fuel, p, h1, h2, ⟨e', fz, h3⟩, h4⟩ := laid_get hl _ _ hm
  rw [hg] at h1; cases h1
  rw [ht] at h2; cases h2
  obtain ⟨xs, m, _, hx, hlen, hxl, hel⟩ := DataW.trod_array hu h4
  rw [hct] at hlen
  have hsz : c.size = zs.length := by simpa using hlen
  have hx1 : (zs.map fun z => (DataW.lit (.int k z) : DataW Unit)) = xs.map (·.1) := by
    have := congrArg Prod.fst hx
    simpa using this
  refine ⟨(Array.getElem?_eq_some_iff.1 h3).1, c, e', fz, h3, by simp [hsz], fun i v hi => ?_⟩
  rw [List.getElem?_map, Option.map_eq_some_iff] at hi
  obtain ⟨z, hz, rfl⟩ := hi
  have hlt : i < zs.length := (List.getElem?_eq_some_iff.1 hz).1
  have h5 := hel i hlt
  rw [hc, Nat.mul_one] at h5
  have hci : c[i]? = some c[i] := Array.getElem?_eq_getElem (by omega)
  have hcut : (c.toList.drop i).take 1 = [c[i]] := by
    rw [List.take_one, List.head?_drop, Array.getElem?_toList, hci]; rfl
  rw [hcut] at h5
  have hxi : (xs.map (·.1))[i]? = some (DataW.lit (.int k z)) := by rw [← hx1, List.getElem?_map, hz]; rfl
  rw [List.getElem?_map, Option.map_eq_some_iff] at hxi
  obtain ⟨y, hy, hy1⟩ := hxi
  rw [hy] at h5
  refine ⟨c[i], hci, fun γ => ?_⟩
  cases m with
  | zero => simp [DataW.trod] at h5
  | succ m =>
    unfold DataW.trod at h5
    rw [he] at h5
    generalize c[i] = u at h5 ⊢
    cases u <;> simp only [reduceCtorEq] at h5
    split at h5
    · rename_i hk
      cases h5
      simp only [DataW.lit.injEq, Lit.int.injEq] at hy1
      rw [hk.1, ← hy1.2]
      exact .int _ _
    · cases h5
end Go.AI
