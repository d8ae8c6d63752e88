import Derived.Test.YtfjloafebkjadaaGreatDoorAIEmb
/- What an argument's reading says of the read-only objects. -/
namespace Go.AI
variable {H : Type} {enc : TypeId × Value → H} {P : Program} {w : World}
theorem embC_slice {b off len cap : Nat} (hl : len ≠ 0) {c : Array Value} {e : TypeId} {fz : Nat × Nat} (hb : w.heap[b]? = some (.cells c e fz)) : embC w (.slice (some ⟨b, off, none⟩) len cap) = .slice b off len cap true := by
  have : isRow w b = true := by simp [isRow, hb]
  unfold embC
  split
  · rename_i h; cases h
  · rename_i h; cases h; exact absurd rfl hl
  · rename_i h; cases h; rw [if_pos this]
  · rename_i h1 h2 h3; exact absurd rfl (h3 _ _ _ _)
theorem RowOf.congr {h : AH} {size len : Nat} {v : AV} {g g' : Nat → List AV} (hr : RowOf h size v len g) (he : ∀ i, i < len → g i = g' i) : RowOf h size v len g' := by
  cases hr with
  | nil => exact .nil
  | empty => exact .empty
  | mk hc hg => exact .mk hc fun i hi => by rw [hg i hi, he i hi]
/-- A slice whose elements are one cell each. -/
theorem read_row1 {t e : TypeId} {fuel : Nat} {v : Value} {x : DataW H × List MemPlace} (ht : P.underlying t = some (.slice e)) (hc : P.cellsOf e = 1) (h : DataW.trod enc P w 0 (fun _ => true) true fuel t [v] = some x) :
    ∃ (n : Nat) (f : Nat → Value), RowOf (embH w) 1 (embC w v) n (fun i => [embC w (f i)]) ∧ (n = 0 ∨ ∃ elems spare, x.1 = .slice elems spare ∧ elems.length = n ∧ ∀ i, i < n → ∃ m y, DataW.trod enc P w 0 (fun _ => true) true m e [f i] = some y ∧ y.1 ∈ elems) := by
  rcases DataW.trod_slice ht h with h0 | ⟨a, len, cap, elems, rest, m, _, h0, rfl, hb, hl, hm, hlen, hel, _⟩
  · obtain ⟨h0, rfl⟩ := h0
    cases h0
    exact ⟨0, fun _ => undef, .nil, .inl rfl⟩
  · cases h0
    by_cases h0 : len = 0
    · subst h0
      exact ⟨0, fun _ => undef, .empty, .inl rfl⟩
    · have each : ∀ i, i < len → ∃ u y, w.cell? (a.add i) = some u ∧ DataW.trod enc P w 0 (fun _ => true) true m e [u] = some y ∧ y ∈ elems := by
        intro i hi
        have h1 := hel i hi
        rw [hc, Nat.mul_one] at h1
        have h2 : elems[i]? = some elems[i] := List.getElem?_eq_getElem (by omega)
        rw [h2, Option.bind_eq_some_iff] at h1
        obtain ⟨cs, h3, h4⟩ := h1
        have h5 : cs.length = 1 := by
          unfold World.cells? at h3
          rw [if_pos (Nat.zero_le _)] at h3
          have := mapM_some_length h3
          simpa using this
        obtain ⟨u, rfl⟩ := List.length_eq_one_iff.1 h5
        exact ⟨u, _, Go.ChangeShapes.cell_of_cells?_one h3, h4, List.getElem_mem _⟩
      obtain ⟨u0, _, h1, _⟩ := each 0 (by omega)
      have ha0 : a.add 0 = a := by simp [Addr.add]
      rw [ha0] at h1
      obtain ⟨b, off, spot⟩ := a
      have hrow : ∃ c e' fz, w.heap[b]? = some (.cells c e' fz) ∧ spot = none := by
        unfold World.cell? at h1
        dsimp only at h1
        split at h1
        · rename_i c e' fz hh
          split at h1
          · cases h1
          · rename_i hs
            exact ⟨c, e', fz, hh, by simpa using hs⟩
        · cases h1
      obtain ⟨c, e', fz, hh, rfl⟩ := hrow
      refine ⟨len, fun i => (c[off + i]?).getD undef, ?_, .inr ⟨_, _, rfl, by simpa using hlen, fun i hi => ?_⟩⟩
      · rw [embC_slice h0 hh]
        refine .mk (cs := c.toList.map (embC w)) (by unfold cellsOf; rw [embH_get, hh]; rfl) fun i hi => ?_
        obtain ⟨u, y, h2, h3, h4⟩ := each i hi
        rw [add_none, cell_block hh] at h2
        have hlt := (Array.getElem?_eq_some_iff.1 h2).1
        unfold sub
        rw [if_pos (by simp; omega), Nat.mul_one]
        rw [List.take_one, List.head?_drop, List.getElem?_map, Array.getElem?_toList, h2]
        simp [h2]
      · obtain ⟨u, y, h2, h3, h4⟩ := each i hi
        rw [add_none, cell_block hh] at h2
        exact ⟨m, y, by dsimp only; rw [h2]; exact h3, List.mem_map_of_mem h4⟩
theorem weights_all {e : TypeId} : ∀ {l : List (DataW H)} {d : DataW H}, d ∈ l → ∀ W ∈ d.weights P e, W ∈ DataW.weightsAll P e l
  | x :: l, d, h, W, hW => by
    unfold DataW.weightsAll
    rcases List.mem_cons.1 h with rfl | h
    · exact List.mem_append_left _ hW
    · exact List.mem_append_right _ (weights_all h W hW)
theorem weights_slice {t e : TypeId} {elems spare : List (DataW H)} {R : Nat} (ht : P.underlying t = some (.slice e)) (h : ∀ W ∈ (DataW.slice elems spare).weights P t, W ≤ R) : (elems.length + spare.length) * P.bytesOf e ≤ R ∧ ∀ d ∈ elems, ∀ W ∈ d.weights P e, W ≤ R := by
  unfold DataW.weights at h
  rw [ht] at h
  exact ⟨h _ (List.mem_cons_self ..), fun d hd W hW => h W (List.mem_cons_of_mem _ (List.mem_append_left _ (weights_all hd W hW)))⟩
theorem read_int {e : TypeId} {k : IntKind} {m : Nat} {u : Value} {y : DataW H × List MemPlace} (he : P.underlying e = some (.int k)) (h : DataW.trod enc P w 0 (fun _ => true) true m e [u] = some y) : ∃ n, u = .int k n ∧ (Lit.int k n).wf = true := by
  cases m with
  | zero => simp [DataW.trod] at h
  | succ m =>
    unfold DataW.trod at h
    rw [he] at h
    cases u <;> simp only [reduceCtorEq] at h
    split at h
    · rename_i hc; rw [hc.1]; exact ⟨_, rfl, hc.2⟩
    · cases h
theorem read_bool {e : TypeId} {m : Nat} {u : Value} {y : DataW H × List MemPlace} (he : P.underlying e = some .bool) (h : DataW.trod enc P w 0 (fun _ => true) true m e [u] = some y) : ∃ b, u = .bool b := by
  cases m with
  | zero => simp [DataW.trod] at h
  | succ m =>
    unfold DataW.trod at h
    rw [he] at h
    cases u <;> simp only [reduceCtorEq] at h
    exact ⟨_, rfl⟩
/-- A slice of integers as a list. -/
theorem read_ints {t e : TypeId} {k : IntKind} {fuel : Nat} {v : Value} {x : DataW H × List MemPlace} (ht : P.underlying t = some (.slice e)) (hc : P.cellsOf e = 1) (he : P.underlying e = some (.int k)) {R : Nat} (hby : 0 < P.bytesOf e) (hW : ∀ W ∈ x.1.weights P t, W ≤ R) (h : DataW.trod enc P w 0 (fun _ => true) true fuel t [v] = some x) :
    ∃ l : List Int, l.length ≤ R ∧ RowOf (embH w) 1 (embC w v) l.length (fun i => [.int k (l.getD i 0)]) ∧ ∀ n ∈ l, (Lit.int k n).wf = true := by
  obtain ⟨n, f, hr, hf⟩ := read_row1 ht hc h
  have hn : n ≤ R := by
    rcases hf with rfl | ⟨el, sp, h1, h2, _⟩
    · omega
    · rw [h1] at hW
      have := (weights_slice ht hW).1
      have := Nat.le_mul_of_pos_right (el.length + sp.length) hby
      omega
  have hf : ∀ i, i < n → ∃ m y, DataW.trod enc P w 0 (fun _ => true) true m e [f i] = some y := fun i hi => by
    rcases hf with rfl | ⟨el, sp, h1, h2, h3⟩
    · omega
    · obtain ⟨m, y, h4, _⟩ := h3 i hi; exact ⟨m, y, h4⟩
  have hg : ∀ i, i < n → ∃ z, f i = .int k z ∧ (Lit.int k z).wf = true := fun i hi => by
    obtain ⟨m, y, h1⟩ := hf i hi
    exact read_int he h1
  let g : Nat → Int := fun i => match f i with | .int _ z => z | _ => 0
  have hget : ∀ i, i < n → ((List.range n).map g).getD i 0 = g i := fun i hi => by
    rw [List.getD_eq_getElem?_getD, List.getElem?_map, List.getElem?_range hi]; rfl
  refine ⟨(List.range n).map g, by simpa using hn, ?_, fun z hz => ?_⟩
  · have hlen : ((List.range n).map g).length = n := by simp
    rw [hlen]
    refine hr.congr fun i hi => ?_
    obtain ⟨z, h1, _⟩ := hg i hi
    have h2 : g i = z := by simp only [g, h1]
    rw [hget i hi, h2, h1]; rfl
  · obtain ⟨i, hi, rfl⟩ := List.mem_map.1 hz
    obtain ⟨z, h1, h3⟩ := hg i (List.mem_range.1 hi)
    have h2 : g i = z := by simp only [g, h1]
    rw [h2]; exact h3
theorem read_bools {t e : TypeId} {fuel : Nat} {v : Value} {x : DataW H × List MemPlace} (ht : P.underlying t = some (.slice e)) (hc : P.cellsOf e = 1) (he : P.underlying e = some .bool) (h : DataW.trod enc P w 0 (fun _ => true) true fuel t [v] = some x) :
    ∃ l : List Bool, RowOf (embH w) 1 (embC w v) l.length (fun i => [.bool (l.getD i false)]) := by
  obtain ⟨n, f, hr, hf⟩ := read_row1 ht hc h
  have hf : ∀ i, i < n → ∃ m y, DataW.trod enc P w 0 (fun _ => true) true m e [f i] = some y := fun i hi => by
    rcases hf with rfl | ⟨el, sp, h1, h2, h3⟩
    · omega
    · obtain ⟨m, y, h4, _⟩ := h3 i hi; exact ⟨m, y, h4⟩
  have hg : ∀ i, i < n → ∃ z, f i = .bool z := fun i hi => by
    obtain ⟨m, y, h1⟩ := hf i hi
    exact read_bool he h1
  let g : Nat → Bool := fun i => match f i with | .bool z => z | _ => false
  have hget : ∀ i, i < n → ((List.range n).map g).getD i false = g i := fun i hi => by
    rw [List.getD_eq_getElem?_getD, List.getElem?_map, List.getElem?_range hi]; rfl
  refine ⟨(List.range n).map g, ?_⟩
  have hlen : ((List.range n).map g).length = n := by simp
  rw [hlen]
  refine hr.congr fun i hi => ?_
  · obtain ⟨z, h1⟩ := hg i hi
    have h2 : g i = z := by simp only [g, h1]
    rw [hget i hi, h2, h1]; rfl
end Go.AI
