import Derived.Test.YtfjloafebkjadaaGreatDoorAIRel
import Derived.Laws.Entries
/- Reading and writing memory: what the model does where the abstract machine goes on. -/
namespace Go.AI
open Go.RowKit (Below)

structure TabOk (P : Program) (T : Tab) : Prop where
  ty : ∀ t i, T.tt.get t = some i → P.underlying t = some i.desc ∧ ∃ info z, P.info? t = some info ∧ info.size = i.size ∧ info.bytes = i.bytes ∧ info.zero = some z ∧ i.zero = (toAV z).cells ∧ i.zeroV = toAV z ∧ toAV z ≠ .undef ∧ i.isAgg = aggDesc i.desc ∧
    (i.plainEq = true → P.eqGuardType P.depth t = false ∧ P.stoodInHeld t = false)
  fn : ∀ f x, T.ft.get f = some x → ∃ F, P.funcs[f]? = some F ∧ (F.name == "runtime.NumGoroutine") = false ∧ F.body = some x.body ∧ F.ntmps = x.ntmps ∧ F.results.toList = x.results
  mixed : P.follows .mixedOrders = true
  ext : ∀ f c, T.xt.get f = some c → ∃ F, P.funcs[f]? = some F ∧ (F.name == "runtime.NumGoroutine") = false ∧ F.body.isNone = true ∧ Extern.findNext F = none ∧ Extern.find F = some Extern.AbiNoEscape.same

variable {P : Program} {T : Tab}
section types
variable (hT : TabOk P T) {t : TypeId} {i : TInfo} (h : T.tt.get t = some i) (w : World)
include hT h
theorem r_underlying : (underlying t).run P w = .ok i.desc w := run_underlying (hT.ty t i h).1 w
theorem r_sizeOf : (Go.sizeOf t).run P w = .ok i.size w := by
  obtain ⟨_, info, z, h1, h2, _⟩ := hT.ty t i h
  simp [Go.sizeOf, typeInfo, h1, h2]
theorem r_info : ∃ info z, (typeInfo t).run P w = .ok info w ∧ P.info? t = some info ∧ info.size = i.size ∧ info.bytes = i.bytes ∧ info.zero = some z ∧ i.zero = (toAV z).cells ∧ i.zeroV = toAV z ∧ toAV z ≠ .undef := by
  obtain ⟨_, info, z, h1, h2, h3, h4, h5, h6, h7, _⟩ := hT.ty t i h
  exact ⟨info, z, by simp [typeInfo, h1], h1, h2, h3, h4, h5, h6, h7⟩
theorem r_zero : ∃ z, (zeroValue t).run P w = .ok z w ∧ i.zero = (toAV z).cells ∧ i.zeroV = toAV z ∧ toAV z ≠ .undef := by
  obtain ⟨info, z, h1, _, _, _, h4, h5⟩ := r_info hT h w
  exact ⟨z, by simp [zeroValue, h1, h4], h5⟩
theorem r_isAgg : (isAgg t).run P w = .ok i.isAgg w := by
  obtain ⟨h0, info, z, _, _, _, _, _, _, _, h8, _⟩ := hT.ty t i h
  simp only [isAgg, Sem.run_bind, run_underlying h0, Result.andThen_ok, h8]
  cases i.desc <;> rfl
end types
theorem descOf_some {T : Tab} {t : TypeId} {d : TypeDesc} (h : descOf T t = d) (hd : d ≠ .invalid) : ∃ i, T.tt.get t = some i ∧ i.desc = d := by
  unfold descOf at h
  split at h
  · rename_i i hi; exact ⟨i, hi, h⟩
  · exact absurd h.symm hd
theorem r_desc (hT : TabOk P T) {t : TypeId} {d : TypeDesc} (h : descOf T t = d) (hd : d ≠ .invalid) (w : World) : (underlying t).run P w = .ok d w := by
  obtain ⟨i, hi, rfl⟩ := descOf_some h hd
  exact r_underlying hT hi w
theorem szOf_eq {e : TypeId} {i : TInfo} (h : T.tt.get e = some i) : szOf T e = i.size := by simp [szOf, h]

theorem add_none (b o j : Nat) : (⟨b, o, none⟩ : Addr).add j = ⟨b, o + j, none⟩ := by
  unfold Addr.add
  split
  · rename_i h; subst h; rfl
  · rfl
theorem cell_block {w : World} {b o : Nat} {c : Array Value} {e : TypeId} {fz : Nat × Nat} (h : w.heap[b]? = some (.cells c e fz)) : w.cell? ⟨b, o, none⟩ = c[o]? := by simp [World.cell?, h]

variable {γ : Emb} {h : AH} {w0 w : World}
theorem obj_cells (hw : WRel T γ h w0 w) {id b s K z : Nat} {cs : List AV} (hc : cellsOf h id = some cs) (hg : γ id = some (b, s, K, z)) :
    ∃ c e' fz, w.heap[b]? = some (.cells c e' fz) ∧ (∀ i v, cs[i]? = some v → ∃ v', c[s + i]? = some v' ∧ VRel γ v v') ∧ s + K ≤ c.size ∧ cs.length ≤ K := by
  obtain ⟨o, h1, h2, h3⟩ := hw.obj _ _ _ _ _ hg
  unfold cellsOf at hc
  rw [h1] at hc
  cases o <;> simp only [Option.some.injEq, reduceCtorEq] at hc
  subst hc
  obtain ⟨_, c, e', fz, h4, h5, h6, h7, _⟩ := h3
  exact ⟨c, e', fz, h4, h5, h6, h7⟩
theorem obj_own (hw : WRel T γ h w0 w) {id b s K z : Nat} {cs : List AV} {e : TypeId} (hc : ownOf h id = some (cs, e)) (hg : γ id = some (b, s, K, z)) :
    h.t.get id = some (.cells cs e false) ∧ z = szOf T e ∧ w0.heap.size ≤ b ∧ ∃ c e' fz, w.heap[b]? = some (.cells c e' fz) ∧ (∀ i v, cs[i]? = some v → ∃ v', c[s + i]? = some v' ∧ VRel γ v v') ∧ s + K ≤ c.size ∧ cs.length ≤ K ∧
      (∀ j, s ≤ j → j < s + K → ¬ (fz.1 ≤ j ∧ j < fz.2)) := by
  obtain ⟨o, h1, h2, h3⟩ := hw.obj _ _ _ _ _ hg
  unfold ownOf at hc
  rw [h1] at hc
  split at hc
  · rename_i cs' e' heq
    cases heq; cases hc
    obtain ⟨hz, c, e', fz, h4, h5, h6, h7, h8⟩ := h3
    exact ⟨h1, hz.1, (h8 rfl).1, c, e', fz, h4, h5, h6, h7, (h8 rfl).2⟩
  · cases hc
theorem obj_type (hw : WRel T γ h w0 w) {id b s K z : Nat} {cs : List AV} {e : TypeId} {ro : Bool} (hc : h.t.get id = some (.cells cs e ro)) (hg : γ id = some (b, s, K, z)) : z = szOf T e ∧ s % z = 0 ∧ OfType w.heap[b]? e := by
  obtain ⟨o, h1, h2, h3⟩ := hw.obj _ _ _ _ _ hg
  rw [hc] at h1; cases h1
  exact h3.1
theorem OfType.same {w : World} {b : Nat} {c : Array Value} {e e' : TypeId} {fz : Nat × Nat} (h : OfType w.heap[b]? e) (hb : w.heap[b]? = some (.cells c e' fz)) : e' = e := h _ _ _ hb
theorem ofType_cells {c : Array Value} {e : TypeId} {fz : Nat × Nat} : OfType (some (.cells c e fz)) e := by intro c' e' fz' h; cases h; rfl
theorem own_cells {h : AH} {id : Nat} {cs : List AV} {e : TypeId} (hc : ownOf h id = some (cs, e)) : cellsOf h id = some cs := by
  unfold ownOf at hc; unfold cellsOf
  split at hc
  · rename_i heq; rw [heq]; cases hc; rfl
  · cases hc
/-- A stretch of an object's cells, in memory. -/
theorem stretch (hw : WRel T γ h w0 w) {id b s K z off n : Nat} {cs r : List AV} (hc : cellsOf h id = some cs) (hg : γ id = some (b, s, K, z)) (hs : sub cs off n = some r) :
    ∃ L, LRel γ r L ∧ L.length = n ∧ ∀ j v, L[j]? = some v → w.cell? ((⟨b, s + off, none⟩ : Addr).add j) = some v := by
  obtain ⟨c, e', fz, h1, h2, h3, h4⟩ := obj_cells hw hc hg
  obtain ⟨h5, rfl, h6⟩ := sub_some hs
  have hlen : ((c.toList.drop (s + off)).take n).length = n := by simp; omega
  refine ⟨(c.toList.drop (s + off)).take n, LRel.of_get (by rw [hlen, h6]) fun i v hv => ?_, hlen, fun j v hj => ?_⟩
  · rw [List.getElem?_take] at hv
    split at hv
    · rename_i hi
      rw [List.getElem?_drop] at hv
      obtain ⟨v', h7, h8⟩ := h2 _ _ hv
      refine ⟨v', ?_, h8⟩
      rw [List.getElem?_take, if_pos hi, List.getElem?_drop]
      rw [← h7, Array.getElem?_toList]; congr 1; omega
    · cases hv
  · rw [add_none, cell_block h1]
    rw [List.getElem?_take] at hj
    split at hj
    · rw [List.getElem?_drop, Array.getElem?_toList] at hj; exact hj
    · cases hj
theorem part_rel (hT : TabOk P T) {t : TypeId} {cs : List AV} {cs' : List Value} {off : Nat} {v : AV} (hp : apart T t cs off = some v) (hl : LRel γ cs cs') (w : World) : ∃ v', (part t ⟨cs'⟩ off).run P w = .ok v' w ∧ VRel γ v v' := by
  unfold apart at hp
  split at hp
  · rename_i i hi
    unfold part
    simp only [Sem.run_bind, r_isAgg hT hi, Result.andThen_ok]
    split at hp
    · rename_i ha
      rw [ha]
      simp only [if_true, Sem.run_bind, r_sizeOf hT hi, Result.andThen_ok, Sem.run_pure]
      cases hs : sub cs off i.size with
      | none => rw [hs] at hp; cases hp
      | some r =>
        rw [hs] at hp; cases hp
        obtain ⟨h1, rfl, _⟩ := sub_some hs
        refine ⟨_, rfl, ?_⟩
        have : (⟨cs'⟩ : Array Value).extract off (off + i.size) = ⟨(cs'.drop off).take i.size⟩ := by
          apply Array.toList_inj.1; simp [List.extract_eq_take_drop]
        rw [this]
        exact .agg ((hl.drop off).take _)
    · rename_i ha
      simp only [ha, Bool.false_eq_true, if_false]
      rw [lget_eq] at hp
      obtain ⟨v', h1, h2⟩ := hl.get hp
      refine ⟨v', ?_, h2⟩
      have : (⟨cs'⟩ : Array Value)[off]? = some v' := by simpa using h1
      rw [this]; rfl
  · cases hp
theorem stretch_at {w : World} {b s off n : Nat} {cs r : List AV} {c : Array Value} {e : TypeId} {fz : Nat × Nat} (h1 : w.heap[b]? = some (.cells c e fz)) (h2 : ∀ i v, cs[i]? = some v → ∃ v', c[s + i]? = some v' ∧ VRel γ v v') (h3 : s + cs.length ≤ c.size) (hs : sub cs off n = some r) :
    ∃ L, LRel γ r L ∧ L.length = n ∧ ∀ j v, L[j]? = some v → w.cell? ((⟨b, s + off, none⟩ : Addr).add j) = some v := by
  obtain ⟨h5, rfl, h6⟩ := sub_some hs
  have hlen : ((c.toList.drop (s + off)).take n).length = n := by simp; omega
  refine ⟨(c.toList.drop (s + off)).take n, LRel.of_get (by rw [hlen, h6]) fun i v hv => ?_, hlen, fun j v hj => ?_⟩
  · rw [List.getElem?_take] at hv
    split at hv
    · rename_i hi
      rw [List.getElem?_drop] at hv
      obtain ⟨v', h7, h8⟩ := h2 _ _ hv
      refine ⟨v', ?_, h8⟩
      rw [List.getElem?_take, if_pos hi, List.getElem?_drop]
      rw [← h7, Array.getElem?_toList]; congr 1; omega
    · cases hv
  · rw [add_none, cell_block h1]
    rw [List.getElem?_take] at hj
    split at hj
    · rw [List.getElem?_drop, Array.getElem?_toList] at hj; exact hj
    · cases hj
theorem load_glob (hT : TabOk P T) (hw : WRel T γ h w0 w) {t : TypeId} {g off : Nat} {cs : List AV} {v : AV} (hc : T.gt.get g = some cs) (hl : apart T t cs off = some v) : ∃ v', (loadVar t ⟨g, off, none⟩).run P w = .ok v' w ∧ VRel γ v v' := by
  obtain ⟨hlt, c, e, fz, h1, hle, h2⟩ := hw.glob g cs hc
  have h1 : w.heap[g]? = some (.cells c e fz) := (hw.below.block g hlt).trans h1
  unfold apart at hl
  split at hl
  · rename_i i hi
    unfold loadVar
    simp only [Sem.run_bind, r_isAgg hT hi, Result.andThen_ok]
    split at hl
    · rename_i hag
      rw [hag]
      simp only [if_true, Sem.run_bind, r_sizeOf hT hi, Result.andThen_ok]
      cases hs : sub cs off i.size with
      | none => rw [hs] at hl; cases hl
      | some r =>
        rw [hs] at hl; cases hl
        obtain ⟨L, k1, k2, k3⟩ := stretch_at (s := 0) (γ := γ) h1 (fun i v hv => by rw [Nat.zero_add]; exact (h2 i v hv).imp fun _ h => ⟨h.1, h.2 γ⟩) (by omega) hs
        rw [Nat.zero_add] at k3
        rw [← k2, run_loadCells_list _ _ L k3]
        exact ⟨_, rfl, .agg k1⟩
    · rename_i hag
      simp only [hag, Bool.false_eq_true, if_false]
      rw [lget_eq] at hl
      obtain ⟨v', h3, h4⟩ := h2 _ _ hl
      refine ⟨v', ?_, h4 γ⟩
      rw [run_load, cell_block h1, h3]
  · cases hl
theorem load_rel (hT : TabOk P T) (hw : WRel T γ h w0 w) {t : TypeId} {a v : AV} {a' : Value} (hl : aload T h t a = some v) (ha : VRel γ a a') : ∃ p v', a' = .pointer (some p) ∧ (loadVar t p).run P w = .ok v' w ∧ VRel γ v v' := by
  unfold aload at hl
  split at hl
  · rename_i id off
    cases ha with
    | ptr hg =>
      rename_i b s K z
      split at hl
      · rename_i cs hc
        refine ⟨⟨b, s + off, none⟩, ?_⟩
        unfold apart at hl
        split at hl
        · rename_i i hi
          unfold loadVar
          simp only [Sem.run_bind, r_isAgg hT hi, Result.andThen_ok]
          split at hl
          · rename_i hag
            rw [hag]
            simp only [if_true, Sem.run_bind, r_sizeOf hT hi, Result.andThen_ok]
            cases hs : sub cs off i.size with
            | none => rw [hs] at hl; cases hl
            | some r =>
              rw [hs] at hl; cases hl
              obtain ⟨L, h1, h2, h3⟩ := stretch hw hc hg hs
              rw [← h2, run_loadCells_list _ _ L h3]
              exact ⟨_, trivial, rfl, .agg h1⟩
          · rename_i hag
            simp only [hag, Bool.false_eq_true, if_false]
            obtain ⟨c, e', fz, h1, h2, _⟩ := obj_cells hw hc hg
            rw [lget_eq] at hl
            obtain ⟨v', h3, h4⟩ := h2 _ _ hl
            refine ⟨v', trivial, ?_, h4⟩
            rw [run_load, cell_block h1, h3]
        · cases hl
      · cases hl
  · cases ha
    split at hl
    · rename_i cs hc
      obtain ⟨v', g1, g2⟩ := load_glob hT hw hc hl
      exact ⟨_, v', rfl, g1, g2⟩
    · cases hl
  · cases hl

/-- Cells stored one after the other. -/
theorem storeCells_run (P : Program) (b o : Nat) (e : TypeId) (fz : Nat × Nat) : ∀ (vs : List Value) (i : Nat) (w : World) (c : Array Value), w.heap[b]? = some (.cells c e fz) → o + i + vs.length ≤ c.size → (∀ v ∈ vs, v.oneCell' = true) →
    (∀ j, o + i ≤ j → j < o + i + vs.length → ¬ (fz.1 ≤ j ∧ j < fz.2)) →
    ∃ w', (storeCells ⟨b, o, none⟩ vs i).run P w = .ok () w' ∧ w'.heap.size = w.heap.size ∧ (∀ k, k ≠ b → w'.heap[k]? = w.heap[k]?) ∧ w'.os = w.os ∧ w'.tape = w.tape ∧ w'.output = w.output ∧ w'.heap[b]? = some (.cells ⟨lsetMany c.toList (o + i) vs⟩ e fz)
  | [], i, w, c, h1, _, _, _ => ⟨w, by simp [storeCells], rfl, fun _ _ => rfl, rfl, rfl, rfl, by simpa [lsetMany] using h1⟩
  | v :: vs, i, w, c, h1, h2, h3, h4 => by
    simp only [List.length_cons] at h2 h4
    have hcell : w.cell? ⟨b, o + i, none⟩ = some (c[o + i]'(by omega)) := by rw [cell_block h1, Array.getElem?_eq_getElem (by omega)]
    have hfr : w.frozen? ⟨b, o + i, none⟩ = false := by
      have := h4 (o + i) (Nat.le_refl _) (by omega)
      simp only [World.frozen?, h1]
      simpa using this
    have hst : (store ((⟨b, o, none⟩ : Addr).add i) v).run P w = .ok () (w.setCell ⟨b, o + i, none⟩ v) := by
      rw [add_none, run_store P w _ v _ (h3 v (by simp)), hcell]
      simp [hfr]
    have hb : (w.setCell ⟨b, o + i, none⟩ v).heap[b]? = some (.cells (c.setIfInBounds (o + i) v) e fz) := by
      simp [World.setCell, Array.getElem?_modify, h1]
    obtain ⟨w', g1, g2, g3, g4, g5, g6, g7⟩ := storeCells_run P b o e fz vs (i + 1) (w.setCell ⟨b, o + i, none⟩ v) (c.setIfInBounds (o + i) v) hb (by simp; omega) (fun u hu => h3 u (by simp [hu])) (fun j hj1 hj2 => h4 j (by omega) (by omega))
    refine ⟨w', ?_, ?_, fun k hk => ?_, ?_, ?_, ?_, ?_⟩
    · rw [storeCells, Sem.run_bind, hst, Result.andThen_ok, g1]
    · rw [g2]; simp [World.setCell]
    · rw [g3 k hk]; simp only [World.setCell, Array.getElem?_modify]; rw [if_neg (by omega)]
    · rw [g4]; rfl
    · rw [g5]; rfl
    · rw [g6]; rfl
    · rw [g7]
      simp only [lsetMany, lset_eq, Array.toList_setIfInBounds]
      rfl
/-- Cells of a live object written over. -/
theorem put_run (P : Program) (hw : WRel T γ h w0 w) {id b s K z off : Nat} {cs vs : List AV} {vs' : List Value} {e : TypeId} {h' : AH} (hc : ownOf h id = some (cs, e)) (hg : γ id = some (b, s, K, z)) (hv : LRel γ vs vs') (hp : put? h id cs e off vs = some h') :
    ∃ w', (storeCells ⟨b, s + off, none⟩ vs').run P w = .ok () w' ∧ WRel T γ h' w0 w' := by
  unfold put? at hp
  split at hp
  · rename_i hcond
    cases hp
    obtain ⟨hall, hlen⟩ := hcond
    obtain ⟨ho, hz, hB, c, e', fz, h1, h2, h3, h4, h5⟩ := obj_own hw hc hg
    have hl := hv.length
    have hone : ∀ v ∈ vs', v.oneCell' = true := by
      intro v hv'
      obtain ⟨j, hj, rfl⟩ := List.getElem_of_mem hv'
      have hj' : j < vs.length := by omega
      obtain ⟨u, g1, g2⟩ := hv.get (List.getElem?_eq_getElem hj')
      rw [List.getElem?_eq_getElem hj] at g1; cases g1
      exact g2.oneCell (by have := List.all_eq_true.1 hall _ (List.getElem_mem hj'); exact this)
    obtain ⟨w', g1, g2, g3, g4, g5, g6, g7⟩ := storeCells_run P b (s + off) e' fz vs' 0 w c h1 (by omega) hone (fun j hj1 hj2 => h5 j (by omega) (by omega))
    refine ⟨w', g1, hw.update hg ho (by simp) hB g2 g3 g4 g5 g6 ?_⟩
    rw [g7]
    have hty := obj_type hw ho hg
    obtain rfl := hty.2.2.same h1
    refine ⟨⟨hz, hty.2.1, ofType_cells⟩, _, _, fz, rfl, fun i v hi => ?_, ?_, by rw [lsetMany_length]; exact h4, fun _ => ⟨hB, h5⟩⟩
    · rw [lsetMany_get _ _ _ (by omega)] at hi
      have hgoal : (⟨lsetMany c.toList (s + off + 0) vs'⟩ : Array Value)[s + i]? = (lsetMany c.toList (s + off + 0) vs')[s + i]? := by simp
      rw [hgoal, lsetMany_get _ _ _ (by simp; omega)]
      split at hi
      · rename_i hr
        rw [if_pos (by omega)]
        obtain ⟨v', k1, k2⟩ := hv.get hi
        exact ⟨v', by rw [← k1]; congr 1; omega, k2⟩
      · rename_i hr
        rw [if_neg (by omega)]
        obtain ⟨v', k1, k2⟩ := h2 _ _ hi
        exact ⟨v', by rw [← k1]; simp, k2⟩
    · have : (⟨lsetMany c.toList (s + off + 0) vs'⟩ : Array Value).size = c.size := by simp [lsetMany_length]
      omega
  · cases hp
theorem store_rel (hT : TabOk P T) (hw : WRel T γ h w0 w) {t : TypeId} {a v : AV} {a' v' : Value} {h' : AH} (hs : astore T h t a v = some h') (ha : VRel γ a a') (hv : VRel γ v v') :
    ∃ p w', a' = .pointer (some p) ∧ (storeVar t p v').run P w = .ok () w' ∧ WRel T γ h' w0 w' := by
  unfold astore at hs
  split at hs
  · rename_i id off
    cases ha with
    | ptr hg =>
      rename_i b s K z
      split at hs
      · rename_i cs e i hc hi
        split at hs
        · rename_i hlen
          have hu : v ≠ .undef := by
            rintro rfl
            unfold put? at hs
            simp [AV.cells, scalar] at hs
          have hcs := hv.cells hu
          obtain ⟨w', g1, g2⟩ := put_run P hw hc hg hcs hs
          refine ⟨_, w', rfl, ?_, g2⟩
          unfold storeVar
          have : v'.cells.size = i.size := by rw [← hlen, ← hcs.length]; simp
          simp only [Sem.run_bind, r_sizeOf hT hi, Result.andThen_ok, this, ne_eq, not_true, if_false]
          simp [g1]
        · cases hs
      · cases hs
  · cases hs
end Go.AI
