/- Each operation that looks stands for the model's. -/
import Derived.Test.YtfjloafebkjadaaGreatDoorAIRel
import Derived.Laws.Entries
import Derived.LaidEqlPtr
import Derived.Laws.StructEq
import Derived.Laws.Strings
import Derived.Lib.Builder
import Derived.Lib.UnsafeStr
import Derived.MapKept
/- Reading and writing memory: what the model does where the abstract machine goes on. -/
namespace Go.AI
open Go.RowKit (Below)

structure TabOk (P : Program) (T : Tab) : Prop where
  ty : ∀ t i, T.tt.get t = some i → P.underlying t = some i.desc ∧ ∃ info z, P.info? t = some info ∧ info.size = i.size ∧ info.bytes = i.bytes ∧ info.zero = some z ∧ i.zero = (toAV z).cells ∧ i.zeroV = toAV z ∧ toAV z ≠ .undef ∧ i.isAgg = aggDesc i.desc ∧
    (i.plainEq = true → P.eqGuardType P.depth t = false ∧ P.stoodInHeld t = false)
  fn : ∀ f x, T.ft.get f = some x → ∃ F, P.funcs[f]? = some F ∧ (F.name == "runtime.NumGoroutine") = false ∧ F.body = some x.body ∧ F.ntmps = x.ntmps ∧ F.results.toList = x.results
  mixed : P.follows .mixedOrders = true
  ext : ∀ f c, T.xt.get f = some c → ∃ F, P.funcs[f]? = some F ∧ (F.name == "runtime.NumGoroutine") = false ∧ F.body.isNone = true ∧ Extern.findNext F = none ∧ Extern.find F = some Extern.AbiNoEscape.same

variable {P : Program} {T : Tab}
section types
variable (hT : TabOk P T) {t : TypeId} {i : TInfo} (h : T.tt.get t = some i) (w : World)
include hT h
theorem r_underlying : (underlying t).run P w = .ok i.desc w := run_underlying (hT.ty t i h).1 w
theorem r_sizeOf : (Go.sizeOf t).run P w = .ok i.size w := by
  obtain ⟨_, info, z, h1, h2, _⟩ := hT.ty t i h
  simp [Go.sizeOf, typeInfo, h1, h2]
theorem r_info : ∃ info z, (typeInfo t).run P w = .ok info w ∧ P.info? t = some info ∧ info.size = i.size ∧ info.bytes = i.bytes ∧ info.zero = some z ∧ i.zero = (toAV z).cells ∧ i.zeroV = toAV z ∧ toAV z ≠ .undef := by
  obtain ⟨_, info, z, h1, h2, h3, h4, h5, h6, h7, _⟩ := hT.ty t i h
  exact ⟨info, z, by simp [typeInfo, h1], h1, h2, h3, h4, h5, h6, h7⟩
theorem r_zero : ∃ z, (zeroValue t).run P w = .ok z w ∧ i.zero = (toAV z).cells ∧ i.zeroV = toAV z ∧ toAV z ≠ .undef := by
  obtain ⟨info, z, h1, _, _, _, h4, h5⟩ := r_info hT h w
  exact ⟨z, by simp [zeroValue, h1, h4], h5⟩
theorem r_isAgg : (isAgg t).run P w = .ok i.isAgg w := by
  obtain ⟨h0, info, z, _, _, _, _, _, _, _, h8, _⟩ := hT.ty t i h
  simp only [isAgg, Sem.run_bind, run_underlying h0, Result.andThen_ok, h8]
  cases i.desc <;> rfl
end types
theorem descOf_some {T : Tab} {t : TypeId} {d : TypeDesc} (h : descOf T t = d) (hd : d ≠ .invalid) : ∃ i, T.tt.get t = some i ∧ i.desc = d := by
  unfold descOf at h
  split at h
  · rename_i i hi; exact ⟨i, hi, h⟩
  · exact absurd h.symm hd
theorem r_desc (hT : TabOk P T) {t : TypeId} {d : TypeDesc} (h : descOf T t = d) (hd : d ≠ .invalid) (w : World) : (underlying t).run P w = .ok d w := by
  obtain ⟨i, hi, rfl⟩ := descOf_some h hd
  exact r_underlying hT hi w
theorem szOf_eq {e : TypeId} {i : TInfo} (h : T.tt.get e = some i) : szOf T e = i.size := by simp [szOf, h]

theorem add_none (b o j : Nat) : (⟨b, o, none⟩ : Addr).add j = ⟨b, o + j, none⟩ := by
  unfold Addr.add
  split
  · rename_i h; subst h; rfl
  · rfl
theorem cell_block {w : World} {b o : Nat} {c : Array Value} {e : TypeId} {fz : Nat × Nat} (h : w.heap[b]? = some (.cells c e fz)) : w.cell? ⟨b, o, none⟩ = c[o]? := by simp [World.cell?, h]

variable {γ : Emb} {h : AH} {w0 w : World}
theorem obj_cells (hw : WRel T γ h w0 w) {id b s K z : Nat} {cs : List AV} (hc : cellsOf h id = some cs) (hg : γ id = some (b, s, K, z)) :
    ∃ c e' fz, w.heap[b]? = some (.cells c e' fz) ∧ (∀ i v, cs[i]? = some v → ∃ v', c[s + i]? = some v' ∧ VRel γ v v') ∧ s + K ≤ c.size ∧ cs.length ≤ K := by
  obtain ⟨o, h1, h2, h3⟩ := hw.obj _ _ _ _ _ hg
  unfold cellsOf at hc
  rw [h1] at hc
  cases o <;> simp only [Option.some.injEq, reduceCtorEq] at hc
  subst hc
  obtain ⟨_, c, e', fz, h4, h5, h6, h7, _⟩ := h3
  exact ⟨c, e', fz, h4, h5, h6, h7⟩
theorem obj_own (hw : WRel T γ h w0 w) {id b s K z : Nat} {cs : List AV} {e : TypeId} (hc : ownOf h id = some (cs, e)) (hg : γ id = some (b, s, K, z)) :
    h.t.get id = some (.cells cs e false) ∧ z = szOf T e ∧ w0.heap.size ≤ b ∧ ∃ c e' fz, w.heap[b]? = some (.cells c e' fz) ∧ (∀ i v, cs[i]? = some v → ∃ v', c[s + i]? = some v' ∧ VRel γ v v') ∧ s + K ≤ c.size ∧ cs.length ≤ K ∧
      (∀ j, s ≤ j → j < s + K → ¬ (fz.1 ≤ j ∧ j < fz.2)) := by
  obtain ⟨o, h1, h2, h3⟩ := hw.obj _ _ _ _ _ hg
  unfold ownOf at hc
  rw [h1] at hc
  split at hc
  · rename_i cs' e' heq
    cases heq; cases hc
    obtain ⟨hz, c, e', fz, h4, h5, h6, h7, h8⟩ := h3
    exact ⟨h1, hz.1, (h8 rfl).1, c, e', fz, h4, h5, h6, h7, (h8 rfl).2⟩
  · cases hc
theorem obj_type (hw : WRel T γ h w0 w) {id b s K z : Nat} {cs : List AV} {e : TypeId} {ro : Bool} (hc : h.t.get id = some (.cells cs e ro)) (hg : γ id = some (b, s, K, z)) : z = szOf T e ∧ s % z = 0 ∧ OfType w.heap[b]? e := by
  obtain ⟨o, h1, h2, h3⟩ := hw.obj _ _ _ _ _ hg
  rw [hc] at h1; cases h1
  exact h3.1
theorem OfType.same {w : World} {b : Nat} {c : Array Value} {e e' : TypeId} {fz : Nat × Nat} (h : OfType w.heap[b]? e) (hb : w.heap[b]? = some (.cells c e' fz)) : e' = e := h _ _ _ hb
theorem ofType_cells {c : Array Value} {e : TypeId} {fz : Nat × Nat} : OfType (some (.cells c e fz)) e := by intro c' e' fz' h; cases h; rfl
theorem own_cells {h : AH} {id : Nat} {cs : List AV} {e : TypeId} (hc : ownOf h id = some (cs, e)) : cellsOf h id = some cs := by
  unfold ownOf at hc; unfold cellsOf
  split at hc
  · rename_i heq; rw [heq]; cases hc; rfl
  · cases hc
/-- A stretch of an object's cells, in memory. -/
theorem stretch (hw : WRel T γ h w0 w) {id b s K z off n : Nat} {cs r : List AV} (hc : cellsOf h id = some cs) (hg : γ id = some (b, s, K, z)) (hs : sub cs off n = some r) :
    ∃ L, LRel γ r L ∧ L.length = n ∧ ∀ j v, L[j]? = some v → w.cell? ((⟨b, s + off, none⟩ : Addr).add j) = some v := by
  obtain ⟨c, e', fz, h1, h2, h3, h4⟩ := obj_cells hw hc hg
  obtain ⟨h5, rfl, h6⟩ := sub_some hs
  have hlen : ((c.toList.drop (s + off)).take n).length = n := by simp; omega
  refine ⟨(c.toList.drop (s + off)).take n, LRel.of_get (by rw [hlen, h6]) fun i v hv => ?_, hlen, fun j v hj => ?_⟩
  · rw [List.getElem?_take] at hv
    split at hv
    · rename_i hi
      rw [List.getElem?_drop] at hv
      obtain ⟨v', h7, h8⟩ := h2 _ _ hv
      refine ⟨v', ?_, h8⟩
      rw [List.getElem?_take, if_pos hi, List.getElem?_drop]
      rw [← h7, Array.getElem?_toList]; congr 1; omega
    · cases hv
  · rw [add_none, cell_block h1]
    rw [List.getElem?_take] at hj
    split at hj
    · rw [List.getElem?_drop, Array.getElem?_toList] at hj; exact hj
    · cases hj
theorem part_rel (hT : TabOk P T) {t : TypeId} {cs : List AV} {cs' : List Value} {off : Nat} {v : AV} (hp : apart T t cs off = some v) (hl : LRel γ cs cs') (w : World) : ∃ v', (part t ⟨cs'⟩ off).run P w = .ok v' w ∧ VRel γ v v' := by
  unfold apart at hp
  split at hp
  · rename_i i hi
    unfold part
    simp only [Sem.run_bind, r_isAgg hT hi, Result.andThen_ok]
    split at hp
    · rename_i ha
      rw [ha]
      simp only [if_true, Sem.run_bind, r_sizeOf hT hi, Result.andThen_ok, Sem.run_pure]
      cases hs : sub cs off i.size with
      | none => rw [hs] at hp; cases hp
      | some r =>
        rw [hs] at hp; cases hp
        obtain ⟨h1, rfl, _⟩ := sub_some hs
        refine ⟨_, rfl, ?_⟩
        have : (⟨cs'⟩ : Array Value).extract off (off + i.size) = ⟨(cs'.drop off).take i.size⟩ := by
          apply Array.toList_inj.1; simp [List.extract_eq_take_drop]
        rw [this]
        exact .agg ((hl.drop off).take _)
    · rename_i ha
      simp only [ha, Bool.false_eq_true, if_false]
      rw [lget_eq] at hp
      obtain ⟨v', h1, h2⟩ := hl.get hp
      refine ⟨v', ?_, h2⟩
      have : (⟨cs'⟩ : Array Value)[off]? = some v' := by simpa using h1
      rw [this]; rfl
  · cases hp
theorem stretch_at {w : World} {b s off n : Nat} {cs r : List AV} {c : Array Value} {e : TypeId} {fz : Nat × Nat} (h1 : w.heap[b]? = some (.cells c e fz)) (h2 : ∀ i v, cs[i]? = some v → ∃ v', c[s + i]? = some v' ∧ VRel γ v v') (h3 : s + cs.length ≤ c.size) (hs : sub cs off n = some r) :
    ∃ L, LRel γ r L ∧ L.length = n ∧ ∀ j v, L[j]? = some v → w.cell? ((⟨b, s + off, none⟩ : Addr).add j) = some v := by
  obtain ⟨h5, rfl, h6⟩ := sub_some hs
  have hlen : ((c.toList.drop (s + off)).take n).length = n := by simp; omega
  refine ⟨(c.toList.drop (s + off)).take n, LRel.of_get (by rw [hlen, h6]) fun i v hv => ?_, hlen, fun j v hj => ?_⟩
  · rw [List.getElem?_take] at hv
    split at hv
    · rename_i hi
      rw [List.getElem?_drop] at hv
      obtain ⟨v', h7, h8⟩ := h2 _ _ hv
      refine ⟨v', ?_, h8⟩
      rw [List.getElem?_take, if_pos hi, List.getElem?_drop]
      rw [← h7, Array.getElem?_toList]; congr 1; omega
    · cases hv
  · rw [add_none, cell_block h1]
    rw [List.getElem?_take] at hj
    split at hj
    · rw [List.getElem?_drop, Array.getElem?_toList] at hj; exact hj
    · cases hj
theorem load_glob (hT : TabOk P T) (hw : WRel T γ h w0 w) {t : TypeId} {g off : Nat} {cs : List AV} {v : AV} (hc : T.gt.get g = some cs) (hl : apart T t cs off = some v) : ∃ v', (loadVar t ⟨g, off, none⟩).run P w = .ok v' w ∧ VRel γ v v' := by
  obtain ⟨hlt, c, e, fz, h1, hle, h2⟩ := hw.glob g cs hc
  have h1 : w.heap[g]? = some (.cells c e fz) := (hw.below.block g hlt).trans h1
  unfold apart at hl
  split at hl
  · rename_i i hi
    unfold loadVar
    simp only [Sem.run_bind, r_isAgg hT hi, Result.andThen_ok]
    split at hl
    · rename_i hag
      rw [hag]
      simp only [if_true, Sem.run_bind, r_sizeOf hT hi, Result.andThen_ok]
      cases hs : sub cs off i.size with
      | none => rw [hs] at hl; cases hl
      | some r =>
        rw [hs] at hl; cases hl
        obtain ⟨L, k1, k2, k3⟩ := stretch_at (s := 0) (γ := γ) h1 (fun i v hv => by rw [Nat.zero_add]; exact (h2 i v hv).imp fun _ h => ⟨h.1, h.2 γ⟩) (by omega) hs
        rw [Nat.zero_add] at k3
        rw [← k2, run_loadCells_list _ _ L k3]
        exact ⟨_, rfl, .agg k1⟩
    · rename_i hag
      simp only [hag, Bool.false_eq_true, if_false]
      rw [lget_eq] at hl
      obtain ⟨v', h3, h4⟩ := h2 _ _ hl
      refine ⟨v', ?_, h4 γ⟩
      rw [run_load, cell_block h1, h3]
  · cases hl
theorem load_rel (hT : TabOk P T) (hw : WRel T γ h w0 w) {t : TypeId} {a v : AV} {a' : Value} (hl : aload T h t a = some v) (ha : VRel γ a a') : ∃ p v', a' = .pointer (some p) ∧ (loadVar t p).run P w = .ok v' w ∧ VRel γ v v' := by
  unfold aload at hl
  split at hl
  · rename_i id off
    cases ha with
    | ptr hg =>
      rename_i b s K z
      split at hl
      · rename_i cs hc
        refine ⟨⟨b, s + off, none⟩, ?_⟩
        unfold apart at hl
        split at hl
        · rename_i i hi
          unfold loadVar
          simp only [Sem.run_bind, r_isAgg hT hi, Result.andThen_ok]
          split at hl
          · rename_i hag
            rw [hag]
            simp only [if_true, Sem.run_bind, r_sizeOf hT hi, Result.andThen_ok]
            cases hs : sub cs off i.size with
            | none => rw [hs] at hl; cases hl
            | some r =>
              rw [hs] at hl; cases hl
              obtain ⟨L, h1, h2, h3⟩ := stretch hw hc hg hs
              rw [← h2, run_loadCells_list _ _ L h3]
              exact ⟨_, trivial, rfl, .agg h1⟩
          · rename_i hag
            simp only [hag, Bool.false_eq_true, if_false]
            obtain ⟨c, e', fz, h1, h2, _⟩ := obj_cells hw hc hg
            rw [lget_eq] at hl
            obtain ⟨v', h3, h4⟩ := h2 _ _ hl
            refine ⟨v', trivial, ?_, h4⟩
            rw [run_load, cell_block h1, h3]
        · cases hl
      · cases hl
  · cases ha
    split at hl
    · rename_i cs hc
      obtain ⟨v', g1, g2⟩ := load_glob hT hw hc hl
      exact ⟨_, v', rfl, g1, g2⟩
    · cases hl
  · cases hl

/-- Cells stored one after the other. -/
theorem storeCells_run (P : Program) (b o : Nat) (e : TypeId) (fz : Nat × Nat) : ∀ (vs : List Value) (i : Nat) (w : World) (c : Array Value), w.heap[b]? = some (.cells c e fz) → o + i + vs.length ≤ c.size → (∀ v ∈ vs, v.oneCell' = true) →
    (∀ j, o + i ≤ j → j < o + i + vs.length → ¬ (fz.1 ≤ j ∧ j < fz.2)) →
    ∃ w', (storeCells ⟨b, o, none⟩ vs i).run P w = .ok () w' ∧ w'.heap.size = w.heap.size ∧ (∀ k, k ≠ b → w'.heap[k]? = w.heap[k]?) ∧ w'.os = w.os ∧ w'.tape = w.tape ∧ w'.output = w.output ∧ w'.heap[b]? = some (.cells ⟨lsetMany c.toList (o + i) vs⟩ e fz)
  | [], i, w, c, h1, _, _, _ => ⟨w, by simp [storeCells], rfl, fun _ _ => rfl, rfl, rfl, rfl, by simpa [lsetMany] using h1⟩
  | v :: vs, i, w, c, h1, h2, h3, h4 => by
    simp only [List.length_cons] at h2 h4
    have hcell : w.cell? ⟨b, o + i, none⟩ = some (c[o + i]'(by omega)) := by rw [cell_block h1, Array.getElem?_eq_getElem (by omega)]
    have hfr : w.frozen? ⟨b, o + i, none⟩ = false := by
      have := h4 (o + i) (Nat.le_refl _) (by omega)
      simp only [World.frozen?, h1]
      simpa using this
    have hst : (store ((⟨b, o, none⟩ : Addr).add i) v).run P w = .ok () (w.setCell ⟨b, o + i, none⟩ v) := by
      rw [add_none, run_store P w _ v _ (h3 v (by simp)), hcell]
      simp [hfr]
    have hb : (w.setCell ⟨b, o + i, none⟩ v).heap[b]? = some (.cells (c.setIfInBounds (o + i) v) e fz) := by
      simp [World.setCell, Array.getElem?_modify, h1]
    obtain ⟨w', g1, g2, g3, g4, g5, g6, g7⟩ := storeCells_run P b o e fz vs (i + 1) (w.setCell ⟨b, o + i, none⟩ v) (c.setIfInBounds (o + i) v) hb (by simp; omega) (fun u hu => h3 u (by simp [hu])) (fun j hj1 hj2 => h4 j (by omega) (by omega))
    refine ⟨w', ?_, ?_, fun k hk => ?_, ?_, ?_, ?_, ?_⟩
    · rw [storeCells, Sem.run_bind, hst, Result.andThen_ok, g1]
    · rw [g2]; simp [World.setCell]
    · rw [g3 k hk]; simp only [World.setCell, Array.getElem?_modify]; rw [if_neg (by omega)]
    · rw [g4]; rfl
    · rw [g5]; rfl
    · rw [g6]; rfl
    · rw [g7]
      simp only [lsetMany, lset_eq, Array.toList_setIfInBounds]
      rfl
/-- Cells of a live object written over. -/
theorem put_run (P : Program) (hw : WRel T γ h w0 w) {id b s K z off : Nat} {cs vs : List AV} {vs' : List Value} {e : TypeId} {h' : AH} (hc : ownOf h id = some (cs, e)) (hg : γ id = some (b, s, K, z)) (hv : LRel γ vs vs') (hp : put? h id cs e off vs = some h') :
    ∃ w', (storeCells ⟨b, s + off, none⟩ vs').run P w = .ok () w' ∧ WRel T γ h' w0 w' := by
  unfold put? at hp
  split at hp
  · rename_i hcond
    cases hp
    obtain ⟨hall, hlen⟩ := hcond
    obtain ⟨ho, hz, hB, c, e', fz, h1, h2, h3, h4, h5⟩ := obj_own hw hc hg
    have hl := hv.length
    have hone : ∀ v ∈ vs', v.oneCell' = true := by
      intro v hv'
      obtain ⟨j, hj, rfl⟩ := List.getElem_of_mem hv'
      have hj' : j < vs.length := by omega
      obtain ⟨u, g1, g2⟩ := hv.get (List.getElem?_eq_getElem hj')
      rw [List.getElem?_eq_getElem hj] at g1; cases g1
      exact g2.oneCell (by have := List.all_eq_true.1 hall _ (List.getElem_mem hj'); exact this)
    obtain ⟨w', g1, g2, g3, g4, g5, g6, g7⟩ := storeCells_run P b (s + off) e' fz vs' 0 w c h1 (by omega) hone (fun j hj1 hj2 => h5 j (by omega) (by omega))
    refine ⟨w', g1, hw.update hg ho (by simp) hB g2 g3 g4 g5 g6 ?_⟩
    rw [g7]
    have hty := obj_type hw ho hg
    obtain rfl := hty.2.2.same h1
    refine ⟨⟨hz, hty.2.1, ofType_cells⟩, _, _, fz, rfl, fun i v hi => ?_, ?_, by rw [lsetMany_length]; exact h4, fun _ => ⟨hB, h5⟩⟩
    · rw [lsetMany_get _ _ _ (by omega)] at hi
      have hgoal : (⟨lsetMany c.toList (s + off + 0) vs'⟩ : Array Value)[s + i]? = (lsetMany c.toList (s + off + 0) vs')[s + i]? := by simp
      rw [hgoal, lsetMany_get _ _ _ (by simp; omega)]
      split at hi
      · rename_i hr
        rw [if_pos (by omega)]
        obtain ⟨v', k1, k2⟩ := hv.get hi
        exact ⟨v', by rw [← k1]; congr 1; omega, k2⟩
      · rename_i hr
        rw [if_neg (by omega)]
        obtain ⟨v', k1, k2⟩ := h2 _ _ hi
        exact ⟨v', by rw [← k1]; simp, k2⟩
    · have : (⟨lsetMany c.toList (s + off + 0) vs'⟩ : Array Value).size = c.size := by simp [lsetMany_length]
      omega
  · cases hp
theorem store_rel (hT : TabOk P T) (hw : WRel T γ h w0 w) {t : TypeId} {a v : AV} {a' v' : Value} {h' : AH} (hs : astore T h t a v = some h') (ha : VRel γ a a') (hv : VRel γ v v') :
    ∃ p w', a' = .pointer (some p) ∧ (storeVar t p v').run P w = .ok () w' ∧ WRel T γ h' w0 w' := by
  unfold astore at hs
  split at hs
  · rename_i id off
    cases ha with
    | ptr hg =>
      rename_i b s K z
      split at hs
      · rename_i cs e i hc hi
        split at hs
        · rename_i hlen
          have hu : v ≠ .undef := by
            rintro rfl
            unfold put? at hs
            simp [AV.cells, scalar] at hs
          have hcs := hv.cells hu
          obtain ⟨w', g1, g2⟩ := put_run P hw hc hg hcs hs
          refine ⟨_, w', rfl, ?_, g2⟩
          unfold storeVar
          have : v'.cells.size = i.size := by rw [← hlen, ← hcs.length]; simp
          simp only [Sem.run_bind, r_sizeOf hT hi, Result.andThen_ok, this, ne_eq, not_true, if_false]
          simp [g1]
        · cases hs
      · cases hs
  · cases hs
end Go.AI
/- Operations that look and leave memory alone. -/
namespace Go.AI
open Go.RowKit (Below)
variable {P : Program} {T : Tab} {γ : Emb} {h : AH} {w0 w : World}

/-! ### Building -/
inductive PRel (γ : Emb) : List (Nat × AV) → List (Nat × Value) → Prop
  | nil : PRel γ [] []
  | cons {i : Nat} {v : AV} {v' : Value} {l : List (Nat × AV)} {l' : List (Nat × Value)} (h : VRel γ v v') (t : PRel γ l l') : PRel γ ((i, v) :: l) ((i, v') :: l')
theorem foldl_set (off : Nat) : ∀ (l : List Value) (k : Nat) (c : Array Value),
    (l.zipIdx k).foldl (fun (cs : Array Value) (x : Value × Nat) => cs.setIfInBounds (off + x.2) x.1) c = ⟨lsetMany c.toList (off + k) l⟩
  | [], _, c => by simp [lsetMany]
  | v :: l, k, c => by
    simp only [List.zipIdx_cons, List.foldl_cons]
    rw [foldl_set off l (k + 1)]
    simp [lsetMany, lset_eq, Nat.add_assoc]
theorem known_ne {v : AV} (h : known v = true) : v ≠ .undef := by rintro rfl; simp [known] at h
theorem fill_rel {place place' : Nat → Option (Nat × Nat)} (hp : ∀ i, place' i = place i) : ∀ {ps : List (Nat × AV)} {ps' : List (Nat × Value)} {cs r : List AV} {cs' : Array Value}, PRel γ ps ps' → LRel γ cs cs'.toList → afill place cs ps = some r →
    ∃ r', Instr.fill place' cs' ps' = some r' ∧ LRel γ r r'.toList
  | _, _, cs, r, cs', .nil, hc, hf => by simp only [afill, Option.some.injEq] at hf; subst hf; exact ⟨cs', rfl, hc⟩
  | _, _, cs, r, cs', .cons (i := i) (v := v) (v' := v') hv t, hc, hf => by
    simp only [afill] at hf
    unfold Instr.fill
    rw [hp i]
    cases hpl : place i with
    | none => rw [hpl] at hf; cases hf
    | some x =>
      obtain ⟨off, n⟩ := x
      rw [hpl] at hf
      dsimp only at hf ⊢
      split at hf
      · rename_i hcond
        obtain ⟨h1, h2, h3⟩ := hcond
        have hcells := hv.cells (known_ne h3)
        have hsz : v'.cells.size = n := by rw [← h1, ← hcells.length]; simp
        have hcs : cs'.size = cs.length := by rw [← hc.length]; simp
        rw [if_neg (by simp [hsz, hcs]; omega)]
        have hfold : (v'.cells.zipIdx.foldl (fun cs (x : Value × Nat) => match x with | (c, j) => cs.setIfInBounds (off + j) c) cs') = ⟨lsetMany cs'.toList off v'.cells.toList⟩ := by
          have := foldl_set off v'.cells.toList 0 cs'
          rw [Nat.add_zero] at this
          rw [← this, ← Array.foldl_toList, Array.toList_zipIdx]
        rw [hfold]
        exact fill_rel hp t (by simpa using hcells.setMany off hc) hf
      · cases hf
theorem run_mapM_places (hT : TabOk P T) (w : World) : ∀ (fs : List Field), allFields T fs = true →
    (fs.mapM (fun f => do pure (f.offset, ← Go.sizeOf f.type) : Field → Sem (Nat × Nat))).run P w = .ok (fs.map fun f => (f.offset, szOf T f.type)) w
  | [], _ => by simp
  | f :: fs, h => by
    simp only [allFields, List.all_cons, Bool.and_eq_true] at h
    obtain ⟨h1, h2⟩ := h
    obtain ⟨i, hi⟩ := Option.isSome_iff_exists.1 h1
    have := run_mapM_places hT w fs (by simpa [allFields] using h2)
    simp only [List.mapM_cons, Sem.run_bind, r_sizeOf hT hi, Result.andThen_ok, Sem.run_pure, this, List.map_cons, szOf_eq hi]
theorem places_eq (fs : List Field) (hall : allFields T fs = true) (i : Nat) :
    (fs.map fun f => (f.offset, szOf T f.type))[i]? = placeIn T fs i := by
  unfold placeIn
  rw [lget_eq, List.getElem?_map]
  cases hf : fs[i]? with
  | none => rfl
  | some f =>
    have hm := List.mem_of_getElem? hf
    have := List.all_eq_true.1 hall _ hm
    obtain ⟨j, hj⟩ := Option.isSome_iff_exists.1 this
    simp [hj, szOf_eq hj]
theorem build_rel (hT : TabOk P T) {t : TypeId} {ps : Array (Nat × Value)} {aps : List (Nat × AV)} {v : AV} (hp : PRel γ aps ps.toList) (hb : abuild T t aps = some v) (w : World) : ∃ v', (Instr.build t ps).run P w = .ok v' w ∧ VRel γ v v' := by
  unfold abuild at hb
  split at hb
  · rename_i i hi
    obtain ⟨z, hz, hz1, hz2, hz3⟩ := r_zero hT hi w
    have hzc : LRel γ i.zero z.cells.toList := by rw [hz1]; exact (toAV_rel γ z).cells hz3
    have hu := r_underlying hT hi w
    unfold Instr.build
    simp only [Sem.run_bind, hz, Result.andThen_ok, hu]
    split at hb
    · rename_i fs hd
      rw [hd]
      split at hb
      · cases hb
      · rename_i hall
        have hall' : allFields T fs.toList = true := by simpa using hall
        simp only [Array.mapM_eq_mapM_toList, Sem.run_bind, Sem.run_map, run_mapM_places hT w fs.toList hall', Result.andThen_ok]
        rw [Option.map_eq_some_iff] at hb
        obtain ⟨r, h1, rfl⟩ := hb
        obtain ⟨r', h3, h4⟩ := fill_rel (γ := γ) (place' := fun i => (List.map (fun f : Field => (f.offset, szOf T f.type)) fs.toList).toArray[i]?) (fun i => by simpa using places_eq fs.toList hall' i) hp hzc h1
        rw [h3]
        exact ⟨_, rfl, .agg h4⟩
    · rename_i n e hd
      rw [hd]
      split at hb
      · rename_i ei he
        rw [Option.map_eq_some_iff] at hb
        obtain ⟨r, h1, rfl⟩ := hb
        simp only [Sem.run_bind, r_sizeOf hT he, Result.andThen_ok]
        obtain ⟨r', h3, h4⟩ := fill_rel (γ := γ) (place' := fun i => some (i * ei.size, ei.size)) (fun i => rfl) hp hzc h1
        rw [h3]
        exact ⟨_, rfl, .agg h4⟩
      · cases hb
    · cases hb
  · cases hb
end Go.AI
/- Operators. -/
namespace Go.AI
open Go.RowKit (Below)
variable {P : Program} {T : Tab} {γ : Emb}

def eqSlots (d : Nat) (e n : Nat) (xs ys : Array Value) : Nat → Nat → Sem Bool
  | 0, _ => pure true
  | k + 1, i => do
    let a ← part e xs (i * n)
    let b ← part e ys (i * n)
    let r ← Op.equalIn d e a b
    if (!r) = true then pure false else eqSlots d e n xs ys k (i + 1)
theorem run_equalIn_array (hT : TabOk P T) (w : World) (d : Nat) (t : TypeId) (len e : Nat) (xs ys : Array Value) (ht : P.underlying t = some (.array len e)) {ie : TInfo} (he : T.tt.get e = some ie) :
    (Op.equalIn (d + 1) t (.agg xs) (.agg ys)).run P w = (eqSlots d e ie.size xs ys len 0).run P w := by
  simp only [Op.equalIn, Sem.run_bind, run_underlying ht, Result.andThen_ok, r_sizeOf hT he, Std.Legacy.Range.forIn_eq_forIn_range']
  simp only [Std.Legacy.Range.size, Nat.sub_zero, Nat.add_sub_cancel, Nat.div_one]
  generalize 0 = i
  clear ht
  induction len generalizing w i with
  | zero => simp [eqSlots]
  | succ n ih =>
    simp only [List.range'_succ, List.forIn_cons, eqSlots, Sem.run_bind]
    generalize (part e xs (i * ie.size)).run P w = r1
    cases r1 with
    | ok a w1 =>
      simp only [Result.andThen_ok]
      generalize (part e ys (i * ie.size)).run P w1 = r2
      cases r2 with
      | ok b w2 =>
        simp only [Result.andThen_ok]
        generalize (Op.equalIn d e a b).run P w2 = r3
        cases r3 with
        | ok r w3 =>
          cases r
          · simp
          · simp only [Result.andThen_ok, Bool.not_true, Bool.false_eq_true, if_false, Sem.run_pure]
            exact ih w3 (i + 1)
        | halt x w3 => simp [Result.andThen]
      | halt x w2 => simp [Result.andThen]
    | halt x w1 => simp [Result.andThen]

theorem rel_bool {γ : Emb} {b : Bool} {v : Value} (h : VRel γ (.bool b) v) : v = .bool b := by cases h; rfl
theorem rel_int {γ : Emb} {k : IntKind} {n : Int} {v : Value} (h : VRel γ (.int k n) v) : v = .int k n := by cases h; rfl
theorem rel_str {γ : Emb} {s : List UInt8} {v : Value} (h : VRel γ (.str s) v) : v = .string ⟨⟨s⟩⟩ := by cases h; rfl
section eqs
variable (w : World) {d : Nat} {t : TypeId}
theorem eqn_ptr_l {e : TypeId} (h : P.underlying t = some (.pointer e)) (b : Option Addr) : (Op.equalIn (d + 1) t (.pointer none) (.pointer b)).run P w = .ok b.isNone w := by simp [Op.equalIn, run_underlying h]
theorem eqn_ptr_r {e : TypeId} (h : P.underlying t = some (.pointer e)) (a : Addr) : (Op.equalIn (d + 1) t (.pointer (some a)) (.pointer none)).run P w = .ok false w := by simp [Op.equalIn, run_underlying h]
theorem eqn_sl_l {e : TypeId} (h : P.underlying t = some (.slice e)) (m n : Nat) (b : Option Addr) (l c : Nat) : (Op.equalIn (d + 1) t (.slice none m n) (.slice b l c)).run P w = .ok b.isNone w := by simp [Op.equalIn, run_underlying h]
theorem eqn_sl_r {e : TypeId} (h : P.underlying t = some (.slice e)) (a : Addr) (m n l c : Nat) : (Op.equalIn (d + 1) t (.slice (some a) m n) (.slice none l c)).run P w = .ok false w := by simp [Op.equalIn, run_underlying h]
theorem eqn_map_l {k e : TypeId} (h : P.underlying t = some (.map k e)) (b : Option Nat) : (Op.equalIn (d + 1) t (.map none) (.map b)).run P w = .ok b.isNone w := by simp [Op.equalIn, run_underlying h]
theorem eqn_map_r {k e : TypeId} (h : P.underlying t = some (.map k e)) (b : Nat) : (Op.equalIn (d + 1) t (.map (some b)) (.map none)).run P w = .ok false w := by simp [Op.equalIn, run_underlying h]
theorem eqn_fn_0 {a b : Array TypeId} {v : Bool} (h : P.underlying t = some (.func a b v)) : (Op.equalIn (d + 1) t .nilFunc .nilFunc).run P w = .ok true w := by simp [Op.equalIn, run_underlying h]
theorem eqn_fn_l {a b : Array TypeId} {v : Bool} (h : P.underlying t = some (.func a b v)) (f : Fn) (x y : Array Value) : (Op.equalIn (d + 1) t .nilFunc (.func f x y)).run P w = .ok false w := by simp [Op.equalIn, run_underlying h]
theorem eqn_fn_r {a b : Array TypeId} {v : Bool} (h : P.underlying t = some (.func a b v)) (f : Fn) (x y : Array Value) : (Op.equalIn (d + 1) t (.func f x y) .nilFunc).run P w = .ok false w := by simp [Op.equalIn, run_underlying h]
theorem eqn_if_0 {m : Array (String × TypeId)} (h : P.underlying t = some (.interface m)) : (Op.equalIn (d + 1) t .nilIface .nilIface).run P w = .ok true w := by simp [Op.equalIn, run_underlying h]
theorem eqn_if_l {m : Array (String × TypeId)} (h : P.underlying t = some (.interface m)) (u : TypeId) (v : Value) : (Op.equalIn (d + 1) t .nilIface (.iface u v)).run P w = .ok false w := by simp [Op.equalIn, run_underlying h]
theorem eqn_if_r {m : Array (String × TypeId)} (h : P.underlying t = some (.interface m)) (u : TypeId) (v : Value) : (Op.equalIn (d + 1) t (.iface u v) .nilIface).run P w = .ok false w := by simp [Op.equalIn, run_underlying h]
end eqs
theorem toList_mk (a : List UInt8) : (⟨⟨a⟩⟩ : ByteArray).toList = a := by rw [ByteArray.toList_eq]
theorem flat_sound (w : World) {d : Nat} {t : TypeId} {td : TypeDesc} {x y : AV} {x' y' : Value} {b : Bool} (hu : P.underlying t = some td) (h : aeqFlat td x y = some b) (hx : VRel γ x x') (hy : VRel γ y y') :
    (Op.equalIn (d + 1) t x' y').run P w = .ok b w := by
  unfold aeqFlat at h
  split at h
  · cases hx; cases hy; cases h; exact run_equalIn_bool' w d t _ _ hu
  · cases hx; cases hy
    split at h
    · rename_i hk; subst hk; cases h; exact run_equalIn_int w d t _ _ _ _ hu
    · cases h
  · cases hx; cases hy; cases h; rw [run_equalIn_string w d t _ _ hu, toList_mk, toList_mk]
  · cases hx; cases hy; cases h; exact eqn_ptr_l w hu _
  · cases hx; cases hy; cases h; exact eqn_ptr_l w hu _
  · cases hx; cases hy; cases h; exact eqn_ptr_r w hu _
  · cases hx; cases hy; cases h; exact eqn_sl_l w hu _ _ _ _ _
  · cases hx; cases h; cases hy <;> exact eqn_sl_l w hu _ _ _ _ _
  · cases hx; cases hy; cases h; exact eqn_sl_l w hu _ _ _ _ _
  · cases hy; cases h; cases hx <;> exact eqn_sl_r w hu _ _ _ _ _
  · cases hx; cases hy; cases h; exact eqn_sl_r w hu _ _ _ _ _
  · cases hx; cases hy; cases h; exact eqn_map_l w hu _
  · cases hx; cases hy; cases h; exact eqn_map_l w hu _
  · cases hx; cases hy; cases h; exact eqn_map_r w hu _
  · cases hx; cases hy; cases h; exact eqn_fn_0 w hu
  · cases hx; cases hy; cases h; exact eqn_fn_l w hu _ _ _
  · cases hx; cases hy; cases h; exact eqn_fn_r w hu _ _ _
  · cases hx; cases hy; cases h; exact eqn_if_0 w hu
  · cases hx; cases hy; cases h; exact eqn_if_l w hu _ _
  · cases hx; cases hy; cases h; exact eqn_if_r w hu _ _
  · cases h
theorem bytes_beq (a b : List UInt8) : ((⟨⟨a⟩⟩ : ByteArray) == ⟨⟨b⟩⟩) = (a == b) := by
  show ((⟨a⟩ : Array UInt8) == ⟨b⟩) = (a == b)
  simp

theorem eqList_sound (hT : TabOk P T) (D : Nat) (eq : TypeId → AV → AV → Option Bool)
    (heq : ∀ (w : World) t x y x' y' b, eq t x y = some b → VRel γ x x' → VRel γ y y' → (Op.equalIn D t x' y').run P w = .ok b w) {xs ys : List AV} {xs' ys' : List Value} (hx : LRel γ xs xs') (hy : LRel γ ys ys') (w : World) :
    ∀ (fs : List Field) (b : Bool), aeqList T eq xs ys ((fs.filter fun f => f.name != "_").map fun f => (f.type, f.offset)) = some b → (Op.eqFields D ⟨xs'⟩ ⟨ys'⟩ fs).run P w = .ok b w
  | [], b, h => by simp only [List.filter_nil, List.map_nil, aeqList, Option.some.injEq] at h; subst h; simp [Op.eqFields]
  | f :: fs, b, h => by
    unfold Op.eqFields
    by_cases hn : f.name = "_"
    · rw [if_neg (by simpa using hn)]
      exact eqList_sound hT D eq heq hx hy w fs b (by simpa [List.filter_cons, hn] using h)
    · rw [if_pos hn]
      rw [List.filter_cons_of_pos (by simpa using hn), List.map_cons, aeqList] at h
      split at h
      · rename_i u v h1 h2
        obtain ⟨u', g1, g2⟩ := part_rel hT h1 hx w
        obtain ⟨v', g3, g4⟩ := part_rel hT h2 hy w
        simp only [Sem.run_bind, g1, g3, Result.andThen_ok]
        split at h
        · rename_i h3
          rw [heq w _ _ _ _ _ _ h3 g2 g4]
          simp only [Result.andThen_ok, Bool.not_true, Bool.false_eq_true, if_false]
          exact eqList_sound hT D eq heq hx hy w fs b h
        · rename_i h3
          rw [heq w _ _ _ _ _ _ h3 g2 g4]
          cases h
          simp
        · cases h
      · cases h
theorem eqSlots_sound (hT : TabOk P T) (D : Nat) (eq : TypeId → AV → AV → Option Bool) (e n : Nat)
    (heq : ∀ (w : World) t x y x' y' b, eq t x y = some b → VRel γ x x' → VRel γ y y' → (Op.equalIn D t x' y').run P w = .ok b w) {xs ys : List AV} {xs' ys' : List Value} (hx : LRel γ xs xs') (hy : LRel γ ys ys') (w : World) :
    ∀ (k i : Nat) (b : Bool), aeqList T eq xs ys (slots e n k i) = some b → (eqSlots D e n ⟨xs'⟩ ⟨ys'⟩ k i).run P w = .ok b w
  | 0, _, b, h => by simp only [slots, aeqList, Option.some.injEq] at h; subst h; simp [eqSlots]
  | k + 1, i, b, h => by
    unfold eqSlots
    rw [slots, aeqList] at h
    split at h
    · rename_i u v h1 h2
      obtain ⟨u', g1, g2⟩ := part_rel hT h1 hx w
      obtain ⟨v', g3, g4⟩ := part_rel hT h2 hy w
      simp only [Sem.run_bind, g1, g3, Result.andThen_ok]
      split at h
      · rename_i h3
        rw [heq w _ _ _ _ _ _ h3 g2 g4]
        simp only [Result.andThen_ok, Bool.not_true, Bool.false_eq_true, if_false]
        exact eqSlots_sound hT D eq e n heq hx hy w k (i + 1) b h
      · rename_i h3
        rw [heq w _ _ _ _ _ _ h3 g2 g4]
        cases h
        simp
      · cases h
    · cases h
theorem aeq_sound (hT : TabOk P T) : ∀ (d D : Nat), d ≤ D → ∀ (w : World) (t : TypeId) (x y : AV) (x' y' : Value) (b : Bool), aeq T d t x y = some b → VRel γ x x' → VRel γ y y' → (Op.equalIn D t x' y').run P w = .ok b w
  | 0, _, _, w, t, x, y, x', y', b, h, _, _ => by simp [aeq] at h
  | d + 1, 0, hD, _, _, _, _, _, _, _, _, _, _ => by omega
  | d + 1, D + 1, hD, w, t, x, y, x', y', b, h, hx, hy => by
    unfold aeq at h
    split at h
    · cases h
    · rename_i i hi
      have hu := (hT.ty t i hi).1
      split at h
      · rename_i xs ys
        cases hx with
        | agg hx =>
        cases hy with
        | agg hy =>
        split at h
        · cases h
        · rename_i hpl
          obtain ⟨_, _, _, _, _, _, _, _, _, _, _, hpe⟩ := hT.ty t i hi
          have hst := (hpe (by simpa using hpl)).2
          split at h
          · rename_i fs hd
            have hfo : P.fieldsOf t = fs := by simp [Program.fieldsOf, hu, hd]
            rw [run_equalIn_struct w D t _ _ (by rw [hfo, hu, hd]) hst, hfo]
            exact eqList_sound hT D (aeq T d) (fun w t x y x' y' b => aeq_sound hT d D (by omega) w t x y x' y' b) hx hy w _ _ h
          · rename_i len e hd
            split at h
            · rename_i ie he
              rw [run_equalIn_array hT w D t len e _ _ (by rw [hu, hd]) he]
              exact eqSlots_sound hT D (aeq T d) e ie.size (fun w t x y x' y' b => aeq_sound hT d D (by omega) w t x y x' y' b) hx hy w _ _ _ h
            · cases h
          · cases h
      · exact flat_sound w hu h hx hy

theorem rel_nilIface {x : AV} (h : VRel γ x .nilIface) : x = .undef ∨ x = .nilIface := by cases h <;> simp
theorem rel_agg {x : AV} {cs : Array Value} (h : VRel γ x (.agg cs)) : x = .undef ∨ ∃ l, x = .agg l := by cases h <;> simp
theorem guard_ok (w : World) {op : BinOp} {t : TypeId} {xo yo : Operand} {x y : Value} (hn : x = .nilIface → y = .nilIface → isConst xo = true ∨ isConst yo = true) (ha : ∀ a b, x = .agg a → y = .agg b → P.eqGuardType P.depth t = false) :
    (eqGuard op t xo yo x y).run P w = .ok () w := by
  by_cases hx : x = .nilIface ∧ y = .nilIface
  · obtain ⟨rfl, rfl⟩ := hx
    unfold eqGuard
    have := hn rfl rfl
    cases op <;> first
      | rfl
      | (cases xo <;> cases yo <;> simp_all [isConst])
  · by_cases hag : ∃ a b, x = .agg a ∧ y = .agg b
    · obtain ⟨a, b, rfl, rfl⟩ := hag
      exact run_eqGuard_agg w op t xo yo a b (ha a b rfl rfl)
    · unfold eqGuard
      cases op <;> first
        | rfl
        | (simp only [Bool.not_true, Bool.false_eq_true, if_false]
           split
           · exact absurd ⟨rfl, rfl⟩ hx
           · exact absurd ⟨_, _, rfl, rfl⟩ hag
           · rfl)
theorem eqTop_sound (hT : TabOk P T) {op : BinOp} {xo yo : Operand} {t : TypeId} {x y : AV} {x' y' : Value} {b : Bool} (h : aeqTop T (isConst xo || isConst yo) t x y = some b) (hx : VRel γ x x') (hy : VRel γ y y') (w : World) :
    (eqGuard op t xo yo x' y').run P w = .ok () w ∧ (Op.equal t x' y').run P w = .ok b w := by
  rcases Classical.em (∃ i o j p, x = .ptr i o ∧ y = .ptr j p) with ⟨i, o, j, p, rfl, rfl⟩ | hne
  · simp only [aeqTop] at h
    split at h
    · rename_i hij
      obtain ⟨rfl, rfl⟩ := hij
      split at h
      · rename_i te hd
        split at h
        · rename_i hte
          obtain ⟨it, hit⟩ := Option.isSome_iff_exists.1 hte
          cases h
          cases hx with
          | ptr h1 =>
            cases hy with
            | ptr h2 =>
              rw [h1] at h2; cases h2
              obtain ⟨_, info, _, hi, _⟩ := hT.ty te it hit
              have hu := r_desc hT hd (by simp) w
              have h : ∀ d : Nat, ∀ a : Addr, (Op.equalIn (d + 1) t (.pointer (some a)) (.pointer (some a))).run P w = .ok true w := fun d a => by
                simp [Op.equalIn, hu, Go.sizeOf, typeInfo, hi, run_sameAddr_same]
              refine ⟨guard_ok w (by simp) (by simp), ?_⟩
              simp [Op.equal, Op.maxDepth, h 9999]
        · cases h
      · cases h
    · cases h
  have he : aeq T 9 t x y = some b ∧ (x = .nilIface → y = .nilIface → isConst xo = true ∨ isConst yo = true) ∧ x ≠ .undef ∧ y ≠ .undef := by
    unfold aeqTop at h
    split at h
    · split at h
      · rename_i hc
        exact ⟨h, fun _ _ => by simpa using hc, by simp, by simp⟩
      · cases h
    · cases h
    · cases h
    · exact (hne ⟨_, _, _, _, rfl, rfl⟩).elim
    · rename_i h1 h2 h3 _
      exact ⟨h, fun e1 e2 => (h3 e1 e2).elim, h1, h2⟩
  obtain ⟨he, h1, h2, h3⟩ := he
  refine ⟨guard_ok w ?_ ?_, aeq_sound hT 9 10000 (by decide) w t x y x' y' b he hx hy⟩
  · rintro rfl rfl
    exact h1 ((rel_nilIface hx).resolve_left h2) ((rel_nilIface hy).resolve_left h3)
  · rintro a c rfl rfl
    obtain ⟨l, rfl⟩ := (rel_agg hx).resolve_left h2
    obtain ⟨m, rfl⟩ := (rel_agg hy).resolve_left h3
    unfold aeq at he
    split at he
    · cases he
    · rename_i i hi
      dsimp only at he
      split at he
      · cases he
      · rename_i hpl
        obtain ⟨_, _, _, _, _, _, _, _, _, _, _, hpe⟩ := hT.ty t i hi
        exact (hpe (by simpa using hpl)).1
theorem bytesLess_eq : ∀ a b : List UInt8, Op.bytesLess a b = bytesLess a b
  | [], [] => rfl
  | _ :: _, [] => rfl
  | [], _ :: _ => rfl
  | a :: x, b :: y => by simp [Op.bytesLess, bytesLess, bytesLess_eq x y]
theorem str_sound (w : World) {op : BinOp} {t : TypeId} {a b : List UInt8} {v : AV} (h : astr op a b = some v) : ∃ v', (binOp op t (.string ⟨⟨a⟩⟩) (.string ⟨⟨b⟩⟩)).run P w = .ok v' w ∧ VRel γ v v' := by
  have e : binOp op t (.string ⟨⟨a⟩⟩) (.string ⟨⟨b⟩⟩) = Op.stringOp op ⟨⟨a⟩⟩ ⟨⟨b⟩⟩ := by cases op <;> rfl
  rw [e]
  unfold astr at h
  unfold Op.stringOp
  simp only [toList_mk, bytesLess_eq]
  split at h <;> (try (cases h; done)) <;> (try (cases h; exact ⟨_, rfl, .bool _⟩))
  split at h
  · rename_i hl
    cases h
    have hsz : (⟨⟨a⟩⟩ : ByteArray).size = a.length ∧ (⟨⟨b⟩⟩ : ByteArray).size = b.length := ⟨rfl, rfl⟩
    have hmax : IntKind.i64.max = 9223372036854775807 := by decide
    rw [if_neg (by rw [hsz.1, hsz.2, hmax]; omega)]
    refine ⟨_, rfl, ?_⟩
    have : (⟨⟨a⟩⟩ : ByteArray) ++ ⟨⟨b⟩⟩ = ⟨⟨a ++ b⟩⟩ := by
      apply ByteArray.ext; simp [ByteArray.data_append]
    rw [this]; exact .str _
  · cases h
theorem bin_sound (w : World) {op : BinOp} {k : IntKind} {t : TypeId} {a b : Int} {v : AV} (h : abin op k a b = some v) : (binOp op t (.int k a) (.int k b)).run P w = .ok (match v with | .int k n => .int k n | .bool b => .bool b | _ => undef) w ∧ (∀ γ : Emb, VRel γ v (match v with | .int k n => .int k n | .bool b => .bool b | _ => undef)) := by
  unfold abin at h
  cases op <;> dsimp only at h <;> first
    | (cases h; done)
    | (cases h; exact ⟨by simp [binOp, Op.intArith, Op.intCmp, Op.intBits], fun _ => by constructor⟩)
    | (split at h
       · cases h
       · rename_i hb
         cases h; exact ⟨by simp [binOp, Op.intDiv, hb], fun _ => by constructor⟩)
theorem shift_sound (w : World) {shl : Bool} {k k' : IntKind} {t : TypeId} {a b : Int} {v : AV} (h : ashift shl k a b = some v) : ∃ n, v = .int k n ∧ (binOp (if shl then .shl else .shr) t (.int k a) (.int k' b)).run P w = .ok (.int k n) w := by
  unfold ashift at h
  split at h
  · cases h
  · rename_i hb
    cases shl <;> (cases h; exact ⟨_, rfl, by simp [binOp, Op.shift, hb]⟩)
def pair : Value → Value → Bool
  | .int .., .int .. => true
  | .float .., .float .. => true
  | .complex .., .complex .. => true
  | .string _, .string _ => true
  | _, _ => false
theorem binOp_eql {t : TypeId} {x y : Value} (h : pair x y = false) : binOp .eql t x y = (do pure (.bool (← Op.equal t x y))) := by
  cases x <;> cases y <;> first
    | rfl
    | (simp [pair] at h)
theorem binOp_neq {t : TypeId} {x y : Value} (h : pair x y = false) : binOp .neq t x y = (do pure (.bool (!(← Op.equal t x y)))) := by
  cases x <;> cases y <;> first
    | rfl
    | (simp [pair] at h)
theorem pair_false {x y : AV} {x' y' : Value} (hx : VRel γ x x') (hy : VRel γ y y') (h0 : x ≠ .undef) (h1 : y ≠ .undef) (h2 : ∀ k a k' b, x = .int k a → y = .int k' b → False) (h3 : ∀ a b, x = .str a → y = .str b → False) : pair x' y' = false := by
  unfold pair
  split
  · cases hx with
    | undef => exact absurd rfl h0
    | int k n => cases hy with
      | undef => exact absurd rfl h1
      | int k' m => exact (h2 _ _ _ _ rfl rfl).elim
  · cases hx; exact absurd rfl h0
  · cases hx; exact absurd rfl h0
  · cases hx with
    | undef => exact absurd rfl h0
    | str s => cases hy with
      | undef => exact absurd rfl h1
      | str s => exact (h3 _ _ rfl rfl).elim
  · rfl
theorem eqTop_known {c : Bool} {t : TypeId} {x y : AV} {b : Bool} (h : aeqTop T c t x y = some b) : x ≠ .undef ∧ y ≠ .undef := by
  unfold aeqTop at h
  split at h
  · exact ⟨by simp, by simp⟩
  · cases h
  · cases h
  · exact ⟨by simp, by simp⟩
  · rename_i h1 h2 _ _; exact ⟨h1, h2⟩
theorem binOp_sound (hT : TabOk P T) (w : World) {op : BinOp} {xo yo : Operand} {t : TypeId} {x y v : AV} {x' y' : Value} (h : abinOp T op (isConst xo || isConst yo) t x y = some v) (hx : VRel γ x x') (hy : VRel γ y y') :
    ∃ v', (do eqGuard op t xo yo x' y'; binOp op t x' y' : Sem Value).run P w = .ok v' w ∧ VRel γ v v' := by
  unfold abinOp at h
  split at h
  · cases hx; cases hy
    rw [Sem.run_bind, guard_ok w (by simp) (by simp), Result.andThen_ok]
    split at h
    · obtain ⟨n, rfl, h2⟩ := shift_sound (P := P) (t := t) w h
      exact ⟨_, h2, .int _ _⟩
    · obtain ⟨n, rfl, h2⟩ := shift_sound (P := P) (t := t) w h
      exact ⟨_, h2, .int _ _⟩
    · split at h
      · rename_i hk; subst hk
        obtain ⟨h1, h2⟩ := bin_sound (P := P) (t := t) w h
        exact ⟨_, h1, h2 γ⟩
      · cases h
  · cases hx; cases hy
    rw [Sem.run_bind, guard_ok w (by simp) (by simp), Result.andThen_ok]
    exact str_sound w h
  · rename_i h1 h2
    split at h
    · rw [Option.map_eq_some_iff] at h
      obtain ⟨b, h3, rfl⟩ := h
      obtain ⟨g1, g2⟩ := eqTop_sound hT h3 hx hy w (op := .eql)
      obtain ⟨k1, k2⟩ := eqTop_known h3
      rw [Sem.run_bind, g1, Result.andThen_ok, binOp_eql (pair_false hx hy k1 k2 (fun k a k' b e1 e2 => h1 _ _ _ _ e1 e2) (fun a b e1 e2 => h2 _ _ e1 e2)), Sem.run_bind, g2]
      exact ⟨_, rfl, .bool _⟩
    · rw [Option.map_eq_some_iff] at h
      obtain ⟨b, h3, rfl⟩ := h
      obtain ⟨g1, g2⟩ := eqTop_sound hT h3 hx hy w (op := .neq)
      obtain ⟨k1, k2⟩ := eqTop_known h3
      rw [Sem.run_bind, g1, Result.andThen_ok, binOp_neq (pair_false hx hy k1 k2 (fun k a k' b e1 e2 => h1 _ _ _ _ e1 e2) (fun a b e1 e2 => h2 _ _ e1 e2)), Sem.run_bind, g2]
      exact ⟨_, rfl, .bool _⟩
    · cases h
theorem unOp_sound (w : World) {op : UnOp} {x v : AV} {x' : Value} (h : aunOp op x = some v) (hx : VRel γ x x') : ∃ v', (Op.unary op x').run P w = .ok v' w ∧ VRel γ v v' := by
  unfold aunOp at h
  split at h
  · cases hx
    cases h
    exact ⟨_, by simp [Op.unary, Op.intArith], .int _ _⟩
  · cases hx
    cases h
    exact ⟨_, by simp [Op.unary, Op.intBits], .int _ _⟩
  · cases hx
    cases h
    exact ⟨_, by simp [Op.unary], .bool _⟩
  · cases h
end Go.AI
/- The other operations that leave memory alone. -/
namespace Go.AI
open Go.RowKit (Below)
variable {P : Program} {T : Tab} {γ : Emb} {h : AH} {w0 w : World}

def byteStep (c : Value) (s : ByteArray) : Sem (ForInStep ByteArray) :=
  match c with
  | .int .u8 n => pure (.yield (s.push (UInt8.ofNat n.toNat)))
  | _ => stuck "bytesToString: byte expected"
theorem push_mk (s : ByteArray) (b : UInt8) : (s.push b).data.toList = s.data.toList ++ [b] := by
  obtain ⟨⟨l⟩⟩ := s; simp [ByteArray.push]
theorem toBytes_some : ∀ {l : List AV} {r : List UInt8}, toBytes l = some r → ∀ {L : List Value}, LRel γ l L → ∀ (s : ByteArray),
    (forIn L s byteStep).run P w = .ok (⟨⟨s.data.toList ++ r⟩⟩ : ByteArray) w
  | [], r, h, _, .nil, s => by
    simp only [toBytes, Option.some.injEq] at h; subst h
    simp
  | v :: l, r, h, _, .cons hv t, s => by
    unfold toBytes at h
    split at h
    · rename_i heq; cases heq
    · rename_i n rest heq
      cases heq
      rw [Option.map_eq_some_iff] at h
      obtain ⟨r', h1, rfl⟩ := h
      cases hv
      rw [List.forIn_cons, Sem.run_bind]
      have : (byteStep (.int .u8 n) s).run P w = .ok (.yield (s.push (UInt8.ofNat n.toNat))) w := rfl
      rw [this, Result.andThen_ok]
      dsimp only
      rw [toBytes_some h1 t, push_mk]
      simp
    · cases h
theorem isByte_desc {e : TypeId} (h : isByte T e = true) : descOf T e = .int .u8 := by
  unfold isByte at h
  split at h
  · assumption
  · cases h
theorem bytes_sound (hw : WRel T γ h w0 w) {x v : AV} {x' : Value} (hc : abytes h x = some v) (hx : VRel γ x x') : ∃ v', (Conv.bytesToString x').run P w = .ok v' w ∧ VRel γ v v' := by
  have core : ∀ {id off len b s K z c' : Nat}, γ id = some (b, s, K, z) → abytes h (.slice id off len 0 true) = some v → ∃ v', (Conv.bytesToString (.slice (some ⟨b, s + off, none⟩) len c')).run P w = .ok v' w ∧ VRel γ v v' := by
    intro id off len b s K z c' hg hc
    unfold abytes at hc
    dsimp only at hc
    split at hc
    · rename_i cs hcs
      split at hc
      · rename_i l hl
        rw [Option.map_eq_some_iff] at hc
        obtain ⟨r, h1, rfl⟩ := hc
        obtain ⟨L, h2, h3, h4⟩ := stretch hw hcs hg hl
        unfold Conv.bytesToString
        simp only [Sem.run_bind]
        rw [← h3, run_loadCells_list _ _ L h4]
        simp only [Result.andThen_ok]
        rw [← Array.forIn_toList]
        refine ⟨.string ⟨⟨r⟩⟩, ?_, .str _⟩
        have e2 : ∀ f : Value → ByteArray → Sem (ForInStep ByteArray), (∀ c s, f c s = byteStep c s) → (forIn L.toArray.toList ByteArray.empty f).run P w = .ok (⟨⟨r⟩⟩ : ByteArray) w := by
          intro f hf
          have : f = byteStep := funext fun c => funext fun s => hf c s
          rw [this]
          exact toBytes_some h1 h2 ByteArray.empty
        rw [e2 _ (by intro c s; cases c with
          | int k n => cases k <;> rfl
          | _ => rfl)]
        rfl
      · cases hc
    · cases hc
  cases hx with
  | nilSlice => cases hc; exact ⟨_, rfl, .str _⟩
  | eslice a c =>
    cases hc
    unfold Conv.bytesToString
    simp only [Sem.run_bind]
    have := run_loadCells_list (P := P) w a [] (by simp)
    simp only [List.length_nil] at this
    rw [this]
    exact ⟨_, rfl, .str _⟩
  | slice hg => exact core hg hc
  | grown hg _ _ => exact core hg hc
  | _ => cases hc
theorem liesAt_self {e : TypeId} {count off n : Nat} (hc : P.cellsOf e ≠ 0) (h0 : off % P.cellsOf e = 0) (hn : off / P.cellsOf e + n ≤ count) : liesAt P P.depth e count off e n = true := by
  have hd : P.depth = (2 * (P.types.size + Made.depth) + 1) + 1 := rfl
  rw [hd]
  simp only [liesAt, Bool.or_eq_true]
  left
  rw [hd]
  simp [rowAt, hc, hn, h0, sameLayout]
theorem shape_of {w : World} {b : Nat} {c : Array Value} {e : TypeId} {fz : Nat × Nat} (h : w.heap[b]? = some (.cells c e fz)) : w.shape? b = some (e, c.size) := by simp [World.shape?, h]
theorem unsafe_sound (hT : TabOk P T) (hw : WRel T γ h w0 w) {s d t : TypeId} {id off : Nat} {v : AV} {x' : Value} (hs : P.underlying s = some (.pointer t)) (hd : P.underlying d = some .unsafePointer) (hc : aunsafe T h t id off = some v) (hx : VRel γ (.ptr id off) x') :
    (convert s d x').run P w = .ok x' w ∧ VRel γ v x' := by
  unfold aunsafe at hc
  split at hc
  · rename_i it cs e ro ht ho
    split at hc
    · rename_i hcond
      cases hc
      cases hx with
      | ptr hg =>
        obtain ⟨_, info, _, hi, hsz, _⟩ := hT.ty t it ht
        obtain ⟨c, e', fz, h1, _, h3, h4⟩ := obj_cells hw (cs := cs) (by unfold cellsOf; rw [ho]) hg
        exact ⟨Go.Lib.run_to_unsafe w _ hs hd hi (by rw [hsz]; exact hcond.1) (shape_of h1) (by dsimp only; omega), .ptr hg⟩
    · cases hc
  · cases hc
theorem fromUnsafe_sound (hT : TabOk P T) (hw : WRel T γ h w0 w) {s d u : TypeId} {id off : Nat} {v : AV} {x' : Value} (hs : P.underlying s = some .unsafePointer) (hd : P.underlying d = some (.pointer u)) (hc : afromUnsafe T h u id off = some v) (hx : VRel γ (.ptr id off) x') :
    (convert s d x').run P w = .ok x' w ∧ VRel γ v x' := by
  unfold afromUnsafe at hc
  split at hc
  · rename_i iu cs e ro hu ho
    split at hc
    · rename_i hcond
      obtain ⟨he, hz, hm, hlen⟩ := hcond
      obtain rfl := Nat.eq_of_beq_eq_true he
      cases hc
      cases hx with
      | ptr hg =>
        rename_i b sh K z
        obtain ⟨_, info, _, hi, hsz, _⟩ := hT.ty u iu hu
        obtain ⟨c, e', fz, h1, _, h3, h4⟩ := obj_cells hw (cs := cs) (by unfold cellsOf; rw [ho]) hg
        obtain ⟨t1, t2, t3⟩ := obj_type hw ho hg
        obtain rfl := t3.same h1
        have hcell : P.cellsOf e' = iu.size := by simp [Program.cellsOf, hi, hsz]
        have hzz : z = iu.size := by rw [t1, szOf_eq hu]
        refine ⟨Go.Lib.run_from_unsafe w _ hs hd hi (shape_of h1) (liesAt_self (by rw [hcell]; exact hz) ?_ ?_), .ptr hg⟩
        · rw [hcell]; dsimp only; rw [Nat.add_mod, hm, ← hzz, t2]; simp
        · rw [hcell]; dsimp only
          have hpos : 0 < iu.size := by omega
          rw [← Nat.add_div_right _ hpos]
          exact Nat.div_le_div_right (by omega)
    · cases hc
  · cases hc
theorem convert_sound (hT : TabOk P T) (hw : WRel T γ h w0 w) {s d : TypeId} {x v : AV} {x' : Value} (hc : aconvert T h s d x = some v) (hx : VRel γ x x') : ∃ v', (convert s d x').run P w = .ok v' w ∧ VRel γ v v' := by
  unfold aconvert at hc
  unfold convert
  split at hc
  · cases hc
  · rename_i si hs
    simp only [Sem.run_bind, r_underlying hT hs, Result.andThen_ok]
    split at hc
    · rename_i k kk n hd
      cases hx; cases hc
      simp only [r_desc hT hd (by simp), Result.andThen_ok]
      cases si.desc <;> exact ⟨_, rfl, .int _ _⟩
    · rename_i l hd
      cases hx; cases hc
      simp only [r_desc hT hd (by simp), Result.andThen_ok]
      cases si.desc <;> exact ⟨_, rfl, .str _⟩
    · rename_i hd _
      simp only [r_desc hT hd (by simp), Result.andThen_ok]
      split at hc
      · rename_i e he
        rw [he]
        split at hc
        · rename_i hb
          obtain ⟨v', g1, g2⟩ := bytes_sound (P := P) hw hc hx
          refine ⟨v', ?_, g2⟩
          have hu := r_desc hT (isByte_desc hb) (by simp) w
          cases hx <;> first
            | (cases hc; done)
            | (simp only [Sem.run_bind, hu, Result.andThen_ok]; exact g1)
        · cases hc
      · cases hc
    · rename_i id off hd
      split at hc
      · rename_i t ht
        obtain ⟨j, hj, hjd⟩ := descOf_some hd (by simp)
        have h1 := (hT.ty s si hs).1
        have h2 := (hT.ty d j hj).1
        rw [ht] at h1; rw [hjd] at h2
        have := unsafe_sound hT hw h1 h2 hc hx
        rw [ht]
        exact ⟨x', by have e := this.1; unfold convert at e; simp only [Sem.run_bind, run_underlying h1, Result.andThen_ok] at e; exact e, this.2⟩
      · cases hc
    · rename_i u id off hd
      split at hc
      · rename_i ht
        obtain ⟨j, hj, hjd⟩ := descOf_some hd (by simp)
        have h1 := (hT.ty s si hs).1
        have h2 := (hT.ty d j hj).1
        rw [ht] at h1; rw [hjd] at h2
        have := fromUnsafe_sound hT hw h1 h2 hc hx
        rw [ht]
        exact ⟨x', by have e := this.1; unfold convert at e; simp only [Sem.run_bind, run_underlying h1, Result.andThen_ok] at e; exact e, this.2⟩
      · cases hc
    · cases hc

/-! ### Addresses and parts -/
theorem bound_sound (w : World) {y n : Nat} {v : AV} {v' : Value} {c : BoundsCode} (hb : bound y v = some n) (hv : VRel γ v v') : (Instr.sliceBound v' y c).run P w = .ok n w ∧ n ≤ y := by
  unfold bound at hb
  split at hb
  · rename_i k i
    cases hv
    split at hb
    · rename_i hi
      cases hb
      refine ⟨?_, by omega⟩
      simp [Instr.sliceBound, asIntOf, hi]
    · cases hb
  · cases hb
def ORelO (γ : Emb) : Option AV → Option Value → Prop
  | none, none => True
  | some v, some v' => VRel γ v v'
  | _, _ => False
theorem wid (w : World) {y y' n : Nat} {v : AV} {v' : Value} {c : BoundsCode} (hy : y ≤ y') (hb : bound y v = some n) (hv : VRel γ v v') : (Instr.sliceBound v' y' c).run P w = .ok n w := by
  refine (bound_sound w (γ := γ) (v := v) ?_ hv).1
  unfold bound at hb ⊢
  split at hb
  · rename_i k i
    split at hb
    · rename_i hi; rw [if_pos (by omega)]; exact hb
    · cases hb
  · cases hb
theorem low_run (w : World) {lo : Option AV} {lo' : Option Value} {q n m : Nat} {c : BoundsCode} (h1 : ORelO γ lo lo') (e : optBound q 0 lo = some n) :
    (match lo' with | some v => (do let l ← Instr.sliceBound v q c; pure (l, q, m) : Sem (Nat × Nat × Nat)) | none => (do let l ← pure 0; pure (l, q, m))).run P w = .ok (n, q, m) w ∧ n ≤ q := by
  cases lo with
  | none => cases lo' with
    | some _ => exact h1.elim
    | none => cases e; exact ⟨rfl, Nat.zero_le _⟩
  | some v => cases lo' with
    | none => exact h1.elim
    | some v' =>
      obtain ⟨g1, g2⟩ := bound_sound (P := P) (c := c) w e h1
      refine ⟨?_, g2⟩
      simp only [Sem.run_bind, g1, Result.andThen_ok]; rfl
/-- The bounds are what the model computes; 'cap' may be less than the model's where no max is given and what is read lies within. -/
theorem bounds_sound (w : World) {sl : Bool} {len cap cap' l hi m : Nat} {lo hg mx : Option AV} {lo' hg' mx' : Option Value} (hb : bounds len cap lo hg mx = some (l, hi, m)) (h1 : ORelO γ lo lo') (h2 : ORelO γ hg hg') (h3 : ORelO γ mx mx') (hc : cap ≤ cap') :
    (Instr.sliceBounds sl len cap' lo' hg' mx').run P w = .ok (l, hi, if mx.isSome then m else cap') w ∧ (mx.isSome = false → m = cap) ∧ m ≤ cap ∧ (len ≤ cap → hi ≤ m) ∧ l ≤ hi := by
  unfold bounds at hb
  unfold Instr.sliceBounds
  split at hb
  · cases hb
  · rename_i hn
    split at hb
    · cases hb
    · rename_i mm em
      split at hb
      · cases hb
      · rename_i q e0
        split at hb
        · cases hb
        · rename_i n e
          cases hb
          cases mx with
          | none =>
            cases mx' with
            | some _ => exact h3.elim
            | none =>
              cases em
              cases hg with
              | none =>
                cases hg' with
                | some _ => exact h2.elim
                | none =>
                  cases e0
                  obtain ⟨g1, g2⟩ := low_run (P := P) (m := cap') (c := .sliceB) w h1 e
                  exact ⟨by simp; simp at g1; exact g1, fun _ => rfl, Nat.le_refl _, fun h => h, g2⟩
              | some x =>
                cases hg' with
                | none => exact h2.elim
                | some x' =>
                  have q1 := wid (P := P) (c := if sl = true then BoundsCode.sliceAcap else .sliceAlen) w hc e0 h2
                  have q2 := (bound_sound (P := P) (c := .sliceB) w e0 h2).2
                  obtain ⟨g1, g2⟩ := low_run (P := P) (m := cap') (c := .sliceB) w h1 e
                  exact ⟨by simp [q1]; simp at g1; exact g1, fun _ => rfl, Nat.le_refl _, fun _ => q2, g2⟩
          | some y =>
            cases mx' with
            | none => exact h3.elim
            | some y' =>
              have m1 := wid (P := P) (c := if sl = true then BoundsCode.slice3Acap else .slice3Alen) w hc em h3
              have m2 := (bound_sound (P := P) (c := .sliceB) w em h3).2
              cases hg with
              | none => simp at hn
              | some x =>
                cases hg' with
                | none => exact h2.elim
                | some x' =>
                  have q1 := bound_sound (P := P) (c := .slice3B) w e0 h2
                  obtain ⟨g1, g2⟩ := low_run (P := P) (m := m) (c := .slice3C) w h1 e
                  exact ⟨by simp [m1, q1.1]; simp at g1; exact g1, fun h => by simp at h, m2, fun _ => q1.2, g2⟩

theorem cut_sound {id off sz b s K z : Nat} (hg : γ id = some (b, s, K, z)) {l hi m : Nat} {v : AV} (hc : cut id off sz (some (l, hi, m)) = some v) :
    VRel γ v (.slice (some (if m = l then (⟨b, s + off, none⟩ : Addr) else (⟨b, s + off, none⟩ : Addr).add (l * sz))) (hi - l) (m - l)) := by
  cases hc
  by_cases h : m = l
  · rw [if_pos h, if_pos h]; exact .slice hg
  · rw [if_neg h, if_neg h, add_none, Nat.add_assoc]; exact .slice hg
theorem cut_sound' {id off sz b s K z : Nat} (hg : γ id = some (b, s, K, z)) {l hi m : Nat} {v : AV} (hc : cut id off sz (some (l, hi, m)) = some v) :
    VRel γ v (.slice (if m = l then some (⟨b, s + off, none⟩ : Addr) else (some (⟨b, s + off, none⟩ : Addr)).map (·.add (l * sz))) (hi - l) (m - l)) := by
  have := cut_sound hg hc
  by_cases h : m = l
  · rw [if_pos h]; rw [if_pos h] at this; exact this
  · rw [if_neg h]; rw [if_neg h] at this; exact this
theorem cut_some {id off sz : Nat} {o : Option (Nat × Nat × Nat)} {v : AV} (h : cut id off sz o = some v) : ∃ l hi m, o = some (l, hi, m) := by
  cases o with
  | none => cases h
  | some x => exact ⟨x.1, x.2.1, x.2.2, rfl⟩
theorem slice_sound (hT : TabOk P T) (hw : WRel T γ h w0 w) {t : TypeId} {x v : AV} {x' : Value} {lo hg mx : Option AV} {lo' hg' mx' : Option Value} (hs : aslice T h t x lo hg mx = some v) (hx : VRel γ x x')
    (h1 : ORelO γ lo lo') (h2 : ORelO γ hg hg') (h3 : ORelO γ mx mx') : ∃ v', (Instr.sliceAt t x' lo' hg' mx').run P w = .ok v' w ∧ VRel γ v v' := by
  unfold aslice at hs
  unfold Instr.sliceAt
  split at hs
  · rename_i n e id off hd
    cases hx with
    | ptr hgm =>
    split at hs
    · rename_i ie he
      obtain ⟨l, hi, m, hb⟩ := cut_some hs
      rw [hb] at hs
      obtain ⟨g1, g2, g3, g4, g5⟩ := bounds_sound (P := P) (sl := false) w hb h1 h2 h3 (Nat.le_refl _)
      simp only [Sem.run_bind, r_desc hT hd (by simp), Result.andThen_ok, Instr.sureAddr, Sem.run_pure, g1, r_sizeOf hT he]
      have hm : (if mx.isSome = true then m else n) = m := by
        cases hmx : mx.isSome
        · simp [g2 hmx]
        · simp
      rw [hm]
      exact ⟨_, rfl, cut_sound hgm hs⟩
    · cases hs
  · rename_i arr id off hd
    cases hx with
    | ptr hgm =>
    split at hs
    · rename_i n e ha
      split at hs
      · rename_i ie he
        obtain ⟨l, hi, m, hb⟩ := cut_some hs
        rw [hb] at hs
        obtain ⟨g1, g2, g3, g4, g5⟩ := bounds_sound (P := P) (sl := false) w hb h1 h2 h3 (Nat.le_refl _)
        simp only [Sem.run_bind, r_desc hT hd (by simp), r_desc hT ha (by simp), Result.andThen_ok, Instr.slice, asAddr, Sem.run_pure, g1, r_sizeOf hT he]
        have hm : (if mx.isSome = true then m else n) = m := by
          cases hmx : mx.isSome
          · simp [g2 hmx]
          · simp
        rw [hm]
        exact ⟨_, rfl, cut_sound hgm hs⟩
      · cases hs
    · cases hs
  · rename_i l0 hd
    cases hx
    split at hs
    · cases hs
    · split at hs
      · rename_i l hi m hb
        cases hs
        cases mx' with
        | some _ => exact h3.elim
        | none =>
          obtain ⟨g1, g2, g3, g4, g5⟩ := bounds_sound (P := P) (sl := false) w hb h1 h2 (mx := none) (mx' := none) trivial (Nat.le_refl _)
          have hsz : (⟨⟨l0⟩⟩ : ByteArray).size = l0.length := rfl
          simp only [Sem.run_bind, r_desc hT hd (by simp), Result.andThen_ok, Instr.slice, Option.isSome_none, Bool.false_eq_true, if_false, hsz, g1, Sem.run_pure]
          refine ⟨_, rfl, ?_⟩
          have : (⟨⟨l0⟩⟩ : ByteArray).extract l hi = ⟨⟨(l0.take hi).drop l⟩⟩ := by
            apply ByteArray.ext
            apply Array.toList_inj.1
            simp [ByteArray.data_extract, List.extract_eq_take_drop, List.drop_take]
          rw [this]; exact .str _
      · cases hs
  · rename_i e hd
    cases hx
    split at hs
    · rename_i ie q he hb
      cases hs
      obtain ⟨l, hi, m⟩ := q
      obtain ⟨g1, g2, g3, g4, g5⟩ := bounds_sound (P := P) (sl := true) w hb h1 h2 h3 (Nat.le_refl _)
      have hm : (if mx.isSome = true then m else 0) = 0 := by split <;> omega
      have hhi : hi = 0 := by have := g4 (Nat.le_refl _); omega
      have hl : l = 0 := by omega
      subst hhi; subst hl
      rw [hm] at g1
      simp only [Sem.run_bind, r_desc hT hd (by simp), Result.andThen_ok, Instr.slice, g1, r_sizeOf hT he, Sem.run_pure]
      exact ⟨_, rfl, .nilSlice⟩
    · cases hs
  · rename_i e id off len cap hd
    cases hx with
    | slice hgm =>
    split at hs
    · rename_i ie he
      obtain ⟨l, hi, m, hb⟩ := cut_some hs
      rw [hb] at hs
      obtain ⟨g1, g2, g3, g4, g5⟩ := bounds_sound (P := P) (sl := true) w hb h1 h2 h3 (Nat.le_refl _)
      have hm : (if mx.isSome = true then m else cap) = m := by
        cases hmx : mx.isSome
        · simp [g2 hmx]
        · simp
      rw [hm] at g1
      simp only [Sem.run_bind, r_desc hT hd (by simp), Result.andThen_ok, Instr.slice, g1, r_sizeOf hT he, Sem.run_pure]
      exact ⟨_, rfl, cut_sound' hgm hs⟩
    · cases hs
  · rename_i e id off len c0 hd
    cases hx with
    | grown hgm hc hl =>
    rename_i cap b s K z
    split at hs
    · rename_i ie cs el he ho
      split at hs
      · cases hs
      · rename_i hcond
        dsimp only at hs
        obtain ⟨_, hz, _, c, e', fz, _, _, _, hK, _⟩ := obj_own hw ho hgm
        have hsz : 0 < ie.size := by omega
        have hz' : z = ie.size := by omega
        have hoff : off ≤ cs.length := by omega
        subst hz'
        have hkn : (cs.length - off) / ie.size ≤ cap := by
          have : cs.length - off ≤ cap * ie.size := by omega
          calc (cs.length - off) / ie.size ≤ (cap * ie.size) / ie.size := Nat.div_le_div_right this
            _ = cap := Nat.mul_div_cancel _ hsz
        split at hs
        · rename_i l hi m hb
          split at hs
          · cases hs
          · rename_i hknown
            obtain ⟨g1, g2, g3, g4, g5⟩ := bounds_sound (P := P) (sl := true) w hb h1 h2 h3 hkn
            simp only [Sem.run_bind, r_desc hT hd (by simp), Result.andThen_ok, Instr.slice, g1, r_sizeOf hT he, Sem.run_pure]
            split at hs
            · cases hs
              rename_i mv
              refine ⟨_, rfl, ?_⟩
              exact cut_sound' (off := off) (sz := ie.size) hgm (l := l) (hi := hi) (m := m) rfl
            · simp only [Option.isSome_none, Bool.false_eq_true, if_false]
              split at hs
              · rename_i hlk
                cases hs
                refine ⟨_, rfl, ?_⟩
                have : hi - l = 0 := by omega
                rw [this]
                split <;> exact .eslice _ _
              · rename_i hlk
                cases hs
                refine ⟨_, rfl, ?_⟩
                have hmul : (cap - l) * ie.size + l * ie.size = cap * ie.size := by rw [← Nat.add_mul]; congr 1; omega
                have := VRel.grown (γ := γ) (off := off + l * ie.size) (len := hi - l) (c := 0) (cap := cap - l) hgm (by omega) (by omega)
                split
                · rename_i hcl
                  have hl0 : l = 0 := by omega
                  subst hl0
                  simpa using this
                · simp only [Option.map_some, add_none]
                  rw [Nat.add_assoc]; exact this
        · cases hs
    · cases hs
  · rename_i e hd
    cases hx
    rename_i a c
    split at hs
    · rename_i ie q he hb
      cases hs
      obtain ⟨l, hi, m⟩ := q
      cases mx' with
      | some _ => exact h3.elim
      | none =>
        obtain ⟨g1, g2, g3, g4, g5⟩ := bounds_sound (P := P) (sl := true) (cap' := c) w hb h1 h2 (mx := none) (mx' := none) trivial (Nat.zero_le _)
        have hhi : hi = 0 := by have := g4 (Nat.le_refl _); omega
        have hl : l = 0 := by omega
        subst hhi; subst hl
        simp only [Option.isSome_none, Bool.false_eq_true, if_false] at g1
        simp only [Sem.run_bind, r_desc hT hd (by simp), Result.andThen_ok, Instr.slice, g1, r_sizeOf hT he, Sem.run_pure]
        refine ⟨_, rfl, ?_⟩
        split <;> exact .eslice _ _
    · cases hs
  · cases hs
end Go.AI
/- The rest of what leaves memory alone; all of it together. -/
namespace Go.AI
open Go.RowKit (Below)
variable {P : Program} {T : Tab} {γ : Emb} {h : AH} {w0 w : World}

theorem indexAddr_sound (hT : TabOk P T) (w : World) {t : TypeId} {x ix v : AV} {x' ix' : Value} (hs : aindexAddr T t x ix = some v) (hx : VRel γ x x') (hi : VRel γ ix ix') : ∃ v', (Instr.indexAt t x' ix').run P w = .ok v' w ∧ VRel γ v v' := by
  unfold aindexAddr at hs
  unfold Instr.indexAt
  split at hs
  · rename_i kk i len e id off hd
    cases hi
    cases hx with
    | ptr hg =>
    split at hs
    · rename_i ie he
      split at hs
      · rename_i hr
        cases hs
        simp only [Sem.run_bind, asIntOf, Sem.run_pure, Result.andThen_ok, r_desc hT hd (by simp), Instr.sureAddr]
        rw [if_pos hr]
        simp only [Sem.run_bind, r_sizeOf hT he, Result.andThen_ok, Sem.run_pure, add_none]
        exact ⟨_, rfl, by rw [Nat.add_assoc]; exact .ptr hg⟩
      · cases hs
    · cases hs
  · rename_i kk i e id off len cc ex hd
    cases hi
    split at hs
    · rename_i ie he
      split at hs
      · rename_i hr
        cases hs
        cases hx <;>
        · rename_i hg
          simp only [Sem.run_bind, asIntOf, Sem.run_pure, Result.andThen_ok, r_desc hT hd (by simp)]
          rw [if_pos hr]
          simp only [Sem.run_bind, r_sizeOf hT he, Result.andThen_ok, Sem.run_pure, add_none]
          exact ⟨_, rfl, by rw [Nat.add_assoc]; exact .ptr (by assumption)⟩
      · cases hs
    · cases hs
  · rename_i kk i len e g off hd
    cases hi
    cases hx
    split at hs
    · rename_i ie he
      split at hs
      · rename_i hr
        cases hs
        simp only [Sem.run_bind, asIntOf, Sem.run_pure, Result.andThen_ok, r_desc hT hd (by simp), Instr.sureAddr]
        rw [if_pos hr]
        simp only [Sem.run_bind, r_sizeOf hT he, Result.andThen_ok, Sem.run_pure, add_none]
        exact ⟨_, rfl, .glob _ _⟩
      · cases hs
    · cases hs
  · cases hs
theorem index_sound (hT : TabOk P T) (w : World) {t : TypeId} {x ix v : AV} {x' ix' : Value} (hs : aindex T t x ix = some v) (hx : VRel γ x x') (hi : VRel γ ix ix') : ∃ v', (Instr.index t x' ix').run P w = .ok v' w ∧ VRel γ v v' := by
  unfold aindex at hs
  unfold Instr.index
  split at hs
  · rename_i kk i len e cs hd
    cases hi
    cases hx with
    | agg hl =>
    split at hs
    · rename_i ie he
      split at hs
      · rename_i hr
        simp only [Sem.run_bind, asIntOf, Sem.run_pure, Result.andThen_ok, r_desc hT hd (by simp)]
        rw [if_pos hr]
        simp only [Sem.run_bind, r_sizeOf hT he, Result.andThen_ok]
        exact part_rel hT hs hl w
      · cases hs
    · cases hs
  · rename_i kk i l hd
    cases hi
    cases hx
    split at hs
    · rename_i hr
      rw [Option.map_eq_some_iff] at hs
      obtain ⟨b, h1, rfl⟩ := hs
      rw [lget_eq] at h1
      simp only [Sem.run_bind, asIntOf, Sem.run_pure, Result.andThen_ok, r_desc hT hd (by simp)]
      rw [if_pos hr]
      have : (⟨⟨l⟩⟩ : ByteArray)[i.toNat]? = some b := by
        obtain ⟨hlt, e⟩ := List.getElem?_eq_some_iff.1 h1
        have hsz : (⟨⟨l⟩⟩ : ByteArray).size = l.length := rfl
        rw [getElem?_pos (⟨⟨l⟩⟩ : ByteArray) i.toNat (by rw [hsz]; exact hlt)]
        congr 1
      rw [this]
      exact ⟨_, rfl, .int _ _⟩
    · cases hs
  · cases hs
theorem fieldAddr_sound (hT : TabOk P T) (w : World) {s : TypeId} {x v : AV} {x' : Value} {f : Nat} (hs : afieldAddr T s x f = some v) (hx : VRel γ x x') : ∃ v', (Instr.fieldAt s x' f).run P w = .ok v' w ∧ VRel γ v v' := by
  unfold afieldAddr at hs
  unfold Instr.fieldAt
  split at hs
  · rename_i fs id off hd
    cases hx with
    | ptr hg =>
    split at hs
    · rename_i fl hf
      split at hs
      · rename_i i hi
        split at hs
        · cases hs
        · rename_i hz
          cases hs
          rw [lget_eq, Array.getElem?_toList] at hf
          simp only [Sem.run_bind, r_desc hT hd (by simp), Result.andThen_ok, hf, Instr.sureAddr, Sem.run_pure, fieldPlace, r_sizeOf hT hi]
          rw [if_neg hz]
          simp only [Sem.run_pure, Result.andThen_ok, add_none]
          exact ⟨_, rfl, by rw [Nat.add_assoc]; exact .ptr hg⟩
      · cases hs
    · cases hs
  · cases hs
theorem field_sound (hT : TabOk P T) (w : World) {s : TypeId} {x v : AV} {x' : Value} {f : Nat} (hs : afield T s x f = some v) (hx : VRel γ x x') : ∃ v', (Instr.field s x' f).run P w = .ok v' w ∧ VRel γ v v' := by
  unfold afield at hs
  unfold Instr.field
  split at hs
  · rename_i fs cs hd
    cases hx with
    | agg hl =>
    split at hs
    · rename_i fl hf
      rw [lget_eq, Array.getElem?_toList] at hf
      simp only [Sem.run_bind, r_desc hT hd (by simp), Result.andThen_ok, hf, asAgg, Sem.run_pure]
      exact part_rel hT hs hl w
    · cases hs
  · cases hs

/-! ### Maps -/
theorem samekey_sound {d : TypeId × TypeDesc} {k e : AV} {k' e' : Value} {b : Bool} (hp : ∀ n x, d.2 ≠ .array n x) (h : samekey T d k e = some b) (hk : VRel γ k k') (he : VRel γ e e') : Instr.sameNow d.2 k' e' = some b := by
  unfold samekey at h
  split at h
  · rename_i hd; rw [hd]
    cases hk; cases he
    split at h
    · rename_i hkk; subst hkk; cases h; simp [Instr.sameNow]
    · cases h
  · rename_i hd; rw [hd]
    cases hk; cases he; cases h
    simp only [Instr.sameNow]
    show some ((⟨_⟩ : Array UInt8) == ⟨_⟩) = _
    simp
  · rename_i hd; rw [hd]
    cases hk; cases he; cases h; rfl
  · rename_i hd; exact absurd hd (hp _ _)
  · cases h
def FRel (γ : Emb) : Option (Nat × AV) → Option (Nat × Value) → Prop
  | none, none => True
  | some (i, v), some (j, v') => i = j ∧ VRel γ v v'
  | _, _ => False
theorem findkey_now {d : TypeId × TypeDesc} {k : AV} {k' : Value} (hp : ∀ n x, d.2 ≠ .array n x) (hk : VRel γ k k') : ∀ {es : List AEntry} {es' : List MapEntry} {i : Nat} {r : Option (Nat × AV)}, ERel γ es es' → findkey T d k es i = some r → ∃ r', Instr.findNow d.2 k' es' i = some r' ∧ FRel γ r r'
  | [], _, i, r, .nil, h => by simp only [findkey, Option.some.injEq] at h; subst h; exact ⟨none, rfl, trivial⟩
  | e :: es, _, i, r, .cons h1 h2 h3 t, h => by
    unfold findkey at h
    unfold Instr.findNow
    split at h
    · rename_i hs
      cases h
      rw [samekey_sound hp hs hk h1]
      exact ⟨_, rfl, rfl, h2⟩
    · rename_i hs
      rw [samekey_sound hp hs hk h1]
      exact findkey_now hp hk t h
    · cases h
theorem samekey_ask (hT : TabOk P T) (w : World) {d : TypeId × TypeDesc} {n x : Nat} (hd : d.2 = .array n x) {k e : AV} {k' e' : Value} {b : Bool} (h : samekey T d k e = some b) (hk : VRel γ k k') (he : VRel γ e e') : (Op.equal d.1 k' e').run P w = .ok b w := by
  unfold samekey at h
  rw [hd] at h
  split at h <;> (try (rename_i hq; cases hq; done))
  · refine aeq_sound hT 9 _ (by decide) w _ _ _ _ _ _ ?_ hk he
    split at h
    · rename_i hq
      split at h
      · cases h; exact hq
      · cases h
    · exact h
  · cases h
theorem findkey_ask (hT : TabOk P T) (w : World) {d : TypeId × TypeDesc} {n x : Nat} (hd : d.2 = .array n x) {k : AV} {k' : Value} (hk : VRel γ k k') : ∀ {es : List AEntry} {es' : List MapEntry} {i : Nat} {r : Option (Nat × AV)}, ERel γ es es' → findkey T d k es i = some r → ∃ r', (Instr.findAsking d.1 k' es' i).run P w = .ok r' w ∧ FRel γ r r'
  | [], _, i, r, .nil, h => by simp only [findkey, Option.some.injEq] at h; subst h; exact ⟨none, rfl, trivial⟩
  | e :: es, _, i, r, .cons h1 h2 h3 t, h => by
    unfold findkey at h
    unfold Instr.findAsking
    simp only [Sem.run_bind]
    split at h
    · rename_i hs
      cases h
      rw [samekey_ask hT w hd hs hk h1]
      exact ⟨_, rfl, rfl, h2⟩
    · rename_i hs
      rw [samekey_ask hT w hd hs hk h1]
      simp only [Result.andThen_ok, Bool.false_eq_true, if_false]
      exact findkey_ask hT w hd hk t h
    · cases h
theorem findkey_sound (hT : TabOk P T) (w : World) {d : TypeId × TypeDesc} (hu : (underlying d.1).run P w = .ok d.2 w) {k : AV} {k' : Value} (hk : VRel γ k k') {es : List AEntry} {es' : List MapEntry} {r : Option (Nat × AV)} (hE : ERel γ es es') (h : findkey T d k es 0 = some r) :
    ∃ r', (Instr.findKey d.1 k' es').run P w = .ok r' w ∧ FRel γ r r' := by
  unfold Instr.findKey
  simp only [Sem.run_bind, hu, Result.andThen_ok]
  by_cases hp : ∀ n x, d.2 ≠ .array n x
  · obtain ⟨r', h1, h2⟩ := findkey_now hp hk hE h
    rw [h1]; exact ⟨r', rfl, h2⟩
  · have : ∃ n x, d.2 = .array n x := Classical.byContradiction fun hn => hp fun n x e => hn ⟨n, x, e⟩
    obtain ⟨n, x, hd⟩ := this
    obtain ⟨r', h1, h2⟩ := findkey_ask hT w hd hk hE h
    cases hE with
    | nil =>
      simp only [findkey, Option.some.injEq] at h; subst h
      exact ⟨none, rfl, trivial⟩
    | cons a b c t =>
      have hnone : ∀ (m : MapEntry) ms, Instr.findNow d.2 k' (m :: ms) 0 = none := fun m ms => by
        rw [Instr.findNow, hd]; rfl
      rw [hnone]; exact ⟨r', h1, h2⟩
structure Keyed (P : Program) (T : Tab) (γ : Emb) (t kt et : TypeId) (kd : TypeDesc) (z : AV) (k' : Value) (w : World) : Prop where
  map : (underlying t).run P w = .ok (.map kt et) w
  key : (underlying kt).run P w = .ok kd w
  zero : ∃ z', (zeroValue et).run P w = .ok z' w ∧ VRel γ z z'
  check : ∀ b, (Instr.checkKey b 10000 kt k').run P w = .ok () w
theorem checkSlots (hT : TabOk P T) (w : World) {e : TypeId} {ie : TInfo} (he : T.tt.get e = some ie) {q : IntKind} (hq : ie.desc = .int q) {cs : List AV} {cs' : List Value} (hl : LRel γ cs cs') (b : Bool) : ∀ n i, (slots e ie.size n i).all (fun s => (apart T s.1 cs s.2).isSome) = true →
    (forIn (m := Sem) (List.range' i n) PUnit.unit fun i _ => do
      let s ← sizeOf e
      let p ← part e ⟨cs'⟩ (i * s)
      Instr.checkKey b 9999 e p
      pure (ForInStep.yield PUnit.unit)).run P w = .ok PUnit.unit w
  | 0, i, _ => by simp
  | n + 1, i, h => by
    simp only [slots, List.all_cons, Bool.and_eq_true] at h
    obtain ⟨u, hu⟩ := Option.isSome_iff_exists.1 h.1
    obtain ⟨u', g1, _⟩ := part_rel hT hu hl w
    have hie := r_underlying hT he w
    have : Instr.checkKey b 9999 e u' = Instr.checkKey b (9998 + 1) e u' := rfl
    simp only [List.range'_succ, List.forIn_cons, Sem.run_bind, r_sizeOf hT he, Result.andThen_ok, g1]
    rw [this, Instr.checkKey]
    simp only [Sem.run_bind, hie, Result.andThen_ok, hq, Sem.run_pure]
    exact checkSlots hT w he hq hl b n (i + 1) h.2
theorem keyed_sound (hT : TabOk P T) {t : TypeId} {k z : AV} {kd : TypeId × TypeDesc} {k' : Value} (hk : keyed T t k = some (kd, z)) (hkr : VRel γ k k') (w : World) : ∃ et, Keyed P T γ t kd.1 et kd.2 z k' w := by
  unfold keyed at hk
  split at hk
  · rename_i kt et hd
    split at hk
    · rename_i ei he
      obtain ⟨zv, z1, _, z2, _⟩ := r_zero hT he w
      have hz : ∃ z', (zeroValue et).run P w = .ok z' w ∧ VRel γ ei.zeroV z' := ⟨zv, z1, by rw [z2]; exact toAV_rel γ zv⟩
      refine ⟨et, ?_⟩
      split at hk
      · rename_i hp
        have hkk : ∃ d, descOf T kt = d ∧ kd = (kt, d) ∧ z = ei.zeroV ∧ ((∃ q, d = .int q) ∨ d = .string ∨ d = .bool) := by
          split at hk <;> cases hk <;> (rename_i hd'; exact ⟨_, hd', rfl, rfl, by simp⟩)
        obtain ⟨d, hd', rfl, rfl, hc⟩ := hkk
        have hne : d ≠ .invalid := by rcases hc with ⟨q, rfl⟩ | rfl | rfl <;> simp
        have hu := r_desc hT hd' hne
        refine ⟨r_desc hT hd (by simp) w, hu w, hz, fun b => ?_⟩
        have : Instr.checkKey b 10000 kt k' = Instr.checkKey b (9999 + 1) kt k' := rfl
        rw [this, Instr.checkKey]
        simp only [Sem.run_bind, hu w, Result.andThen_ok]
        rcases hc with ⟨q, rfl⟩ | rfl | rfl <;> rfl
      · split at hk
        · rename_i n e cs hd' _
          split at hk
          · rename_i ie hie
            split at hk
            · rename_i q hq
              split at hk
              · rename_i hall
                cases hk
                cases hkr with
                | agg hl =>
                have hu := r_desc hT hd' (by simp)
                refine ⟨r_desc hT hd (by simp) w, hu w, hz, fun b => ?_⟩
                have : ∀ v, Instr.checkKey b 10000 kt v = Instr.checkKey b (9999 + 1) kt v := fun _ => rfl
                rw [this, Instr.checkKey]
                simp only [Sem.run_bind, hu w, Result.andThen_ok, Std.Legacy.Range.forIn_eq_forIn_range', Std.Legacy.Range.size, Nat.sub_zero, Nat.add_sub_cancel, Nat.div_one]
                rw [checkSlots hT w hie hq hl b n 0 hall]; rfl
              · cases hk
            · cases hk
          · cases hk
        · cases hk
    · cases hk
  · cases hk
theorem obj_map (hw : WRel T γ h w0 w) {r b s K z c : Nat} {es : List AEntry} (he : entriesOf h r = some (es, c)) (hg : γ r = some (b, s, K, z)) : h.t.get r = some (.map es c) ∧ w0.heap.size ≤ b ∧ ∃ es', w.heap[b]? = some (.map es' c) ∧ ERel γ es es'.toList := by
  obtain ⟨o, h1, h2, h3⟩ := hw.obj _ _ _ _ _ hg
  unfold entriesOf at he
  rw [h1] at he
  split at he
  · rename_i heq; cases heq; cases he; exact ⟨h1, h3⟩
  · cases he
theorem run_getObj_map' {w : World} {b : Nat} {es : Array MapEntry} {c : Nat} (h : w.heap[b]? = some (.map es c)) : (getObj b).run P w = .ok (.map es c) w := by simp [getObj, Sem.run, h]
theorem lookup_run {t kt et : TypeId} {kd : TypeDesc} {z : AV} {k' z' m' : Value} {es' : Array MapEntry} {r : Option (Nat × Value)} {ok : Bool} (Q : Keyed P T γ t kt et kd z k' w) (z1 : (zeroValue et).run P w = .ok z' w)
    (hm : (m' = .map none ∧ es' = #[]) ∨ ∃ b c, m' = .map (some b) ∧ w.heap[b]? = some (.map es' c)) (hfk : (Instr.findKey kt k' es'.toList).run P w = .ok r w) :
    (Instr.lookup t m' k' ok).run P w = .ok (if ok then .tuple #[(match r with | some x => x.2 | none => z'), .bool r.isSome] else (match r with | some x => x.2 | none => z')) w := by
  unfold Instr.lookup
  rcases hm with ⟨rfl, rfl⟩ | ⟨b, c, rfl, hb⟩
  · simp only [Sem.run_bind, Q.map, Result.andThen_ok, Sem.run_pure, Q.check, hfk]
    cases r with
    | none => simp only [Sem.run_bind, z1, Result.andThen_ok, Sem.run_pure]; cases ok <;> rfl
    | some x => simp only [Sem.run_bind, Result.andThen_ok, Sem.run_pure]; cases ok <;> rfl
  · simp only [Sem.run_bind, Q.map, Result.andThen_ok, Sem.run_pure, run_getObj_map' hb, Q.check, hfk]
    cases r with
    | none => simp only [Sem.run_bind, z1, Result.andThen_ok, Sem.run_pure]; cases ok <;> rfl
    | some x => simp only [Sem.run_bind, Result.andThen_ok, Sem.run_pure]; cases ok <;> rfl
theorem lookup_sound (hT : TabOk P T) (hw : WRel T γ h w0 w) {t : TypeId} {m k v : AV} {m' k' : Value} {ok : Bool} (hs : alookup T h t m k ok = some v) (hm : VRel γ m m') (hk : VRel γ k k') : ∃ v', (Instr.lookup t m' k' ok).run P w = .ok v' w ∧ VRel γ v v' := by
  unfold alookup at hs
  split at hs
  · cases hs
  · rename_i kd z hkd
    obtain ⟨et, Q⟩ := keyed_sound hT (γ := γ) (k' := k') hkd hk w
    obtain ⟨z', z1, z2⟩ := Q.zero
    split at hs
    · cases hs
    · rename_i es he
      have hes : ∃ es' : Array MapEntry, ERel γ es es'.toList ∧ ((m' = .map none ∧ es' = #[]) ∨ ∃ b c, m' = .map (some b) ∧ w.heap[b]? = some (.map es' c)) := by
        cases hm with
        | nilMap => cases he; exact ⟨#[], .nil, .inl ⟨rfl, rfl⟩⟩
        | map hg =>
          dsimp only at he
          rw [Option.map_eq_some_iff] at he
          obtain ⟨⟨es0, c⟩, h1, rfl⟩ := he
          obtain ⟨_, _, es', h2, h3⟩ := obj_map hw h1 hg
          exact ⟨es', h3, .inr ⟨_, _, rfl, h2⟩⟩
        | _ => cases he
      obtain ⟨es', h1, h2⟩ := hes
      split at hs
      · rename_i i u hf
        obtain ⟨r', g1, g2⟩ := findkey_sound hT w Q.key hk h1 hf
        refine ⟨_, lookup_run Q z1 h2 g1, ?_⟩
        cases r' with
        | none => exact g2.elim
        | some x =>
          obtain ⟨_, g3⟩ := g2
          cases hs
          cases ok
          · exact g3
          · exact .tuple (.cons g3 (.cons (.bool _) .nil))
      · rename_i hf
        obtain ⟨r', g1, g2⟩ := findkey_sound hT w Q.key hk h1 hf
        refine ⟨_, lookup_run Q z1 h2 g1, ?_⟩
        cases r' with
        | some x => exact g2.elim
        | none =>
          cases hs
          cases ok
          · exact z2
          · exact .tuple (.cons z2 (.cons (.bool _) .nil))
      · cases hs

/-! ### len, min, max -/
theorem ERel.length {γ : Emb} : ∀ {l : List AEntry} {l' : List MapEntry}, ERel γ l l' → l'.length = l.length
  | _, _, .nil => rfl
  | _, _, .cons _ _ _ t => by simp [ERel.length t]
theorem cap_sound (hT : TabOk P T) (w : World) {t ty : TypeId} {ts : Array TypeId} (ht : ts[0]? = some t) {x v : AV} {x' : Value} (hs : acap T t x = some v) (hx : VRel γ x x') : ∃ v', (Builtin.cap_ ts ty #[x']).run P w = .ok v' w ∧ VRel γ v v' := by
  unfold acap at hs
  unfold Builtin.cap_
  have h0 : (#[x'] : Array Value)[0]? = some x' := rfl
  simp only [ht, h0, Sem.run_bind]
  split at hs
  · rename_i hd
    cases hs
    simp only [r_desc hT hd (by simp), Result.andThen_ok]
    cases hx; exact ⟨_, rfl, .int _ _⟩
  · rename_i hd
    cases hs
    simp only [r_desc hT hd (by simp), Result.andThen_ok]
    cases hx; exact ⟨_, rfl, .int _ _⟩
  · cases hs
theorem len_sound (hT : TabOk P T) (hw : WRel T γ h w0 w) {t ty : TypeId} {ts : Array TypeId} (ht : ts[0]? = some t) {x v : AV} {x' : Value} (hs : alen T h t x = some v) (hx : VRel γ x x') : ∃ v', (Builtin.len_ ts ty #[x']).run P w = .ok v' w ∧ VRel γ v v' := by
  unfold alen at hs
  unfold Builtin.len_
  have h0 : (#[x'] : Array Value)[0]? = some x' := rfl
  simp only [ht, h0, Sem.run_bind]
  split at hs
  · rename_i l hd
    cases hx; cases hs
    simp only [r_desc hT hd (by simp), Result.andThen_ok]
    exact ⟨_, rfl, .int _ _⟩
  · rename_i n e hd
    cases hs
    simp only [r_desc hT hd (by simp), Result.andThen_ok]
    cases x' <;> exact ⟨_, rfl, .int _ _⟩
  · rename_i arr hd
    split at hs
    · rename_i n e ha
      cases hs
      simp only [r_desc hT hd (by simp), Result.andThen_ok]
      refine ⟨_, ?_, .int _ _⟩
      cases x' <;> (simp only [Sem.run_bind, r_desc hT ha (by simp), Result.andThen_ok]; rfl)
    · cases hs
  · rename_i e id off n c ex hd
    cases hs
    simp only [r_desc hT hd (by simp), Result.andThen_ok]
    cases hx <;> exact ⟨_, rfl, .int _ _⟩
  · rename_i e hd
    cases hx; cases hs
    simp only [r_desc hT hd (by simp), Result.andThen_ok]
    exact ⟨_, rfl, .int _ _⟩
  · rename_i e hd
    cases hx; cases hs
    simp only [r_desc hT hd (by simp), Result.andThen_ok]
    exact ⟨_, rfl, .int _ _⟩
  · rename_i k e hd
    cases hx; cases hs
    simp only [r_desc hT hd (by simp), Result.andThen_ok]
    exact ⟨_, rfl, .int _ _⟩
  · rename_i k e r hd
    cases hx with
    | map hg =>
    split at hs
    · rename_i es c he
      cases hs
      obtain ⟨_, _, es', h2, h3⟩ := obj_map hw he hg
      simp only [r_desc hT hd (by simp), Result.andThen_ok, Sem.run_bind, run_getObj_map' h2]
      exact ⟨_, rfl, by rw [← h3.length]; exact .int _ _⟩
    · cases hs
  · cases hs
theorem min_sound (w : World) : ∀ {l : List AV} {l' : List Value} {x : AV} {x' : Value} {v : AV}, LRel γ l l' → VRel γ x x' → minmax false l x = some v → ∃ v', (l'.foldlM Builtin.min2 x').run P w = .ok v' w ∧ VRel γ v v'
  | [], _, x, x', v, .nil, hx, h => by simp only [minmax, Option.some.injEq] at h; subst h; exact ⟨x', rfl, hx⟩
  | y :: l, _, x, x', v, .cons hy t, hx, h => by
    unfold minmax at h
    split at h
    · rename_i heq; cases heq
    · rename_i k y' rest k' x0 heq
      cases heq; cases hy; cases hx
      rw [List.foldlM_cons, Sem.run_bind]
      have : (Builtin.min2 (.int k' x0) (.int k y')).run P w = .ok (.int k' (if y' < x0 then y' else x0)) w := rfl
      rw [this, Result.andThen_ok]
      simp only [Bool.false_eq_true, if_false] at h
      exact min_sound w t (.int _ _) h
    · cases h
theorem max_sound (w : World) : ∀ {l : List AV} {l' : List Value} {x : AV} {x' : Value} {v : AV}, LRel γ l l' → VRel γ x x' → minmax true l x = some v → ∃ v', (l'.foldlM Builtin.max2 x').run P w = .ok v' w ∧ VRel γ v v'
  | [], _, x, x', v, .nil, hx, h => by simp only [minmax, Option.some.injEq] at h; subst h; exact ⟨x', rfl, hx⟩
  | y :: l, _, x, x', v, .cons hy t, hx, h => by
    unfold minmax at h
    split at h
    · rename_i heq; cases heq
    · rename_i k y' rest k' x0 heq
      cases heq; cases hy; cases hx
      rw [List.foldlM_cons, Sem.run_bind]
      have : (Builtin.max2 (.int k' x0) (.int k y')).run P w = .ok (.int k' (if x0 < y' then y' else x0)) w := rfl
      rw [this, Result.andThen_ok]
      simp only [if_true] at h
      exact max_sound w t (.int _ _) h
    · cases h
end Go.AI
/- All quiet operations together. -/
namespace Go.AI
open Go.RowKit (Below)
variable {P : Program} {T : Tab} {γ : Emb} {h : AH} {w0 w : World}

theorem lrel_map {env : Env} {ρ : Operand → Value} : ∀ {l : List Operand}, (∀ x ∈ l, VRel γ (aev env x) (ρ x)) → LRel γ (l.map (aev env)) (l.map ρ)
  | [], _ => .nil
  | x :: l, h => .cons (h x (by simp)) (lrel_map fun y hy => h y (by simp [hy]))
theorem prel_map {env : Env} {ρ : Operand → Value} : ∀ {l : List (Nat × Operand)}, (∀ x ∈ l.map (·.2), VRel γ (aev env x) (ρ x)) → PRel γ (l.map fun p => (p.1, aev env p.2)) (l.map fun p => (p.1, ρ p.2))
  | [], _ => .nil
  | x :: l, h => .cons (h _ (by simp)) (prel_map fun y hy => h y (by simp at hy ⊢; exact .inr hy))
theorem orel_map {env : Env} {ρ : Operand → Value} : ∀ {o : Option Operand}, (∀ x ∈ o.toList, VRel γ (aev env x) (ρ x)) → ORelO γ (o.map (aev env)) (o.map ρ)
  | none, _ => trivial
  | some x, h => h x (by simp)
theorem toArray_map {α β : Type} (a : Array α) (f : α → β) : a.map f = ⟨a.toList.map f⟩ := by
  apply Array.toList_inj.1; simp
theorem sliceData_sound (w : World) {ts : Array TypeId} {ty : TypeId} {x v : AV} {x' : Value} (hs : asliceData x = some v) (hx : VRel γ x x') : ∃ v', (Builtin.unsafeSliceData_ ts ty #[x']).run P w = .ok v' w ∧ VRel γ v v' := by
  unfold asliceData at hs
  split at hs
  · cases hs; cases hx
    exact ⟨_, rfl, .nilPtr⟩
  · rename_i id off len cap ex
    split at hs
    · rename_i hc
      cases hs
      cases hx with
      | slice hg => exact ⟨_, Go.Lib.run_unsafeSliceData_row w _ _ _ _ _ (by rcases hc with h | h; exact h.2; exact absurd h.1 (by simp)), .ptr hg⟩
      | grown hg hk hl => exact ⟨_, Go.Lib.run_unsafeSliceData_row w _ _ _ _ _ (by rcases hc with h | h; exact absurd h.1 (by simp); omega), .ptr hg⟩
    · cases hs
  · cases hs
theorem quiet_sound (hT : TabOk P T) (hw : WRel T γ h w0 w) {env : Env} {ρ : Operand → Value} {o : Oper} (hρ : ∀ x ∈ o.op.operands.toList, VRel γ (aev env x) (ρ x)) {v : AV} (hv : aquiet T env h o.op = some v) :
    ∃ v', (execOp ρ o).run P w = .ok (.value v') w ∧ VRel γ v v' := by
  have lift : ∀ {s : Sem Value}, (∃ v', s.run P w = .ok v' w ∧ VRel γ v v') → ∃ v', (do pure (.value (← s)) : Sem Next).run P w = .ok (.value v') w ∧ VRel γ v v' := by
    rintro s ⟨v', h1, h2⟩
    exact ⟨v', by simp [h1], h2⟩
  unfold execOp
  cases ho : o.op <;> rw [ho] at hv hρ <;> simp only [aquiet] at hv <;> (try (cases hv; done))
  case move x => cases hv; exact ⟨_, rfl, hρ x (by simp [Op.operands])⟩
  case assign x => cases hv; exact ⟨_, rfl, hρ x (by simp [Op.operands])⟩
  case pick c a b =>
    have hc := hρ c (by simp [Op.operands])
    have ha := hρ a (by simp [Op.operands])
    have hb := hρ b (by simp [Op.operands])
    split at hv
    · rename_i t ht
      rw [ht] at hc
      have hc' := rel_bool hc
      cases hv
      simp only [hc', asBool, Sem.run_bind, Sem.run_pure, Result.andThen_ok]
      cases t
      · exact ⟨_, rfl, hb⟩
      · exact ⟨_, rfl, ha⟩
    · cases hv
  case build t ps =>
    apply lift
    refine build_rel hT (γ := γ) (aps := ps.toList.map fun p => (p.1, aev env p.2)) ?_ hv w
    rw [toArray_map]
    exact prel_map fun x hx => hρ x (by simpa [Op.operands] using hx)
  case load t a =>
    apply lift
    obtain ⟨p, v', h1, h2, h3⟩ := load_rel hT hw hv (hρ a (by simp [Op.operands]))
    refine ⟨v', ?_, h3⟩
    rw [h1]
    simp [Instr.loadAt, Instr.sureAddr, h2]
  case nilCheck x =>
    dsimp only
    have hx := hρ x (by simp [Op.operands])
    split at hv
    · rename_i i off he; rw [he] at hx; cases hv
      generalize ρ x = u at hx ⊢
      cases hx with
      | ptr hg => exact ⟨_, rfl, .ptr hg⟩
    · rename_i f cs he; rw [he] at hx; cases hv
      generalize ρ x = u at hx ⊢
      cases hx with
      | func hl => exact ⟨_, rfl, .func hl⟩
    · rename_i f cs he; rw [he] at hx; cases hv
      generalize ρ x = u at hx ⊢
      cases hx with
      | meth hl => exact ⟨_, rfl, .meth hl⟩
    · rename_i t u he; rw [he] at hx; cases hv
      generalize ρ x = u at hx ⊢
      cases hx with
      | iface hl => exact ⟨_, rfl, .iface hl⟩
    · cases hv
  case binOp op t x y ty =>
    apply lift
    exact binOp_sound hT w hv (hρ x (by simp [Op.operands])) (hρ y (by simp [Op.operands]))
  case unOp op t x =>
    apply lift
    exact unOp_sound w hv (hρ x (by simp [Op.operands]))
  case convert s d x =>
    apply lift
    exact convert_sound hT hw hv (hρ x (by simp [Op.operands]))
  case makeInterface t x =>
    apply lift
    split at hv
    · rename_i i hi
      split at hv
      · cases hv
      · rename_i hne
        cases hv
        unfold Instr.makeInterface
        simp only [Sem.run_bind, r_underlying hT hi, Result.andThen_ok]
        exact ⟨_, rfl, .iface (hρ x (by simp [Op.operands]))⟩
    · cases hv
  case makeFunc fn first cap =>
    apply lift
    cases fn <;> simp only at hv <;> (try (cases hv; done))
    split at hv
    · rename_i hf
      cases hv
      have : first = #[] := by
        apply Array.toList_inj.1
        exact List.length_eq_zero_iff.1 hf
      subst this
      refine ⟨_, rfl, ?_⟩
      have hl : LRel γ (cap.toList.map (aev env)) (cap.toList.map ρ) := lrel_map fun x hx => hρ x (by simpa [Op.operands] using hx)
      rw [toArray_map cap, show (#[] : Array Operand).map ρ = ⟨[]⟩ from by simp]
      exact .func hl
    · split at hv
      · rename_i hf
        cases hv
        have : cap = #[] := by
          apply Array.toList_inj.1
          exact List.length_eq_zero_iff.1 hf
        subst this
        refine ⟨_, rfl, ?_⟩
        have hl : LRel γ (first.toList.map (aev env)) (first.toList.map ρ) := lrel_map fun x hx => hρ x (by simpa [Op.operands] using hx)
        rw [toArray_map first, show (#[] : Array Operand).map ρ = ⟨[]⟩ from by simp]
        exact .meth hl
      · cases hv
  case slice t x lo hi mx =>
    apply lift
    exact slice_sound hT hw hv (hρ x (by simp [Op.operands])) (orel_map fun y hy => hρ y (by cases lo <;> simp_all [Op.operands])) (orel_map fun y hy => hρ y (by cases hi <;> simp_all [Op.operands]))
      (orel_map fun y hy => hρ y (by cases mx <;> simp_all [Op.operands]))
  case fieldAddr s x f =>
    apply lift
    exact fieldAddr_sound hT w hv (hρ x (by simp [Op.operands]))
  case field t x f =>
    apply lift
    exact field_sound hT w hv (hρ x (by simp [Op.operands]))
  case indexAddr t x i =>
    apply lift
    exact indexAddr_sound hT w hv (hρ x (by simp [Op.operands])) (hρ i (by simp [Op.operands]))
  case index t x i =>
    apply lift
    exact index_sound hT w hv (hρ x (by simp [Op.operands])) (hρ i (by simp [Op.operands]))
  case lookup t x i ok =>
    apply lift
    exact lookup_sound hT hw hv (hρ x (by simp [Op.operands])) (hρ i (by simp [Op.operands]))
  case extract t i =>
    apply lift
    have ht := hρ t (by simp [Op.operands])
    generalize ρ t = u at ht ⊢
    generalize aev env t = ut at ht hv
    cases ht <;> simp only [aextract] at hv <;> (try (cases hv; done))
    rename_i cs cs' hl
    rw [lget_eq] at hv
    obtain ⟨v', h1, h2⟩ := hl.get hv
    refine ⟨v', ?_, h2⟩
    simp [Instr.extract, h1]
  case call c =>
    split at hv
    · rename_i hc
      split at hv
      · rename_i t ts x h1 h2
        have hargs : c.args = #[x] := Array.toList_inj.1 h2
        have hx := hρ x (by simp [Op.operands, Call.operands, hc, hargs])
        obtain ⟨v', g1, g2⟩ := len_sound hT hw (ts := c.argTypes) (ty := o.type) (by rw [← Array.getElem?_toList, h1]; rfl) hv hx
        refine ⟨v', ?_, g2⟩
        simp only [resolve, hc, Sem.run_bind, Sem.run_pure, Result.andThen_ok, invoke, builtin, hargs]
        have : (#[x] : Array Operand).map ρ = #[ρ x] := by simp
        rw [this, g1]; rfl
      · cases hv
    · rename_i hc
      have hl : LRel γ (c.args.toList.map (aev env)) (c.args.toList.map ρ) := lrel_map fun x hx => hρ x (by simp [Op.operands, Call.operands, hc] at hx ⊢; exact hx)
      unfold aminmax at hv
      split at hv
      · rename_i k n rest heq
        rw [heq] at hl
        generalize hL : c.args.toList.map ρ = L at hl
        cases hl with
        | cons hu t =>
        cases hu
        obtain ⟨v', g1, g2⟩ := min_sound (P := P) w t (.int k n) hv
        refine ⟨v', ?_, g2⟩
        simp only [resolve, hc, Sem.run_bind, Sem.run_pure, Result.andThen_ok, invoke, builtin, Builtin.min_, toArray_map, hL]
        rw [g1]; rfl
      · cases hv
    · rename_i hc
      have hl : LRel γ (c.args.toList.map (aev env)) (c.args.toList.map ρ) := lrel_map fun x hx => hρ x (by simp [Op.operands, Call.operands, hc] at hx ⊢; exact hx)
      unfold aminmax at hv
      split at hv
      · rename_i k n rest heq
        rw [heq] at hl
        generalize hL : c.args.toList.map ρ = L at hl
        cases hl with
        | cons hu t =>
        cases hu
        obtain ⟨v', g1, g2⟩ := max_sound (P := P) w t (.int k n) hv
        refine ⟨v', ?_, g2⟩
        simp only [resolve, hc, Sem.run_bind, Sem.run_pure, Result.andThen_ok, invoke, builtin, Builtin.max_, toArray_map, hL]
        rw [g1]; rfl
      · cases hv
    · rename_i hc
      split at hv
      · rename_i x h2
        have hargs : c.args = #[x] := Array.toList_inj.1 h2
        have hx := hρ x (by simp [Op.operands, Call.operands, hc, hargs])
        obtain ⟨v', g1, g2⟩ := sliceData_sound (P := P) w (ts := c.argTypes) (ty := o.type) hv hx
        refine ⟨v', ?_, g2⟩
        simp only [resolve, hc, Sem.run_bind, Sem.run_pure, Result.andThen_ok, invoke, builtin, hargs]
        have : (#[x] : Array Operand).map ρ = #[ρ x] := by simp
        rw [this, g1]; rfl
      · cases hv
    · rename_i hc
      split at hv
      · rename_i t ts x h1 h2
        have hargs : c.args = #[x] := Array.toList_inj.1 h2
        have hx := hρ x (by simp [Op.operands, Call.operands, hc, hargs])
        obtain ⟨v', g1, g2⟩ := cap_sound hT w (ts := c.argTypes) (ty := o.type) (by rw [← Array.getElem?_toList, h1]; rfl) hv hx
        refine ⟨v', ?_, g2⟩
        simp only [resolve, hc, Sem.run_bind, Sem.run_pure, Result.andThen_ok, invoke, builtin, hargs]
        have : (#[x] : Array Operand).map ρ = #[ρ x] := by simp
        rw [this, g1]; rfl
      · cases hv
    · cases hv
/-- What was looked up is there still when the heap has more objects. -/
def AH.le (h h' : AH) : Prop := ∀ id o, h.t.get id = some o → h'.t.get id = some o
end Go.AI
