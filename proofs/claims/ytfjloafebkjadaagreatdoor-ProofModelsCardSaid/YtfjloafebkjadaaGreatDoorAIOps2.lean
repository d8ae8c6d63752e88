import Derived.Test.YtfjloafebkjadaaGreatDoorAIOps1
/- Operations that look and leave memory alone. -/
namespace Go.AI
open Go.RowKit (Below)
variable {P : Program} {T : Tab} {γ : Emb} {h : AH} {w0 w : World}

/-! ### Building -/
inductive PRel (γ : Emb) : List (Nat × AV) → List (Nat × Value) → Prop
  | nil : PRel γ [] []
  | cons {i : Nat} {v : AV} {v' : Value} {l : List (Nat × AV)} {l' : List (Nat × Value)} (h : VRel γ v v') (t : PRel γ l l') : PRel γ ((i, v) :: l) ((i, v') :: l')
theorem foldl_set (off : Nat) : ∀ (l : List Value) (k : Nat) (c : Array Value),
    (l.zipIdx k).foldl (fun (cs : Array Value) (x : Value × Nat) => cs.setIfInBounds (off + x.2) x.1) c = ⟨lsetMany c.toList (off + k) l⟩
  | [], _, c => by simp [lsetMany]
  | v :: l, k, c => by
    simp only [List.zipIdx_cons, List.foldl_cons]
    rw [foldl_set off l (k + 1)]
    simp [lsetMany, lset_eq, Nat.add_assoc]
theorem known_ne {v : AV} (h : known v = true) : v ≠ .undef := by rintro rfl; simp [known] at h
theorem fill_rel {place place' : Nat → Option (Nat × Nat)} (hp : ∀ i, place' i = place i) : ∀ {ps : List (Nat × AV)} {ps' : List (Nat × Value)} {cs r : List AV} {cs' : Array Value}, PRel γ ps ps' → LRel γ cs cs'.toList → afill place cs ps = some r →
    ∃ r', Instr.fill place' cs' ps' = some r' ∧ LRel γ r r'.toList
  | _, _, cs, r, cs', .nil, hc, hf => by simp only [afill, Option.some.injEq] at hf; subst hf; exact ⟨cs', rfl, hc⟩
  | _, _, cs, r, cs', .cons (i := i) (v := v) (v' := v') hv t, hc, hf => by
    simp only [afill] at hf
    unfold Instr.fill
    rw [hp i]
    cases hpl : place i with
    | none => rw [hpl] at hf; cases hf
    | some x =>
      obtain ⟨off, n⟩ := x
      rw [hpl] at hf
      dsimp only at hf ⊢
      split at hf
      · rename_i hcond
        obtain ⟨h1, h2, h3⟩ := hcond
        have hcells := hv.cells (known_ne h3)
        have hsz : v'.cells.size = n := by rw [← h1, ← hcells.length]; simp
        have hcs : cs'.size = cs.length := by rw [← hc.length]; simp
        rw [if_neg (by simp [hsz, hcs]; omega)]
        have hfold : (v'.cells.zipIdx.foldl (fun cs (x : Value × Nat) => match x with | (c, j) => cs.setIfInBounds (off + j) c) cs') = ⟨lsetMany cs'.toList off v'.cells.toList⟩ := by
          have := foldl_set off v'.cells.toList 0 cs'
          rw [Nat.add_zero] at this
          rw [← this, ← Array.foldl_toList, Array.toList_zipIdx]
        rw [hfold]
        exact fill_rel hp t (by simpa using hcells.setMany off hc) hf
      · cases hf
theorem run_mapM_places (hT : TabOk P T) (w : World) : ∀ (fs : List Field), allFields T fs = true →
    (fs.mapM (fun f => do pure (f.offset, ← Go.sizeOf f.type) : Field → Sem (Nat × Nat))).run P w = .ok (fs.map fun f => (f.offset, szOf T f.type)) w
  | [], _ => by simp
  | f :: fs, h => by
    simp only [allFields, List.all_cons, Bool.and_eq_true] at h
    obtain ⟨h1, h2⟩ := h
    obtain ⟨i, hi⟩ := Option.isSome_iff_exists.1 h1
    have := run_mapM_places hT w fs (by simpa [allFields] using h2)
    simp only [List.mapM_cons, Sem.run_bind, r_sizeOf hT hi, Result.andThen_ok, Sem.run_pure, this, List.map_cons, szOf_eq hi]
theorem places_eq (fs : List Field) (hall : allFields T fs = true) (i : Nat) :
    (fs.map fun f => (f.offset, szOf T f.type))[i]? = placeIn T fs i := by
  unfold placeIn
  rw [lget_eq, List.getElem?_map]
  cases hf : fs[i]? with
  | none => rfl
  | some f =>
    have hm := List.mem_of_getElem? hf
    have := List.all_eq_true.1 hall _ hm
    obtain ⟨j, hj⟩ := Option.isSome_iff_exists.1 this
    simp [hj, szOf_eq hj]
theorem build_rel (hT : TabOk P T) {t : TypeId} {ps : Array (Nat × Value)} {aps : List (Nat × AV)} {v : AV} (hp : PRel γ aps ps.toList) (hb : abuild T t aps = some v) (w : World) : ∃ v', (Instr.build t ps).run P w = .ok v' w ∧ VRel γ v v' := by
  unfold abuild at hb
  split at hb
  · rename_i i hi
    obtain ⟨z, hz, hz1, hz2, hz3⟩ := r_zero hT hi w
    have hzc : LRel γ i.zero z.cells.toList := by rw [hz1]; exact (toAV_rel γ z).cells hz3
    have hu := r_underlying hT hi w
    unfold Instr.build
    simp only [Sem.run_bind, hz, Result.andThen_ok, hu]
    split at hb
    · rename_i fs hd
      rw [hd]
      split at hb
      · cases hb
      · rename_i hall
        have hall' : allFields T fs.toList = true := by simpa using hall
        simp only [Array.mapM_eq_mapM_toList, Sem.run_bind, Sem.run_map, run_mapM_places hT w fs.toList hall', Result.andThen_ok]
        rw [Option.map_eq_some_iff] at hb
        obtain ⟨r, h1, rfl⟩ := hb
        obtain ⟨r', h3, h4⟩ := fill_rel (γ := γ) (place' := fun i => (List.map (fun f : Field => (f.offset, szOf T f.type)) fs.toList).toArray[i]?) (fun i => by simpa using places_eq fs.toList hall' i) hp hzc h1
        rw [h3]
        exact ⟨_, rfl, .agg h4⟩
    · rename_i n e hd
      rw [hd]
      split at hb
      · rename_i ei he
        rw [Option.map_eq_some_iff] at hb
        obtain ⟨r, h1, rfl⟩ := hb
        simp only [Sem.run_bind, r_sizeOf hT he, Result.andThen_ok]
        obtain ⟨r', h3, h4⟩ := fill_rel (γ := γ) (place' := fun i => some (i * ei.size, ei.size)) (fun i => rfl) hp hzc h1
        rw [h3]
        exact ⟨_, rfl, .agg h4⟩
      · cases hb
    · cases hb
  · cases hb
end Go.AI
