import Derived.Test.YtfjloafebkjadaaGreatDoorAIOps7
/- Operations that act: maps and iterators. -/
namespace Go.AI
open Go.RowKit (Below)
variable {P : Program} {T : Tab} {γ : Emb} {h : AH} {w0 w : World}

/-- Up to n nothing has been bound anew. -/
def Ext (n : Nat) (γ γ' : Emb) : Prop := ∀ id, id < n → γ' id = γ id
theorem Ext.refl (n : Nat) (γ : Emb) : Ext n γ γ := fun _ _ => rfl
theorem Ext.trans {n m : Nat} {a b c : Emb} (h : Ext n a b) (k : Ext m b c) (hnm : n ≤ m) : Ext n a c := fun id hid => (k id (by omega)).trans (h id hid)
theorem Ext.le (hw : WRel T γ h w0 w) {γ' : Emb} (he : Ext h.next γ γ') : γ.le γ' := fun id x e => by rw [he id (hw.dom _ _ e)]; exact e
/-- What an operation that acts, or a call, comes to. -/
def Out (P : Program) (T : Tab) (γ : Emb) (h : AH) (w0 w : World) (s : Sem Next) (v : AV) (h' : AH) : Prop :=
  ∃ nx v' w' γ', s.run P w = .ok nx w' ∧ (nx = .value v' ∨ (nx = .skip ∧ v' = undef)) ∧ Ext h.next γ γ' ∧ h.next ≤ h'.next ∧ WRel T γ' h' w0 w' ∧ VRel γ' v v'

def setW (w : World) (b : Nat) (o : Obj) : World := { w with heap := w.heap.setIfInBounds b o }
theorem setObj_run {b : Nat} {o o' : Obj} (hb : w.heap[b]? = some o) (hc : ∀ c e f, o ≠ .cells c e f) : (setObj b o').run P w = .ok () (setW w b o') := by
  simp only [setObj, Sem.run, hb]
  cases o <;> first
    | rfl
    | exact absurd rfl (hc _ _ _)
theorem WRel.setW (hw : WRel T γ h w0 w) {id b s K z : Nat} {o o' : AObj} {ob : Obj} (hg : γ id = some (b, s, K, z)) (ho : h.t.get id = some o) (hd : o ≠ .dead) (hB : w0.heap.size ≤ b) (hr : ORel T γ w0.heap.size (some ob) b s K z o') : WRel T γ (h.upd id o') w0 (setW w b ob) := by
  obtain ⟨_, _, hlt, _⟩ := hw.obj _ _ _ _ _ hg
  refine hw.update hg ho hd hB (by simp [AI.setW]) (fun k hk => ?_) rfl rfl rfl ?_
  · simp only [AI.setW]; rw [Array.getElem?_setIfInBounds_ne (by omega)]
  · have : (AI.setW w b ob).heap[b]? = some ob := by simp [AI.setW, hlt]
    rw [this]; exact hr

theorem ERel.get {γ : Emb} : ∀ {l : List AEntry} {l' : List MapEntry}, ERel γ l l' → ∀ {i : Nat} {e : AEntry}, l[i]? = some e → ∃ e', l'[i]? = some e' ∧ VRel γ e.key e'.key ∧ VRel γ e.val e'.val ∧ e'.born = e.born
  | _, _, .nil, i, e, h => by simp at h
  | _, _, .cons a b c t, 0, e, h => by simp at h; subst h; exact ⟨_, by simp, a, b, c⟩
  | _, _, .cons a b c t, i + 1, e, h => by
    simp at h
    obtain ⟨e', h1, h2⟩ := ERel.get t h
    exact ⟨e', by simpa using h1, h2⟩
theorem ERel.append {γ : Emb} : ∀ {l m : List AEntry} {l' m' : List MapEntry}, ERel γ l l' → ERel γ m m' → ERel γ (l ++ m) (l' ++ m')
  | _, _, _, _, .nil, h => h
  | _, _, _, _, .cons a b c t, h => .cons a b c (ERel.append t h)
theorem ERel.modify {γ : Emb} {f : AEntry → AEntry} {f' : MapEntry → MapEntry} (hf : ∀ e e', VRel γ e.key e'.key → VRel γ e.val e'.val → e'.born = e.born → VRel γ (f e).key (f' e').key ∧ VRel γ (f e).val (f' e').val ∧ (f' e').born = (f e).born) :
    ∀ {l : List AEntry} {l' : List MapEntry} (i : Nat), ERel γ l l' → ERel γ (modEntry f l i) (l'.modify i f')
  | _, _, i, .nil => by simp [modEntry]; exact .nil
  | _, _, 0, .cons a b c t => by
    obtain ⟨h1, h2, h3⟩ := hf _ _ a b c
    exact .cons h1 h2 h3 t
  | _, _, i + 1, .cons a b c t => .cons a b c (ERel.modify hf i t)
theorem ERel.eraseIdx {γ : Emb} : ∀ {l : List AEntry} {l' : List MapEntry} (i : Nat), ERel γ l l' → ERel γ (l.eraseIdx i) (l'.eraseIdx i)
  | _, _, _, .nil => .nil
  | _, _, 0, .cons _ _ _ t => t
  | _, _, i + 1, .cons a b c t => .cons a b c (ERel.eraseIdx i t)
theorem findkey_at {d : TypeId × TypeDesc} {k : AV} : ∀ {es : List AEntry} {i0 i : Nat} {v : AV}, findkey T d k es i0 = some (some (i, v)) → ∃ e, i0 ≤ i ∧ es[i - i0]? = some e ∧ samekey T d k e.key = some true ∧ e.val = v
  | [], i0, i, v, h => by simp [findkey] at h
  | e :: es, i0, i, v, h => by
    unfold findkey at h
    split at h
    · rename_i hs; cases h; exact ⟨e, Nat.le_refl _, by simp, hs, rfl⟩
    · obtain ⟨e', h1, h2, h3, h4⟩ := findkey_at h
      refine ⟨e', by omega, ?_, h3, h4⟩
      have : i - i0 = (i - (i0 + 1)) + 1 := by omega
      rw [this, List.getElem?_cons_succ]; exact h2
    · cases h
theorem sameInts_eq : ∀ {a b : List AV} {a' b' : List Value}, sameInts a b = true → LRel γ a a' → LRel γ b b' → b' = a' ∧ ∀ n, (b'.zip a').all (fun (x, y) => Instr.sameBits n x y) = true
  | [], [], _, _, _, .nil, .nil => ⟨rfl, fun _ => rfl⟩
  | .int k x :: xs, .int k' y :: ys, _, _, h, .cons hx tx, .cons hy ty => by
    simp only [sameInts, Bool.and_eq_true, decide_eq_true_eq, beq_iff_eq] at h
    obtain ⟨⟨rfl, rfl⟩, h3⟩ := h
    cases hx; cases hy
    obtain ⟨h4, h5⟩ := sameInts_eq h3 tx ty
    refine ⟨by rw [h4], fun n => ?_⟩
    simp only [List.zip_cons_cons, List.all_cons, h5 n, Bool.and_true]
    cases n <;> simp [Instr.sameBits]
theorem samekey_eq {d : TypeId × TypeDesc} {k e : AV} {k' e' : Value} (h : samekey T d k e = some true) (hk : VRel γ k k') (he : VRel γ e e') : e' = k' ∧ Instr.sameBits 10000 e' k' = true := by
  unfold samekey at h
  split at h
  · cases hk; cases he
    split at h
    · rename_i hkk; subst hkk
      simp only [Option.some.injEq, beq_iff_eq] at h; subst h
      exact ⟨rfl, by simp [Instr.sameBits]⟩
    · cases h
  · cases hk; cases he
    simp only [Option.some.injEq, beq_iff_eq] at h; subst h
    exact ⟨rfl, by simp [Instr.sameBits, bytes_beq]⟩
  · cases hk; cases he
    simp only [Option.some.injEq, beq_iff_eq] at h; subst h
    exact ⟨rfl, by simp [Instr.sameBits]⟩
  · cases hk with
    | agg hk =>
    cases he with
    | agg he =>
    split at h
    · split at h
      · rename_i hs
        obtain ⟨h1, h2⟩ := sameInts_eq hs hk he
        refine ⟨by rw [h1], ?_⟩
        have : ∀ a b : Array Value, Instr.sameBits 10000 (.agg a) (.agg b) = (a.size == b.size && (a.toList.zip b.toList).all fun (x, y) => Instr.sameBits 9999 x y) := fun _ _ => rfl
        rw [this, h2 9999, h1]; simp
      · cases h
    · rename_i hne; exact absurd h hne
  · cases h
theorem keyStays {n : Nat} {old new : Value} (h : Instr.sameBits n old new = true) (hn : n = 10000) : (Instr.keyThatStays old new).run P w = .ok new w := by
  subst hn
  unfold Instr.keyThatStays
  rw [if_pos h]; rfl
theorem mapUpdate_sound (hT : TabOk P T) (hw : WRel T γ h w0 w) {t : TypeId} {m k v : AV} {m' k' v' : Value} {h' : AH} (hs : amapUpdate T h t m k v = some h') (hm : VRel γ m m') (hk : VRel γ k k') (hv : VRel γ v v') :
    ∃ w', (Instr.mapUpdate t m' k' v').run P w = .ok () w' ∧ h'.next = h.next ∧ WRel T γ h' w0 w' := by
  unfold amapUpdate at hs
  split at hs
  · rename_i r kd z hkd
    obtain ⟨et, Q⟩ := keyed_sound hT (γ := γ) (k' := k') hkd hk w
    cases hm with
    | map hg =>
    split at hs
    · rename_i es c he
      obtain ⟨ho, hB, es', h2, h3⟩ := obj_map hw he hg
      unfold Instr.mapUpdate
      simp only [Sem.run_bind, Q.map, Result.andThen_ok, run_getObj_map' h2, Q.check]
      split at hs
      · rename_i i u hf
        cases hs
        obtain ⟨r', g1, g2⟩ := findkey_sound hT w Q.key hk h3 hf
        rw [g1]
        cases r' with
        | none => exact g2.elim
        | some x =>
          obtain ⟨j, u'⟩ := x
          obtain ⟨rfl, g3⟩ := g2
          obtain ⟨e, _, k1, k2, _⟩ := findkey_at hf
          rw [Nat.sub_zero] at k1
          obtain ⟨e', k3, k4, _, _⟩ := h3.get k1
          obtain ⟨k5, k6⟩ := samekey_eq k2 hk k4
          have k3' : es'[i]? = some e' := by rw [← k3]; simp
          simp only [Result.andThen_ok, Sem.run_bind, k3', Option.map_some, Option.getD_some]
          rw [keyStays k6 rfl]
          simp only [Result.andThen_ok]
          rw [setObj_run h2 (by simp)]
          refine ⟨_, rfl, rfl, hw.setW hg ho (by simp) hB ⟨hB, _, rfl, ?_⟩⟩
          rw [Array.toList_modify]
          refine ERel.modify ?_ i h3
          intro e e' a b c
          exact ⟨hk, hv, c⟩
      · rename_i hf
        cases hs
        obtain ⟨r', g1, g2⟩ := findkey_sound hT w Q.key hk h3 hf
        rw [g1]
        cases r' with
        | some x => exact g2.elim
        | none =>
          simp only [Result.andThen_ok]
          rw [setObj_run h2 (by simp)]
          refine ⟨_, rfl, rfl, hw.setW hg ho (by simp) hB ⟨hB, _, rfl, ?_⟩⟩
          rw [Array.toList_push]
          exact h3.append (.cons hk hv rfl .nil)
      · cases hs
    · cases hs
  · cases hs
theorem mapEntry_sound (hT : TabOk P T) (hw : WRel T γ h w0 w) {t : TypeId} {m k v : AV} {m' k' : Value} {h' : AH} (hs : amapEntry T h t m k = some (v, h')) (hm : VRel γ m m') (hk : VRel γ k k') :
    ∃ v' w', (Instr.mapEntry t m' k').run P w = .ok v' w' ∧ h'.next = h.next ∧ WRel T γ h' w0 w' ∧ VRel γ v v' := by
  unfold amapEntry at hs
  split at hs
  · rename_i r kd z hkd
    obtain ⟨et, Q⟩ := keyed_sound hT (γ := γ) (k' := k') hkd hk w
    obtain ⟨z', z1, z2⟩ := Q.zero
    cases hm with
    | map hg =>
    split at hs
    · rename_i es c he
      obtain ⟨ho, hB, es', h2, h3⟩ := obj_map hw he hg
      unfold Instr.mapEntry
      simp only [Sem.run_bind, Q.map, Result.andThen_ok, run_getObj_map' h2, Q.check]
      split at hs
      · rename_i i u hf
        obtain ⟨e, _, k1, k2, k7⟩ := findkey_at hf
        rw [Nat.sub_zero] at k1
        rw [lget_eq, k1] at hs
        cases hs
        obtain ⟨r', g1, g2⟩ := findkey_sound hT w Q.key hk h3 hf
        rw [g1]
        cases r' with
        | none => exact g2.elim
        | some x =>
          obtain ⟨j, u'⟩ := x
          obtain ⟨rfl, g3⟩ := g2
          obtain ⟨e', k3, k4, _, k8⟩ := h3.get k1
          obtain ⟨k5, k6⟩ := samekey_eq k2 hk k4
          have k3' : es'[i]? = some e' := by rw [← k3]; simp
          simp only [Result.andThen_ok, Sem.run_bind, k3', Option.map_some, Option.getD_some]
          rw [keyStays k6 rfl]
          simp only [Result.andThen_ok]
          rw [setObj_run h2 (by simp)]
          refine ⟨_, _, rfl, rfl, hw.setW hg ho (by simp) hB ⟨hB, _, rfl, ?_⟩, ?_⟩
          · rw [Array.toList_modify]
            refine ERel.modify ?_ i h3
            intro e e' a b c
            exact ⟨hk, b, c⟩
          · rw [k8]; exact .tuple (.cons g3 (.cons (.int _ _) .nil))
      · rename_i hf
        cases hs
        obtain ⟨r', g1, g2⟩ := findkey_sound hT w Q.key hk h3 hf
        rw [g1]
        cases r' with
        | some x => exact g2.elim
        | none =>
          simp only [Result.andThen_ok, Sem.run_bind, z1]
          rw [setObj_run h2 (by simp)]
          refine ⟨_, _, rfl, rfl, hw.setW hg ho (by simp) hB ⟨hB, _, rfl, ?_⟩, .tuple (.cons z2 (.cons (.int _ _) .nil))⟩
          rw [Array.toList_push]
          exact h3.append (.cons hk z2 rfl .nil)
      · cases hs
    · cases hs
  · cases hs
theorem findBorn_eq {γ : Emb} (b : Int) : ∀ {l : List AEntry} {l' : List MapEntry}, ERel γ l l' → ∀ i, (findBorn b l i).map (· - i) = l'.findIdx? (fun e => (e.born : Int) == b) ∧ (∀ j, findBorn b l i = some j → i ≤ j)
  | _, _, .nil, i => by simp [findBorn]
  | _, _, .cons (e := e) (e' := e') (es := es) (es' := es') a c d t, i => by
    have ih := findBorn_eq b t (i + 1)
    unfold findBorn
    rw [List.findIdx?_cons, d]
    split
    · simp
    · refine ⟨?_, fun j hj => by have := ih.2 j hj; omega⟩
      rw [← ih.1]
      cases hf : findBorn b es (i + 1) with
      | none => rfl
      | some j => have := ih.2 j hf; simp; omega
theorem entryStore_sound (hw : WRel T γ h w0 w) {t : TypeId} {m s v : AV} {m' s' v' : Value} {h' : AH} (hs : aentryStore h m s v = some h') (hm : VRel γ m m') (hb : VRel γ s s') (hv : VRel γ v v') :
    ∃ w', (Instr.entryStore t m' s' v').run P w = .ok () w' ∧ h'.next = h.next ∧ WRel T γ h' w0 w' := by
  unfold aentryStore at hs
  split at hs
  · rename_i r kk b
    cases hb
    cases hm with
    | map hg =>
    split at hs
    · rename_i es c he
      obtain ⟨ho, hB, es', h2, h3⟩ := obj_map hw he hg
      split at hs
      · rename_i i hf
        cases hs
        have := (findBorn_eq b h3 0).1
        rw [hf] at this
        simp only [Option.map_some, Nat.sub_zero] at this
        have hidx : es'.findIdx? (fun e => (e.born : Int) == b) = some i := by rw [this, ← List.findIdx?_toArray]
        unfold Instr.entryStore
        simp only [Sem.run_bind, run_getObj_map' h2, Result.andThen_ok, asInt, asIntOf, Sem.run_pure, hidx]
        rw [setObj_run h2 (by simp)]
        refine ⟨_, rfl, rfl, hw.setW hg ho (by simp) hB ⟨hB, _, rfl, ?_⟩⟩
        rw [Array.toList_modify]
        refine ERel.modify ?_ i h3
        intro e e' a b c
        exact ⟨a, hv, c⟩
      · cases hs
    · cases hs
  · cases hs
end Go.AI
