import Derived.Test.YtfjloafebkjadaaGreatDoorAIGrow
/- Every row of cells of a world as a read-only object, under its own number. -/
namespace Go.AI
def isRow (w : World) (b : Nat) : Bool := match w.heap[b]? with | some (.cells ..) => true | _ => false
/-- A cell's value. -/
def embC (w : World) : Value → AV
  | .pointer (some ⟨b, off, none⟩) => if isRow w b then .ptr b off else .undef
  | .slice (some _) 0 _ => .eslice
  | .slice (some ⟨b, off, none⟩) len cap => if isRow w b then .slice b off len cap true else .undef
  | v => toAV v
/-- An argument. -/
def emb (w : World) : Value → AV
  | .agg ⟨cs⟩ => .agg (cs.map (embC w))
  | v => embC w v
def embγ (T : Tab) (w : World) : Emb := fun b => match w.heap[b]? with
  | some (.cells c e _) => some (b, 0, c.size, szOf T e)
  | _ => none
def embO (w : World) : Obj → Option AObj
  | .cells c e _ => some (.cells (c.toList.map (embC w)) e true)
  | _ => none
def embL (w : World) : List Obj → Nat → Tree AObj → Tree AObj
  | [], _, t => t
  | o :: l, n, t => embL w l (n + 1) (match embO w o with | some x => t.put n x | none => t)
def embH (w : World) : AH := ⟨embL w w.heap.toList 0 .leaf, w.heap.size⟩
theorem embL_get (w : World) : ∀ (l : List Obj) (n : Nat) (t : Tree AObj) (b : Nat), (embL w l n t).get b = if n ≤ b ∧ b < n + l.length then (match l[b - n]? with | some o => (match embO w o with | some x => some x | none => t.get b) | none => t.get b) else t.get b
  | [], n, t, b => by simp [embL]
  | o :: l, n, t, b => by
    rw [embL, embL_get w l (n + 1)]
    have ht : (match embO w o with | some x => t.put n x | none => t).get b = if b = n then (match embO w o with | some x => some x | none => t.get b) else t.get b := by
      split
      · rw [Tree.get_put]
      · split <;> rfl
    by_cases hb : b = n
    · subst hb
      rw [if_neg (by omega), if_pos (by simp), ht, if_pos rfl]
      simp
    · by_cases h1 : n + 1 ≤ b ∧ b < n + 1 + l.length
      · rw [if_pos h1, if_pos (by simp; omega), ht, if_neg hb]
        have : b - n = (b - (n + 1)) + 1 := by omega
        rw [this, List.getElem?_cons_succ]
      · rw [if_neg h1, if_neg (by simp; omega), ht, if_neg hb]
theorem embH_get (w : World) (b : Nat) : (embH w).t.get b = (w.heap[b]?).bind (embO w) := by
  unfold embH
  rw [embL_get]
  simp only [Nat.zero_le, true_and, Nat.zero_add, Nat.sub_zero, Tree.get_leaf, Array.length_toList, Array.getElem?_toList]
  split
  · cases h : w.heap[b]? with
    | none => rfl
    | some o => simp only [Option.bind_some]; split <;> simp_all
  · rename_i h
    rw [Array.getElem?_eq_none (by omega)]; rfl
theorem embC_rel (T : Tab) (w : World) (v : Value) : VRel (embγ T w) (embC w v) v := by
  unfold embC
  split
  · rename_i b off
    split
    · rename_i h
      unfold isRow at h
      split at h
      · rename_i c e fz hb
        have hg : embγ T w b = some (b, 0, c.size, szOf T e) := by simp [embγ, hb]
        have := VRel.ptr (off := off) hg
        rw [Nat.zero_add] at this; exact this
      · cases h
    · exact .undef _
  · exact .eslice _ _
  · rename_i b off len cap _
    split
    · rename_i h
      unfold isRow at h
      split at h
      · rename_i c e fz hb
        have hg : embγ T w b = some (b, 0, c.size, szOf T e) := by simp [embγ, hb]
        have := VRel.slice (off := off) (len := len) (cap := cap) hg
        rw [Nat.zero_add] at this; exact this
      · cases h
    · exact .undef _
  · exact toAV_rel _ _
theorem embL_rel (T : Tab) (w : World) : ∀ l : List Value, LRel (embγ T w) (l.map (embC w)) l
  | [] => .nil
  | v :: l => .cons (embC_rel T w v) (embL_rel T w l)
theorem emb_rel (T : Tab) (w : World) (v : Value) : VRel (embγ T w) (emb w v) v := by
  unfold emb
  split
  · exact .agg (embL_rel T w _)
  · exact embC_rel T w v
theorem embs_rel (T : Tab) (w : World) : ∀ l : List Value, LRel (embγ T w) (l.map (emb w)) l
  | [] => .nil
  | v :: l => .cons (emb_rel T w v) (embs_rel T w l)
theorem emb_wrel (T : Tab) (w : World) (hg : GlobOk T w) : WRel T (embγ T w) (embH w) w w where
  below := ⟨rfl, rfl, rfl, Nat.le_refl _, fun _ _ => rfl⟩
  glob := hg
  dom := by
    intro b x e
    unfold embγ at e
    split at e
    · rename_i c t fz hb
      exact (Array.getElem?_eq_some_iff.1 hb).1
    · cases e
  obj := by
    intro id b s K z e
    unfold embγ at e
    split at e
    · rename_i c t fz hb
      cases e
      refine ⟨.cells (c.toList.map (embC w)) t true, by rw [embH_get, hb]; rfl, (Array.getElem?_eq_some_iff.1 hb).1, ⟨rfl, Nat.zero_mod _, ?_⟩, c, t, fz, hb, fun i v hi => ?_, by omega, by simp, fun h => by cases h⟩
      · intro c' e' fz' h; rw [hb] at h; cases h; rfl
      · rw [Nat.zero_add]
        rw [List.getElem?_map, Option.map_eq_some_iff] at hi
        obtain ⟨v', h1, rfl⟩ := hi
        exact ⟨v', by simpa using h1, embC_rel T w v'⟩
    · cases e
  inj := by
    intro i j b s K z s' K' z' e1 e2 hne hb
    unfold embγ at e1
    split at e1
    · rename_i c t fz hb'
      cases e1
      have := (Array.getElem?_eq_some_iff.1 hb').1
      omega
    · cases e1
theorem emb_wf (w : World) : WF (embH w) := by
  intro b hb
  rw [embH_get]
  have : w.heap[b]? = none := Array.getElem?_eq_none hb
  rw [this]; rfl
end Go.AI
