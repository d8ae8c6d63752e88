import Derived.Test.YtfjloafebkjadaaGreatDoorAIOps5
/- All quiet operations together. -/
namespace Go.AI
open Go.RowKit (Below)
variable {P : Program} {T : Tab} {γ : Emb} {h : AH} {w0 w : World}

theorem lrel_map {env : Env} {ρ : Operand → Value} : ∀ {l : List Operand}, (∀ x ∈ l, VRel γ (aev env x) (ρ x)) → LRel γ (l.map (aev env)) (l.map ρ)
  | [], _ => .nil
  | x :: l, h => .cons (h x (by simp)) (lrel_map fun y hy => h y (by simp [hy]))
theorem prel_map {env : Env} {ρ : Operand → Value} : ∀ {l : List (Nat × Operand)}, (∀ x ∈ l.map (·.2), VRel γ (aev env x) (ρ x)) → PRel γ (l.map fun p => (p.1, aev env p.2)) (l.map fun p => (p.1, ρ p.2))
  | [], _ => .nil
  | x :: l, h => .cons (h _ (by simp)) (prel_map fun y hy => h y (by simp at hy ⊢; exact .inr hy))
theorem orel_map {env : Env} {ρ : Operand → Value} : ∀ {o : Option Operand}, (∀ x ∈ o.toList, VRel γ (aev env x) (ρ x)) → ORelO γ (o.map (aev env)) (o.map ρ)
  | none, _ => trivial
  | some x, h => h x (by simp)
theorem toArray_map {α β : Type} (a : Array α) (f : α → β) : a.map f = ⟨a.toList.map f⟩ := by
  apply Array.toList_inj.1; simp
theorem sliceData_sound (w : World) {ts : Array TypeId} {ty : TypeId} {x v : AV} {x' : Value} (hs : asliceData x = some v) (hx : VRel γ x x') : ∃ v', (Builtin.unsafeSliceData_ ts ty #[x']).run P w = .ok v' w ∧ VRel γ v v' := by
  unfold asliceData at hs
  split at hs
  · cases hs; cases hx
    exact ⟨_, rfl, .nilPtr⟩
  · rename_i id off len cap ex
    split at hs
    · rename_i hc
      cases hs
      cases hx with
      | slice hg => exact ⟨_, Go.Lib.run_unsafeSliceData_row w _ _ _ _ _ (by rcases hc with h | h; exact h.2; exact absurd h.1 (by simp)), .ptr hg⟩
      | grown hg hk hl => exact ⟨_, Go.Lib.run_unsafeSliceData_row w _ _ _ _ _ (by rcases hc with h | h; exact absurd h.1 (by simp); omega), .ptr hg⟩
    · cases hs
  · cases hs
theorem quiet_sound (hT : TabOk P T) (hw : WRel T γ h w0 w) {env : Env} {ρ : Operand → Value} {o : Oper} (hρ : ∀ x ∈ o.op.operands.toList, VRel γ (aev env x) (ρ x)) {v : AV} (hv : aquiet T env h o.op = some v) :
    ∃ v', (execOp ρ o).run P w = .ok (.value v') w ∧ VRel γ v v' := by
  have lift : ∀ {s : Sem Value}, (∃ v', s.run P w = .ok v' w ∧ VRel γ v v') → ∃ v', (do pure (.value (← s)) : Sem Next).run P w = .ok (.value v') w ∧ VRel γ v v' := by
    rintro s ⟨v', h1, h2⟩
    exact ⟨v', by simp [h1], h2⟩
  unfold execOp
  cases ho : o.op <;> rw [ho] at hv hρ <;> simp only [aquiet] at hv <;> (try (cases hv; done))
  case move x => cases hv; exact ⟨_, rfl, hρ x (by simp [Op.operands])⟩
  case assign x => cases hv; exact ⟨_, rfl, hρ x (by simp [Op.operands])⟩
  case pick c a b =>
    have hc := hρ c (by simp [Op.operands])
    have ha := hρ a (by simp [Op.operands])
    have hb := hρ b (by simp [Op.operands])
    split at hv
    · rename_i t ht
      rw [ht] at hc
      have hc' := rel_bool hc
      cases hv
      simp only [hc', asBool, Sem.run_bind, Sem.run_pure, Result.andThen_ok]
      cases t
      · exact ⟨_, rfl, hb⟩
      · exact ⟨_, rfl, ha⟩
    · cases hv
  case build t ps =>
    apply lift
    refine build_rel hT (γ := γ) (aps := ps.toList.map fun p => (p.1, aev env p.2)) ?_ hv w
    rw [toArray_map]
    exact prel_map fun x hx => hρ x (by simpa [Op.operands] using hx)
  case load t a =>
    apply lift
    obtain ⟨p, v', h1, h2, h3⟩ := load_rel hT hw hv (hρ a (by simp [Op.operands]))
    refine ⟨v', ?_, h3⟩
    rw [h1]
    simp [Instr.loadAt, Instr.sureAddr, h2]
  case nilCheck x =>
    dsimp only
    have hx := hρ x (by simp [Op.operands])
    split at hv
    · rename_i i off he; rw [he] at hx; cases hv
      generalize ρ x = u at hx ⊢
      cases hx with
      | ptr hg => exact ⟨_, rfl, .ptr hg⟩
    · rename_i f cs he; rw [he] at hx; cases hv
      generalize ρ x = u at hx ⊢
      cases hx with
      | func hl => exact ⟨_, rfl, .func hl⟩
    · rename_i f cs he; rw [he] at hx; cases hv
      generalize ρ x = u at hx ⊢
      cases hx with
      | meth hl => exact ⟨_, rfl, .meth hl⟩
    · rename_i t u he; rw [he] at hx; cases hv
      generalize ρ x = u at hx ⊢
      cases hx with
      | iface hl => exact ⟨_, rfl, .iface hl⟩
    · cases hv
  case binOp op t x y ty =>
    apply lift
    exact binOp_sound hT w hv (hρ x (by simp [Op.operands])) (hρ y (by simp [Op.operands]))
  case unOp op t x =>
    apply lift
    exact unOp_sound w hv (hρ x (by simp [Op.operands]))
  case convert s d x =>
    apply lift
    exact convert_sound hT hw hv (hρ x (by simp [Op.operands]))
  case makeInterface t x =>
    apply lift
    split at hv
    · rename_i i hi
      split at hv
      · cases hv
      · rename_i hne
        cases hv
        unfold Instr.makeInterface
        simp only [Sem.run_bind, r_underlying hT hi, Result.andThen_ok]
        exact ⟨_, rfl, .iface (hρ x (by simp [Op.operands]))⟩
    · cases hv
  case makeFunc fn first cap =>
    apply lift
    cases fn <;> simp only at hv <;> (try (cases hv; done))
    split at hv
    · rename_i hf
      cases hv
      have : first = #[] := by
        apply Array.toList_inj.1
        exact List.length_eq_zero_iff.1 hf
      subst this
      refine ⟨_, rfl, ?_⟩
      have hl : LRel γ (cap.toList.map (aev env)) (cap.toList.map ρ) := lrel_map fun x hx => hρ x (by simpa [Op.operands] using hx)
      rw [toArray_map cap, show (#[] : Array Operand).map ρ = ⟨[]⟩ from by simp]
      exact .func hl
    · split at hv
      · rename_i hf
        cases hv
        have : cap = #[] := by
          apply Array.toList_inj.1
          exact List.length_eq_zero_iff.1 hf
        subst this
        refine ⟨_, rfl, ?_⟩
        have hl : LRel γ (first.toList.map (aev env)) (first.toList.map ρ) := lrel_map fun x hx => hρ x (by simpa [Op.operands] using hx)
        rw [toArray_map first, show (#[] : Array Operand).map ρ = ⟨[]⟩ from by simp]
        exact .meth hl
      · cases hv
  case slice t x lo hi mx =>
    apply lift
    exact slice_sound hT hw hv (hρ x (by simp [Op.operands])) (orel_map fun y hy => hρ y (by cases lo <;> simp_all [Op.operands])) (orel_map fun y hy => hρ y (by cases hi <;> simp_all [Op.operands]))
      (orel_map fun y hy => hρ y (by cases mx <;> simp_all [Op.operands]))
  case fieldAddr s x f =>
    apply lift
    exact fieldAddr_sound hT w hv (hρ x (by simp [Op.operands]))
  case field t x f =>
    apply lift
    exact field_sound hT w hv (hρ x (by simp [Op.operands]))
  case indexAddr t x i =>
    apply lift
    exact indexAddr_sound hT w hv (hρ x (by simp [Op.operands])) (hρ i (by simp [Op.operands]))
  case index t x i =>
    apply lift
    exact index_sound hT w hv (hρ x (by simp [Op.operands])) (hρ i (by simp [Op.operands]))
  case lookup t x i ok =>
    apply lift
    exact lookup_sound hT hw hv (hρ x (by simp [Op.operands])) (hρ i (by simp [Op.operands]))
  case extract t i =>
    apply lift
    have ht := hρ t (by simp [Op.operands])
    generalize ρ t = u at ht ⊢
    generalize aev env t = ut at ht hv
    cases ht <;> simp only [aextract] at hv <;> (try (cases hv; done))
    rename_i cs cs' hl
    rw [lget_eq] at hv
    obtain ⟨v', h1, h2⟩ := hl.get hv
    refine ⟨v', ?_, h2⟩
    simp [Instr.extract, h1]
  case call c =>
    split at hv
    · rename_i hc
      split at hv
      · rename_i t ts x h1 h2
        have hargs : c.args = #[x] := Array.toList_inj.1 h2
        have hx := hρ x (by simp [Op.operands, Call.operands, hc, hargs])
        obtain ⟨v', g1, g2⟩ := len_sound hT hw (ts := c.argTypes) (ty := o.type) (by rw [← Array.getElem?_toList, h1]; rfl) hv hx
        refine ⟨v', ?_, g2⟩
        simp only [resolve, hc, Sem.run_bind, Sem.run_pure, Result.andThen_ok, invoke, builtin, hargs]
        have : (#[x] : Array Operand).map ρ = #[ρ x] := by simp
        rw [this, g1]; rfl
      · cases hv
    · rename_i hc
      have hl : LRel γ (c.args.toList.map (aev env)) (c.args.toList.map ρ) := lrel_map fun x hx => hρ x (by simp [Op.operands, Call.operands, hc] at hx ⊢; exact hx)
      unfold aminmax at hv
      split at hv
      · rename_i k n rest heq
        rw [heq] at hl
        generalize hL : c.args.toList.map ρ = L at hl
        cases hl with
        | cons hu t =>
        cases hu
        obtain ⟨v', g1, g2⟩ := min_sound (P := P) w t (.int k n) hv
        refine ⟨v', ?_, g2⟩
        simp only [resolve, hc, Sem.run_bind, Sem.run_pure, Result.andThen_ok, invoke, builtin, Builtin.min_, toArray_map, hL]
        rw [g1]; rfl
      · cases hv
    · rename_i hc
      have hl : LRel γ (c.args.toList.map (aev env)) (c.args.toList.map ρ) := lrel_map fun x hx => hρ x (by simp [Op.operands, Call.operands, hc] at hx ⊢; exact hx)
      unfold aminmax at hv
      split at hv
      · rename_i k n rest heq
        rw [heq] at hl
        generalize hL : c.args.toList.map ρ = L at hl
        cases hl with
        | cons hu t =>
        cases hu
        obtain ⟨v', g1, g2⟩ := max_sound (P := P) w t (.int k n) hv
        refine ⟨v', ?_, g2⟩
        simp only [resolve, hc, Sem.run_bind, Sem.run_pure, Result.andThen_ok, invoke, builtin, Builtin.max_, toArray_map, hL]
        rw [g1]; rfl
      · cases hv
    · rename_i hc
      split at hv
      · rename_i x h2
        have hargs : c.args = #[x] := Array.toList_inj.1 h2
        have hx := hρ x (by simp [Op.operands, Call.operands, hc, hargs])
        obtain ⟨v', g1, g2⟩ := sliceData_sound (P := P) w (ts := c.argTypes) (ty := o.type) hv hx
        refine ⟨v', ?_, g2⟩
        simp only [resolve, hc, Sem.run_bind, Sem.run_pure, Result.andThen_ok, invoke, builtin, hargs]
        have : (#[x] : Array Operand).map ρ = #[ρ x] := by simp
        rw [this, g1]; rfl
      · cases hv
    · rename_i hc
      split at hv
      · rename_i t ts x h1 h2
        have hargs : c.args = #[x] := Array.toList_inj.1 h2
        have hx := hρ x (by simp [Op.operands, Call.operands, hc, hargs])
        obtain ⟨v', g1, g2⟩ := cap_sound hT w (ts := c.argTypes) (ty := o.type) (by rw [← Array.getElem?_toList, h1]; rfl) hv hx
        refine ⟨v', ?_, g2⟩
        simp only [resolve, hc, Sem.run_bind, Sem.run_pure, Result.andThen_ok, invoke, builtin, hargs]
        have : (#[x] : Array Operand).map ρ = #[ρ x] := by simp
        rw [this, g1]; rfl
      · cases hv
    · cases hv
/-- What was looked up is there still when the heap has more objects. -/
def AH.le (h h' : AH) : Prop := ∀ id o, h.t.get id = some o → h'.t.get id = some o
end Go.AI
