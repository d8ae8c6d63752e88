import Derived.Test.YtfjloafebkjadaaGreatDoorAIRun
/- Regions that draw their order: what the plan's run found. -/
namespace Go.AI
open Go.RowKit (Below)
variable {P : Program} {T : Tab} {X : Oracle} {w0 : World}

/-! ### A heap with more objects -/
theorem AH.le_refl (h : AH) : h.le h := fun _ _ e => e
theorem AH.le_trans {a b c : AH} (h : a.le b) (k : b.le c) : a.le c := fun id o e => k id o (h id o e)
theorem AH.le_new {h : AH} (o : AObj) (hn : h.t.get h.next = none) : h.le (h.new o).2 := by
  intro id x e
  simp only [AH.new]
  rw [Tree.get_put_ne]
  · exact e
  · rintro rfl; rw [hn] at e; cases e
theorem cellsOf_mono {h h2 : AH} (hl : h.le h2) {id : Nat} {cs : List AV} (e : cellsOf h id = some cs) : cellsOf h2 id = some cs := by
  unfold cellsOf at *
  split at e
  · rename_i hg; rw [hl _ _ hg]; exact e
  · cases e
theorem ownOf_mono {h h2 : AH} (hl : h.le h2) {id : Nat} {cs : List AV × TypeId} (e : ownOf h id = some cs) : ownOf h2 id = some cs := by
  unfold ownOf at *
  split at e
  · rename_i hg; rw [hl _ _ hg]; exact e
  · cases e
theorem entriesOf_mono {h h2 : AH} (hl : h.le h2) {id : Nat} {es : List AEntry × Nat} (e : entriesOf h id = some es) : entriesOf h2 id = some es := by
  unfold entriesOf at *
  split at e
  · rename_i hg; rw [hl _ _ hg]; exact e
  · cases e
theorem load_mono {h h2 : AH} (hl : h.le h2) {t : TypeId} {a v : AV} (e : aload T h t a = some v) : aload T h2 t a = some v := by
  cases a <;> simp only [aload] at e ⊢ <;> (try (exact e)) <;> (try (cases e; done))
  split at e
  · rename_i hc; rw [cellsOf_mono hl hc]; exact e
  · cases e
theorem bytes_mono {h h2 : AH} (hl : h.le h2) {a v : AV} (e : abytes h a = some v) : abytes h2 a = some v := by
  cases a <;> simp only [abytes] at e ⊢ <;> (try (exact e)) <;> (try (cases e; done))
  split at e
  · rename_i hc; rw [cellsOf_mono hl hc]; exact e
  · cases e
theorem unsafe_mono {h h2 : AH} (hl : h.le h2) {t : TypeId} {id off : Nat} {v : AV} (e : aunsafe T h t id off = some v) : aunsafe T h2 t id off = some v := by
  unfold aunsafe at *
  split at e
  · rename_i it cs el ro h1 h2
    rw [h1, hl _ _ h2]; exact e
  · cases e
theorem fromUnsafe_mono {h h2 : AH} (hl : h.le h2) {t : TypeId} {id off : Nat} {v : AV} (e : afromUnsafe T h t id off = some v) : afromUnsafe T h2 t id off = some v := by
  unfold afromUnsafe at *
  split at e
  · rename_i it cs el ro h1 h2
    rw [h1, hl _ _ h2]; exact e
  · cases e
theorem convert_mono {h h2 : AH} (hl : h.le h2) {s d : TypeId} {x v : AV} (e : aconvert T h s d x = some v) : aconvert T h2 s d x = some v := by
  unfold aconvert at *
  cases hs : T.tt.get s with
  | none => rw [hs] at e; cases e
  | some si =>
    rw [hs] at e
    dsimp only at e ⊢
    generalize descOf T d = dd at e ⊢
    cases dd <;> cases x <;> dsimp only at e ⊢ <;> (try (exact e)) <;> (try (cases e; done)) <;> first
    | (split at e
       · split at e
         · rename_i hb
           rw [if_pos hb]; exact bytes_mono hl e
         · cases e
       · cases e
       done)
    | (split at e
       · exact unsafe_mono hl e
       · cases e
       done)
    | (split at e
       · exact fromUnsafe_mono hl e
       · cases e)
theorem slice_mono {h h2 : AH} (hl : h.le h2) {t : TypeId} {x v : AV} {lo hi mx : Option AV} (e : aslice T h t x lo hi mx = some v) : aslice T h2 t x lo hi mx = some v := by
  unfold aslice at *
  generalize descOf T t = dd at e ⊢
  cases dd <;> cases x <;> dsimp only at e ⊢ <;> (try (exact e)) <;> (try (cases e; done))
  rename_i el id off len c0 ex
  cases ex
  · dsimp only at e ⊢
    split at e
    · rename_i ie cs el2 he ho
      rw [he, ownOf_mono hl ho]; exact e
    · cases e
  · exact e
theorem lookup_mono {h h2 : AH} (hl : h.le h2) {t : TypeId} {m k v : AV} {ok : Bool} (e : alookup T h t m k ok = some v) : alookup T h2 t m k ok = some v := by
  unfold alookup at *
  split at e
  · cases e
  · rename_i kd z hk
    cases m <;> dsimp only at e ⊢ <;> (try (exact e)) <;> (try (cases e; done))
    rename_i r
    cases he : entriesOf h r with
    | none => rw [he] at e; cases e
    | some q => rw [he] at e; rw [entriesOf_mono hl he]; exact e
theorem len_mono {h h2 : AH} (hl : h.le h2) {t : TypeId} {x v : AV} (e : alen T h t x = some v) : alen T h2 t x = some v := by
  unfold alen at *
  generalize descOf T t = dd at e ⊢
  cases dd <;> cases x <;> dsimp only at e ⊢ <;> (try (exact e)) <;> (try (cases e; done))
  rename_i r
  cases he : entriesOf h r with
  | none => rw [he] at e; cases e
  | some q => rw [he] at e; rw [entriesOf_mono hl he]; exact e
theorem quiet_mono {h h2 : AH} (hl : h.le h2) {env : Env} {o : Op} {v : AV} (e : aquiet T env h o = some v) : aquiet T env h2 o = some v := by
  cases o
  case load t a => exact load_mono hl e
  case convert s d x => exact convert_mono hl e
  case slice t x lo hi mx => exact slice_mono hl e
  case lookup t m k ok => exact lookup_mono hl e
  case makeFunc fn a b => cases fn <;> exact e
  case call c =>
    simp only [aquiet] at e ⊢
    split at e
    · split at e
      · exact len_mono hl e
      · cases e
    · exact e
    · exact e
    · exact e
    · exact e
    · cases e
  all_goals exact e
theorem WRel.le {γ : Emb} {h h2 : AH} {w : World} (hw : WRel T γ h w0 w) (hl : h.le h2) (hn : h.next ≤ h2.next) : WRel T γ h2 w0 w := by
  refine ⟨hw.below, fun id x e => by have := hw.dom _ _ e; omega, fun id b s K z e => ?_, hw.glob, fun i j b s K z s' K' z' e1 e2 hne hbb => ?_⟩
  · obtain ⟨o, h1, h3⟩ := hw.obj _ _ _ _ _ e
    exact ⟨o, hl _ _ h1, h3⟩
  · rcases hw.inj _ _ _ _ _ _ _ _ _ e1 e2 hne hbb with h8 | h8
    · exact .inl (hl _ _ h8)
    · exact .inr (hl _ _ h8)

/-! ### Looking again -/
mutual
theorem veq_sound : ∀ {a b : AV}, veq a b = true → a = b
  | .bool a, b, h => by cases b <;> simp_all [veq]
  | .int k n, b, h => by cases b <;> simp_all [veq]
  | .str s, b, h => by cases b <;> simp_all [veq]
  | .ptr i o, b, h => by cases b <;> simp_all [veq]
  | .glob i o, b, h => by cases b <;> simp_all [veq]
  | .nilPtr, b, h => by cases b <;> simp_all [veq]
  | .slice i o l c e, b, h => by cases b <;> simp_all [veq]
  | .nilSlice, b, h => by cases b <;> simp_all [veq]
  | .eslice, b, h => by cases b <;> simp_all [veq]
  | .map r, b, h => by cases b <;> simp_all [veq]
  | .nilMap, b, h => by cases b <;> simp_all [veq]
  | .func f c, b, h => by
    cases b <;> simp only [veq, Bool.and_eq_true, beq_iff_eq] at h <;> (try cases h; done)
    obtain ⟨h1, h2⟩ := h
    rw [h1, veqs_sound h2]
  | .meth f c, b, h => by
    cases b <;> simp only [veq, Bool.and_eq_true, beq_iff_eq] at h <;> (try cases h; done)
    obtain ⟨h1, h2⟩ := h
    rw [h1, veqs_sound h2]
  | .nilFunc, b, h => by cases b <;> simp_all [veq]
  | .iface t v, b, h => by
    cases b <;> simp only [veq, Bool.and_eq_true, beq_iff_eq] at h <;> (try cases h; done)
    obtain ⟨h1, h2⟩ := h
    rw [h1, veq_sound h2]
  | .nilIface, b, h => by cases b <;> simp_all [veq]
  | .agg a, b, h => by
    cases b <;> simp only [veq] at h <;> (try cases h; done)
    rw [veqs_sound h]
  | .tuple a, b, h => by
    cases b <;> simp only [veq] at h <;> (try cases h; done)
    rw [veqs_sound h]
  | .undef, b, h => by cases b <;> simp_all [veq]
theorem veqs_sound : ∀ {a b : List AV}, veqs a b = true → a = b
  | [], [], _ => rfl
  | [], _ :: _, h => by simp [veqs] at h
  | _ :: _, [], h => by simp [veqs] at h
  | a :: x, b :: y, h => by
    simp only [veqs, Bool.and_eq_true] at h
    rw [veq_sound h.1, veqs_sound h.2]
end
theorem oeq_sound {a b : AObj} (h : oeq a b = true) : a = b := by
  unfold oeq at h
  split at h
  · simp only [Bool.and_eq_true, beq_iff_eq] at h
    rw [veqs_sound h.1.1, h.1.2, h.2]
  · simp only [beq_iff_eq] at h; rw [h]
  · cases h

/-! ### The plan's run -/
inductive Chain (T : Tab) (X : Oracle) (k n : Nat) (ops : List Oper) : List PStep → Env → AH → List Rec → Env → AH → Prop
  | nil (env : Env) (h : AH) : Chain T X k n ops [] env h [] env h
  | skip {s : PStep} {rest : List PStep} {env env' e1 : Env} {h h1 : AH} {o : Oper} {rs : List Rec} (hl : lget ops s.idx = some o) (hg : guardOk env ops o = some false) (hp : putDst n env o.dst (.tuple []) = some env')
      (t : Chain T X k n ops rest env' h rs e1 h1) : Chain T X k n ops (s :: rest) env h (⟨s, o, env, h, false, .tuple [], h⟩ :: rs) e1 h1
  | go {s : PStep} {rest : List PStep} {env env' e1 : Env} {h h' h1 : AH} {o : Oper} {rs : List Rec} {v : AV} {j : Nat} (hl : lget ops s.idx = some o) (hg : guardOk env ops o = some true) (hj : j ≤ k) (ho : aop T X j env h o.op = some (v, h')) (hn : h.next ≤ h'.next)
      (hp : putDst n env o.dst v = some env') (t : Chain T X k n ops rest env' h' rs e1 h1) : Chain T X k n ops (s :: rest) env h (⟨s, o, env, h, true, v, h'⟩ :: rs) e1 h1
theorem Chain.mono {k k' n : Nat} {ops : List Oper} (hk : k ≤ k') {p : List PStep} {env e1 : Env} {h h1 : AH} {rs : List Rec} (c : Chain T X k n ops p env h rs e1 h1) : Chain T X k' n ops p env h rs e1 h1 := by
  induction c with
  | nil env h => exact .nil env h
  | skip hl hg hp _ ih => exact .skip hl hg hp ih
  | go hl hg hj ho hn hp _ ih => exact .go hl hg (Nat.le_trans hj hk) ho hn hp ih
theorem chain_of_run {n : Nat} {ops : List Oper} : ∀ {k : Nat} {p : List PStep} {env e1 : Env} {h h1 : AH} {rs : List Rec}, arun T X k n ops p env h = some (rs, e1, h1) → Chain T X k n ops p env h rs e1 h1
  | 0, p, env, e1, h, h1, rs, hr => by simp [arun] at hr
  | k + 1, [], env, e1, h, h1, rs, hr => by
    simp only [arun, Option.some.injEq, Prod.mk.injEq] at hr
    obtain ⟨rfl, rfl, rfl⟩ := hr
    exact .nil env h
  | k + 1, s :: rest, env, e1, h, h1, rs, hr => by
    unfold arun at hr
    split at hr
    · cases hr
    · rename_i o hl
      split at hr
      · cases hr
      · rename_i hg
        split at hr
        · rename_i env' hp
          split at hr
          · rename_i rs' e hrun
            cases hr
            exact .skip hl hg hp ((chain_of_run hrun).mono (by omega))
          · cases hr
        · cases hr
      · rename_i hg
        split at hr
        · rename_i v h' ho
          split at hr
          · cases hr
          · rename_i hn
            split at hr
            · rename_i env' hp
              split at hr
              · rename_i rs' e hrun
                cases hr
                exact .go hl hg (by omega) ho (by omega) hp ((chain_of_run hrun).mono (by omega))
              · cases hr
            · cases hr
        · cases hr
end Go.AI
