/- Regions that draw their order; the abstract machine is sound. -/
import Derived.Test.YtfjloafebkjadaaGreatDoorAIRun
/- Regions that draw their order: what the plan's run found. -/
namespace Go.AI
open Go.RowKit (Below)
variable {P : Program} {T : Tab} {X : Oracle} {w0 : World}

/-! ### A heap with more objects -/
theorem AH.le_refl (h : AH) : h.le h := fun _ _ e => e
theorem AH.le_trans {a b c : AH} (h : a.le b) (k : b.le c) : a.le c := fun id o e => k id o (h id o e)
theorem AH.le_new {h : AH} (o : AObj) (hn : h.t.get h.next = none) : h.le (h.new o).2 := by
  intro id x e
  simp only [AH.new]
  rw [Tree.get_put_ne]
  · exact e
  · rintro rfl; rw [hn] at e; cases e
theorem cellsOf_mono {h h2 : AH} (hl : h.le h2) {id : Nat} {cs : List AV} (e : cellsOf h id = some cs) : cellsOf h2 id = some cs := by
  unfold cellsOf at *
  split at e
  · rename_i hg; rw [hl _ _ hg]; exact e
  · cases e
theorem ownOf_mono {h h2 : AH} (hl : h.le h2) {id : Nat} {cs : List AV × TypeId} (e : ownOf h id = some cs) : ownOf h2 id = some cs := by
  unfold ownOf at *
  split at e
  · rename_i hg; rw [hl _ _ hg]; exact e
  · cases e
theorem entriesOf_mono {h h2 : AH} (hl : h.le h2) {id : Nat} {es : List AEntry × Nat} (e : entriesOf h id = some es) : entriesOf h2 id = some es := by
  unfold entriesOf at *
  split at e
  · rename_i hg; rw [hl _ _ hg]; exact e
  · cases e
theorem load_mono {h h2 : AH} (hl : h.le h2) {t : TypeId} {a v : AV} (e : aload T h t a = some v) : aload T h2 t a = some v := by
  cases a <;> simp only [aload] at e ⊢ <;> (try (exact e)) <;> (try (cases e; done))
  split at e
  · rename_i hc; rw [cellsOf_mono hl hc]; exact e
  · cases e
theorem bytes_mono {h h2 : AH} (hl : h.le h2) {a v : AV} (e : abytes h a = some v) : abytes h2 a = some v := by
  cases a <;> simp only [abytes] at e ⊢ <;> (try (exact e)) <;> (try (cases e; done))
  split at e
  · rename_i hc; rw [cellsOf_mono hl hc]; exact e
  · cases e
theorem unsafe_mono {h h2 : AH} (hl : h.le h2) {t : TypeId} {id off : Nat} {v : AV} (e : aunsafe T h t id off = some v) : aunsafe T h2 t id off = some v := by
  unfold aunsafe at *
  split at e
  · rename_i it cs el ro h1 h2
    rw [h1, hl _ _ h2]; exact e
  · cases e
theorem fromUnsafe_mono {h h2 : AH} (hl : h.le h2) {t : TypeId} {id off : Nat} {v : AV} (e : afromUnsafe T h t id off = some v) : afromUnsafe T h2 t id off = some v := by
  unfold afromUnsafe at *
  split at e
  · rename_i it cs el ro h1 h2
    rw [h1, hl _ _ h2]; exact e
  · cases e
theorem convert_mono {h h2 : AH} (hl : h.le h2) {s d : TypeId} {x v : AV} (e : aconvert T h s d x = some v) : aconvert T h2 s d x = some v := by
  unfold aconvert at *
  cases hs : T.tt.get s with
  | none => rw [hs] at e; cases e
  | some si =>
    rw [hs] at e
    dsimp only at e ⊢
    generalize descOf T d = dd at e ⊢
    cases dd <;> cases x <;> dsimp only at e ⊢ <;> (try (exact e)) <;> (try (cases e; done)) <;> first
    | (split at e
       · split at e
         · rename_i hb
           rw [if_pos hb]; exact bytes_mono hl e
         · cases e
       · cases e
       done)
    | (split at e
       · exact unsafe_mono hl e
       · cases e
       done)
    | (split at e
       · exact fromUnsafe_mono hl e
       · cases e)
theorem slice_mono {h h2 : AH} (hl : h.le h2) {t : TypeId} {x v : AV} {lo hi mx : Option AV} (e : aslice T h t x lo hi mx = some v) : aslice T h2 t x lo hi mx = some v := by
  unfold aslice at *
  generalize descOf T t = dd at e ⊢
  cases dd <;> cases x <;> dsimp only at e ⊢ <;> (try (exact e)) <;> (try (cases e; done))
  rename_i el id off len c0 ex
  cases ex
  · dsimp only at e ⊢
    split at e
    · rename_i ie cs el2 he ho
      rw [he, ownOf_mono hl ho]; exact e
    · cases e
  · exact e
theorem lookup_mono {h h2 : AH} (hl : h.le h2) {t : TypeId} {m k v : AV} {ok : Bool} (e : alookup T h t m k ok = some v) : alookup T h2 t m k ok = some v := by
  unfold alookup at *
  split at e
  · cases e
  · rename_i kd z hk
    cases m <;> dsimp only at e ⊢ <;> (try (exact e)) <;> (try (cases e; done))
    rename_i r
    cases he : entriesOf h r with
    | none => rw [he] at e; cases e
    | some q => rw [he] at e; rw [entriesOf_mono hl he]; exact e
theorem len_mono {h h2 : AH} (hl : h.le h2) {t : TypeId} {x v : AV} (e : alen T h t x = some v) : alen T h2 t x = some v := by
  unfold alen at *
  generalize descOf T t = dd at e ⊢
  cases dd <;> cases x <;> dsimp only at e ⊢ <;> (try (exact e)) <;> (try (cases e; done))
  rename_i r
  cases he : entriesOf h r with
  | none => rw [he] at e; cases e
  | some q => rw [he] at e; rw [entriesOf_mono hl he]; exact e
theorem quiet_mono {h h2 : AH} (hl : h.le h2) {env : Env} {o : Op} {v : AV} (e : aquiet T env h o = some v) : aquiet T env h2 o = some v := by
  cases o
  case load t a => exact load_mono hl e
  case convert s d x => exact convert_mono hl e
  case slice t x lo hi mx => exact slice_mono hl e
  case lookup t m k ok => exact lookup_mono hl e
  case makeFunc fn a b => cases fn <;> exact e
  case call c =>
    simp only [aquiet] at e ⊢
    split at e
    · split at e
      · exact len_mono hl e
      · cases e
    · exact e
    · exact e
    · exact e
    · exact e
    · cases e
  all_goals exact e
theorem WRel.le {γ : Emb} {h h2 : AH} {w : World} (hw : WRel T γ h w0 w) (hl : h.le h2) (hn : h.next ≤ h2.next) : WRel T γ h2 w0 w := by
  refine ⟨hw.below, fun id x e => by have := hw.dom _ _ e; omega, fun id b s K z e => ?_, hw.glob, fun i j b s K z s' K' z' e1 e2 hne hbb => ?_⟩
  · obtain ⟨o, h1, h3⟩ := hw.obj _ _ _ _ _ e
    exact ⟨o, hl _ _ h1, h3⟩
  · rcases hw.inj _ _ _ _ _ _ _ _ _ e1 e2 hne hbb with h8 | h8
    · exact .inl (hl _ _ h8)
    · exact .inr (hl _ _ h8)

/-! ### Looking again -/
mutual
theorem veq_sound : ∀ {a b : AV}, veq a b = true → a = b
  | .bool a, b, h => by cases b <;> simp_all [veq]
  | .int k n, b, h => by cases b <;> simp_all [veq]
  | .str s, b, h => by cases b <;> simp_all [veq]
  | .ptr i o, b, h => by cases b <;> simp_all [veq]
  | .glob i o, b, h => by cases b <;> simp_all [veq]
  | .nilPtr, b, h => by cases b <;> simp_all [veq]
  | .slice i o l c e, b, h => by cases b <;> simp_all [veq]
  | .nilSlice, b, h => by cases b <;> simp_all [veq]
  | .eslice, b, h => by cases b <;> simp_all [veq]
  | .map r, b, h => by cases b <;> simp_all [veq]
  | .nilMap, b, h => by cases b <;> simp_all [veq]
  | .func f c, b, h => by
    cases b <;> simp only [veq, Bool.and_eq_true, beq_iff_eq] at h <;> (try cases h; done)
    obtain ⟨h1, h2⟩ := h
    rw [h1, veqs_sound h2]
  | .meth f c, b, h => by
    cases b <;> simp only [veq, Bool.and_eq_true, beq_iff_eq] at h <;> (try cases h; done)
    obtain ⟨h1, h2⟩ := h
    rw [h1, veqs_sound h2]
  | .nilFunc, b, h => by cases b <;> simp_all [veq]
  | .iface t v, b, h => by
    cases b <;> simp only [veq, Bool.and_eq_true, beq_iff_eq] at h <;> (try cases h; done)
    obtain ⟨h1, h2⟩ := h
    rw [h1, veq_sound h2]
  | .nilIface, b, h => by cases b <;> simp_all [veq]
  | .agg a, b, h => by
    cases b <;> simp only [veq] at h <;> (try cases h; done)
    rw [veqs_sound h]
  | .tuple a, b, h => by
    cases b <;> simp only [veq] at h <;> (try cases h; done)
    rw [veqs_sound h]
  | .undef, b, h => by cases b <;> simp_all [veq]
theorem veqs_sound : ∀ {a b : List AV}, veqs a b = true → a = b
  | [], [], _ => rfl
  | [], _ :: _, h => by simp [veqs] at h
  | _ :: _, [], h => by simp [veqs] at h
  | a :: x, b :: y, h => by
    simp only [veqs, Bool.and_eq_true] at h
    rw [veq_sound h.1, veqs_sound h.2]
end
theorem oeq_sound {a b : AObj} (h : oeq a b = true) : a = b := by
  unfold oeq at h
  split at h
  · simp only [Bool.and_eq_true, beq_iff_eq] at h
    rw [veqs_sound h.1.1, h.1.2, h.2]
  · simp only [beq_iff_eq] at h; rw [h]
  · cases h

/-! ### The plan's run -/
inductive Chain (T : Tab) (X : Oracle) (k n : Nat) (ops : List Oper) : List PStep → Env → AH → List Rec → Env → AH → Prop
  | nil (env : Env) (h : AH) : Chain T X k n ops [] env h [] env h
  | skip {s : PStep} {rest : List PStep} {env env' e1 : Env} {h h1 : AH} {o : Oper} {rs : List Rec} (hl : lget ops s.idx = some o) (hg : guardOk env ops o = some false) (hp : putDst n env o.dst (.tuple []) = some env')
      (t : Chain T X k n ops rest env' h rs e1 h1) : Chain T X k n ops (s :: rest) env h (⟨s, o, env, h, false, .tuple [], h⟩ :: rs) e1 h1
  | go {s : PStep} {rest : List PStep} {env env' e1 : Env} {h h' h1 : AH} {o : Oper} {rs : List Rec} {v : AV} {j : Nat} (hl : lget ops s.idx = some o) (hg : guardOk env ops o = some true) (hj : j ≤ k) (ho : aop T X j env h o.op = some (v, h')) (hn : h.next ≤ h'.next)
      (hp : putDst n env o.dst v = some env') (t : Chain T X k n ops rest env' h' rs e1 h1) : Chain T X k n ops (s :: rest) env h (⟨s, o, env, h, true, v, h'⟩ :: rs) e1 h1
theorem Chain.mono {k k' n : Nat} {ops : List Oper} (hk : k ≤ k') {p : List PStep} {env e1 : Env} {h h1 : AH} {rs : List Rec} (c : Chain T X k n ops p env h rs e1 h1) : Chain T X k' n ops p env h rs e1 h1 := by
  induction c with
  | nil env h => exact .nil env h
  | skip hl hg hp _ ih => exact .skip hl hg hp ih
  | go hl hg hj ho hn hp _ ih => exact .go hl hg (Nat.le_trans hj hk) ho hn hp ih
theorem chain_of_run {n : Nat} {ops : List Oper} : ∀ {k : Nat} {p : List PStep} {env e1 : Env} {h h1 : AH} {rs : List Rec}, arun T X k n ops p env h = some (rs, e1, h1) → Chain T X k n ops p env h rs e1 h1
  | 0, p, env, e1, h, h1, rs, hr => by simp [arun] at hr
  | k + 1, [], env, e1, h, h1, rs, hr => by
    simp only [arun, Option.some.injEq, Prod.mk.injEq] at hr
    obtain ⟨rfl, rfl, rfl⟩ := hr
    exact .nil env h
  | k + 1, s :: rest, env, e1, h, h1, rs, hr => by
    unfold arun at hr
    split at hr
    · cases hr
    · rename_i o hl
      split at hr
      · cases hr
      · rename_i hg
        split at hr
        · rename_i env' hp
          split at hr
          · rename_i rs' e hrun
            cases hr
            exact .skip hl hg hp ((chain_of_run hrun).mono (by omega))
          · cases hr
        · cases hr
      · rename_i hg
        split at hr
        · rename_i v h' ho
          split at hr
          · cases hr
          · rename_i hn
            split at hr
            · rename_i env' hp
              split at hr
              · rename_i rs' e hrun
                cases hr
                exact .go hl hg (by omega) ho (by omega) hp ((chain_of_run hrun).mono (by omega))
              · cases hr
            · cases hr
        · cases hr
end Go.AI
/- Regions that draw their order: the facts of a plan and of its run. -/
namespace Go.AI
open Go.RowKit (Below)
variable {P : Program} {T : Tab} {X : Oracle} {w0 : World} {k n : Nat} {ops : List Oper}

theorem chain_steps {p : List PStep} {env e1 : Env} {h h1 : AH} {rs : List Rec} (c : Chain T X k n ops p env h rs e1 h1) : rs.map (·.s) = p ∧ ∀ r ∈ rs, lget ops r.s.idx = some r.o := by
  induction c with
  | nil => simp
  | skip hl hg hp _ ih => exact ⟨by simp [ih.1], fun r hr => by rcases List.mem_cons.1 hr with rfl | hr; exact hl; exact ih.2 r hr⟩
  | go hl hg hj ho hn hp _ ih => exact ⟨by simp [ih.1], fun r hr => by rcases List.mem_cons.1 hr with rfl | hr; exact hl; exact ih.2 r hr⟩

/-- What a step did. -/
def StepFact (T : Tab) (X : Oracle) (k n : Nat) (ops : List Oper) (r : Rec) (env2 : Env) : Prop :=
  putDst n r.env r.o.dst r.v = some env2 ∧ r.h.next ≤ r.h'.next ∧
  ((r.go = false ∧ guardOk r.env ops r.o = some false ∧ r.v = .tuple [] ∧ r.h' = r.h) ∨
   (r.go = true ∧ guardOk r.env ops r.o = some true ∧ ∃ j, j ≤ k ∧ aop T X j r.env r.h r.o.op = some (r.v, r.h')))
theorem chain_at {p : List PStep} {env e1 : Env} {h h1 : AH} {rs : List Rec} (c : Chain T X k n ops p env h rs e1 h1) : ∀ {i : Nat} {r : Rec}, rs[i]? = some r → ∃ env2, StepFact T X k n ops r env2 ∧ Chain T X k n ops (p.drop (i + 1)) env2 r.h' (rs.drop (i + 1)) e1 h1 := by
  induction c with
  | nil => intro i r hr; simp at hr
  | skip hl hg hp t ih =>
    intro i r hr
    cases i with
    | zero => simp at hr; subst hr; exact ⟨_, ⟨hp, Nat.le_refl _, .inl ⟨rfl, hg, rfl, rfl⟩⟩, t⟩
    | succ i => simp at hr; obtain ⟨e2, g1, g2⟩ := ih hr; exact ⟨e2, g1, by simpa using g2⟩
  | go hl hg hj ho hn hp t ih =>
    intro i r hr
    cases i with
    | zero => simp at hr; subst hr; exact ⟨_, ⟨hp, hn, .inr ⟨rfl, hg, _, hj, ho⟩⟩, t⟩
    | succ i => simp at hr; obtain ⟨e2, g1, g2⟩ := ih hr; exact ⟨e2, g1, by simpa using g2⟩

/-! Heaps -/
def effs (rs : List Rec) : List Rec := rs.filter (·.s.eff)
def HPl : List Rec → AH → Nat → AH
  | [], hF, _ => hF
  | r :: rs, hF, j => if r.s.eff then (match j with | 0 => r.h | j + 1 => HPl rs hF j) else HPl rs hF j
def Flag (T : Tab) (rs : List Rec) : Prop := ∀ r ∈ rs, r.s.eff = decide (kindOf T r.o.op = .eff)
theorem aop_le {j : Nat} {env : Env} {h h' : AH} {o : Op} {v : AV} (ho : aop T X j env h o = some (v, h')) (hne : kindOf T o ≠ .eff) : h.le h' := by
  cases j with
  | zero => simp [aop] at ho
  | succ j =>
    unfold aop at ho
    split at ho
    · split at ho
      · cases ho; exact AH.le_refl _
      · cases ho
    · split at ho
      · rename_i b mk hb hn; cases ho; exact AH.le_new _ hn
      · cases ho
    · rename_i hk; exact absurd hk hne
theorem step_le {r : Rec} {env2 : Env} (hf : StepFact T X k n ops r env2) (he : r.s.eff = decide (kindOf T r.o.op = .eff)) (hne : r.s.eff = false) : r.h.le r.h' := by
  obtain ⟨_, _, h1 | ⟨_, _, j, _, ho⟩⟩ := hf
  · rw [h1.2.2.2]; exact AH.le_refl _
  · exact aop_le ho (by rw [he] at hne; simpa using hne)
theorem chain_grow {p : List PStep} {env e1 : Env} {h h1 : AH} {rs : List Rec} (c : Chain T X k n ops p env h rs e1 h1) (hf : Flag T rs) : h.le (HPl rs h1 0) ∧ h.next ≤ (HPl rs h1 0).next := by
  induction c with
  | nil => exact ⟨AH.le_refl _, Nat.le_refl _⟩
  | @skip s rest env env' e1 h h1 o rs hl hg hp t ih =>
    have ih' := ih fun r hr => hf r (List.mem_cons_of_mem _ hr)
    simp only [HPl]
    split
    · exact ⟨AH.le_refl _, Nat.le_refl _⟩
    · exact ih'
  | @go s rest env env' e1 h h' h1 o rs v j hl hg hj ho hn hp t ih =>
    have ih' := ih fun r hr => hf r (List.mem_cons_of_mem _ hr)
    have he := hf ⟨s, o, env, h, true, v, h'⟩ (by simp)
    have hsf : StepFact T X k n ops ⟨s, o, env, h, true, v, h'⟩ env' := ⟨hp, hn, .inr ⟨rfl, hg, j, hj, ho⟩⟩
    simp only [HPl]
    split
    · exact ⟨AH.le_refl _, Nat.le_refl _⟩
    · rename_i hne
      have := step_le hsf he (by simpa using hne)
      exact ⟨AH.le_trans this ih'.1, Nat.le_trans hn ih'.2⟩
theorem chain_next {p : List PStep} {env e1 : Env} {h h1 : AH} {rs : List Rec} (c : Chain T X k n ops p env h rs e1 h1) : ∀ r ∈ rs, h.next ≤ r.h.next ∧ r.h.next ≤ r.h'.next := by
  induction c with
  | nil => intro r hr; cases hr
  | skip hl hg hp t ih =>
    intro r hr
    rcases List.mem_cons.1 hr with rfl | hr
    · exact ⟨Nat.le_refl _, Nat.le_refl _⟩
    · exact ih r hr
  | go hl hg hj ho hn hp t ih =>
    intro r hr
    rcases List.mem_cons.1 hr with rfl | hr
    · exact ⟨Nat.le_refl _, hn⟩
    · have := ih r hr; exact ⟨Nat.le_trans hn this.1, this.2⟩
theorem HPl_at : ∀ {rs : List Rec} {hF : AH} {i : Nat} (j : Nat), i ≤ rs.length → HPl rs hF ((effs (rs.take i)).length + j) = HPl (rs.drop i) hF j
  | rs, hF, 0, j, _ => by simp [effs]
  | [], hF, i + 1, j, h => by simp at h
  | r :: rs, hF, i + 1, j, h => by
    simp only [List.take_succ_cons, List.drop_succ_cons, HPl]
    have ih := HPl_at (rs := rs) (hF := hF) (i := i) j (by simpa using h)
    cases he : r.s.eff
    · simp only [effs, List.filter_cons, he, Bool.false_eq_true, if_false]; exact ih
    · simp only [effs, List.filter_cons, he, if_true, List.length_cons]
      have : (effs (rs.take i)).length + 1 + j = ((effs (rs.take i)).length + j) + 1 := by omega
      simp only [effs] at this ih
      rw [this]; exact ih
theorem HPl_end : ∀ {rs : List Rec} {hF : AH} {j : Nat}, (effs rs).length ≤ j → HPl rs hF j = hF
  | [], _, _, _ => rfl
  | r :: rs, hF, j, h => by
    simp only [HPl]
    cases he : r.s.eff
    · simp only [effs, List.filter_cons, he, Bool.false_eq_true, if_false] at h ⊢
      exact HPl_end h
    · simp only [effs, List.filter_cons, he, if_true, List.length_cons] at h ⊢
      cases j with
      | zero => omega
      | succ j => exact HPl_end (by simpa [effs] using h)
theorem eff_nth {p : List PStep} {env e1 : Env} {h h1 : AH} {rs : List Rec} (c : Chain T X k n ops p env h rs e1 h1) (hf : Flag T rs) : ∀ {i : Nat} {e : Rec}, (effs rs)[i]? = some e → e.h'.le (HPl rs h1 (i + 1)) ∧ e.h'.next ≤ (HPl rs h1 (i + 1)).next := by
  induction c with
  | nil => intro i e he; simp [effs] at he
  | @skip s rest env env' e1 h h1 o rs hl hg hp t ih =>
    intro i e he
    have hf' : Flag T rs := fun r hr => hf r (List.mem_cons_of_mem _ hr)
    simp only [effs, List.filter_cons] at he
    simp only [HPl]
    split at he
    · rename_i hs
      rw [if_pos hs]
      cases i with
      | zero => simp at he; subst he; exact chain_grow t hf'
      | succ i => simp at he; exact ih hf' he
    · rename_i hs
      rw [if_neg hs]; exact ih hf' he
  | @go s rest env env' e1 h h' h1 o rs v j hl hg hj ho hn hp t ih =>
    intro i e he
    have hf' : Flag T rs := fun r hr => hf r (List.mem_cons_of_mem _ hr)
    simp only [effs, List.filter_cons] at he
    simp only [HPl]
    split at he
    · rename_i hs
      rw [if_pos hs]
      cases i with
      | zero => simp at he; subst he; exact chain_grow t hf'
      | succ i => simp at he; exact ih hf' he
    · rename_i hs
      rw [if_neg hs]; exact ih hf' he

/-! Slots -/
def Apart (rs : List Rec) : Prop := ∀ (i j : Nat) (r q : Rec), rs[i]? = some r → rs[j]? = some q → i < j → ∀ d, r.o.dst = some d → q.o.dst ≠ some d
theorem put_at {env env' : Env} {dst : Option Tmp} {v : AV} (hp : putDst n env dst v = some env') (t : Tmp) : Env.at env' t = if dst = some t then v else Env.at env t := by
  cases dst with
  | none => simp only [putDst, Option.some.injEq] at hp; subst hp; simp
  | some d =>
    simp only [putDst] at hp
    split at hp
    · cases hp
      rw [Env.at_put]
      by_cases e : t = d
      · subst e; simp
      · rw [if_neg e, if_neg (by simp; exact fun h => e h.symm)]
    · cases hp
def envAt (rs : List Rec) (e1 : Env) (i : Nat) : Env := match rs[i]? with | some r => r.env | none => e1
theorem chain_env {p : List PStep} {env e1 : Env} {h h1 : AH} {rs : List Rec} (c : Chain T X k n ops p env h rs e1 h1) (hd : Apart rs) : ∀ {i : Nat}, i ≤ rs.length → ∀ t,
    ((∀ r ∈ rs.take i, r.o.dst ≠ some t) → Env.at (envAt rs e1 i) t = Env.at env t) ∧ (∀ r ∈ rs.take i, r.o.dst = some t → Env.at (envAt rs e1 i) t = r.v) := by
  have core : ∀ {s : Rec} {rs : List Rec} {env env' e1 : Env}, Apart (s :: rs) → s.env = env → putDst n env s.o.dst s.v = some env' →
      (∀ {i : Nat}, i ≤ rs.length → ∀ t, ((∀ r ∈ rs.take i, r.o.dst ≠ some t) → Env.at (envAt rs e1 i) t = Env.at env' t) ∧ (∀ r ∈ rs.take i, r.o.dst = some t → Env.at (envAt rs e1 i) t = r.v)) →
      ∀ {i : Nat}, i ≤ (s :: rs).length → ∀ t, ((∀ r ∈ (s :: rs).take i, r.o.dst ≠ some t) → Env.at (envAt (s :: rs) e1 i) t = Env.at env t) ∧ (∀ r ∈ (s :: rs).take i, r.o.dst = some t → Env.at (envAt (s :: rs) e1 i) t = r.v) := by
    intro s rs env env' e1 hd he hp ih i hi t
    cases i with
    | zero => simp [envAt, he]
    | succ i =>
      have e : envAt (s :: rs) e1 (i + 1) = envAt rs e1 i := by simp [envAt]
      rw [e]
      obtain ⟨h1, h2⟩ := ih (i := i) (by simpa using hi) t
      have hput := put_at hp t
      refine ⟨fun hn => ?_, fun r hr hdst => ?_⟩
      · rw [h1 fun r hr => hn r (by simp [hr]), hput, if_neg (hn s (by simp))]
      · rw [List.take_succ_cons] at hr
        rcases List.mem_cons.1 hr with rfl | hr
        · rw [h1 ?_, hput, if_pos hdst]
          intro q hq hqd
          obtain ⟨j, hj, rfl⟩ := List.getElem_of_mem hq
          have hj' : j < rs.length := by simp at hj; omega
          refine hd 0 (j + 1) r rs[j] (by simp) (by simp [hj']) (by omega) t hdst ?_
          simpa using hqd
        · exact h2 r hr hdst
  induction c with
  | nil env h => intro i hi t; have : i = 0 := by simpa using hi
                 subst this; simp [envAt]
  | @skip s rest env env' e1 h h1 o rs hl hg hp t ih =>
    refine @core _ _ _ _ _ hd rfl hp (ih fun i j r q hr hq hij => hd (i + 1) (j + 1) r q (by simpa using hr) (by simpa using hq) (by omega))
  | @go s rest env env' e1 h h' h1 o rs v j hl hg hj ho hn hp t ih =>
    refine @core _ _ _ _ _ hd rfl hp (ih fun i j r q hr hq hij => hd (i + 1) (j + 1) r q (by simpa using hr) (by simpa using hq) (by omega))
theorem recheck_at : ∀ {rs : List Rec}, recheck T rs = true → ∀ {i : Nat} {r : Rec}, rs[i]? = some r → r.s.eff = false → ∀ {j : Nat} {e : Rec}, (effs (rs.drop (i + 1)))[j]? = some e → j < r.s.hi - r.s.lo → again T r e.h' = true
  | [], _, i, r, h, _, _, _, _, _ => by simp at h
  | x :: rs, hr, 0, r, h, hne, j, e, he, hj => by
    simp at h; subst h
    simp only [recheck, Bool.and_eq_true, Bool.or_eq_true, hne, Bool.false_eq_true, false_or] at hr
    have := List.all_eq_true.1 hr.1 e (by
      rw [List.drop_succ_cons, List.drop_zero] at he
      refine List.mem_of_getElem? (i := j) ?_
      rw [List.getElem?_take, if_pos hj]; exact he)
    exact this
  | x :: rs, hr, i + 1, r, h, hne, j, e, he, hj => by
    simp only [recheck, Bool.and_eq_true] at hr
    exact recheck_at hr.2 (by simpa using h) hne (by simpa using he) hj
end Go.AI
/- Regions that draw their order: whatever order comes up, the plan's run stands for it. -/
namespace Go.AI
open Go.RowKit (Below)
variable {P : Program} {T : Tab} {X : Oracle} {w0 : World} {k n m : Nat} {ops : List Oper}

theorem okFrom_at : ∀ {l prev : List PStep}, okFrom T ops m prev l = true → ∀ {i : Nat} {s : PStep}, l[i]? = some s → okStep T ops m (prev ++ l.take i) s (l.drop (i + 1)) = true
  | [], _, _, i, s, h => by simp at h
  | x :: l, prev, hf, 0, s, h => by
    simp at h; subst h
    simp only [okFrom, Bool.and_eq_true] at hf
    simpa using hf.1
  | x :: l, prev, hf, i + 1, s, h => by
    simp only [okFrom, Bool.and_eq_true] at hf
    have := okFrom_at hf.2 (i := i) (s := s) (by simpa using h)
    simpa using this
structure RecFacts (T : Tab) (ops : List Oper) (m : Nat) (rs : List Rec) (i : Nat) (r : Rec) : Prop where
  op : ops[r.s.idx]? = some r.o
  edges : ∀ e ∈ edges r.o, ∃ (q : Nat) (r' : Rec), q < i ∧ rs[q]? = some r' ∧ r'.s.idx = e
  idx : ∀ (q : Nat) (r' : Rec), q < i → rs[q]? = some r' → r'.s.idx ≠ r.s.idx
  flag : r.s.eff = decide (kindOf T r.o.op = .eff)
  lo : r.s.lo = (effs (rs.take i)).length
  via : r.s.lo = 0 ∨ ∃ e ∈ Go.AI.edges r.o, ∃ (q : Nat) (r' : Rec), q < i ∧ rs[q]? = some r' ∧ r'.s.idx = e ∧ r'.s.post = r.s.lo
  dst : ∀ (q : Nat) (r' : Rec) d, q < i → rs[q]? = some r' → r.o.dst = some d → r'.o.dst ≠ some d
  looks : ∀ t ∈ looks ops r.o, ∀ (p : Nat) (o' : Oper), ops[p]? = some o' → o'.dst = some t → p ∈ Go.AI.edges r.o ∨ r.s.idx ∈ Go.AI.edges o'
  hi : r.s.eff = true ∨ r.s.hi = m ∨ ∃ (q : Nat) (r' : Rec), i < q ∧ rs[q]? = some r' ∧ r'.s.cap = r.s.hi ∧ r.s.idx ∈ Go.AI.edges r'.o
theorem any_take {rs : List Rec} {i : Nat} {f : PStep → Bool} (h : ((rs.map (·.s)).take i).any f = true) : ∃ (q : Nat) (r' : Rec), q < i ∧ rs[q]? = some r' ∧ f r'.s = true := by
  obtain ⟨s, hs, hf⟩ := List.any_eq_true.1 h
  obtain ⟨q, hq, rfl⟩ := List.getElem_of_mem hs
  simp at hq
  refine ⟨q, rs[q]'(by omega), by omega, by simp, ?_⟩
  simpa using hf
theorem any_drop {rs : List Rec} {i : Nat} {f : PStep → Bool} (h : ((rs.map (·.s)).drop (i + 1)).any f = true) : ∃ (q : Nat) (r' : Rec), i < q ∧ rs[q]? = some r' ∧ f r'.s = true := by
  obtain ⟨s, hs, hf⟩ := List.any_eq_true.1 h
  obtain ⟨q, hq, rfl⟩ := List.getElem_of_mem hs
  simp at hq
  refine ⟨i + 1 + q, rs[i + 1 + q]'(by omega), by omega, by simp, ?_⟩
  simpa using hf
theorem recFacts {rs : List Rec} (hl : ∀ r ∈ rs, lget ops r.s.idx = some r.o) (hf : okFrom T ops m [] (rs.map (·.s)) = true) {i : Nat} {r : Rec} (hr : rs[i]? = some r) : RecFacts T ops m rs i r := by
  have h0 := okFrom_at hf (i := i) (s := r.s) (by simp [hr])
  rw [List.nil_append] at h0
  have hop := hl r (List.mem_of_getElem? hr)
  unfold okStep at h0
  rw [hop] at h0
  simp only [Bool.and_eq_true] at h0
  obtain ⟨⟨⟨⟨⟨⟨⟨⟨⟨a1, a2⟩, a3⟩, a4⟩, a5⟩, a6⟩, a7⟩, a8⟩, a9⟩, _⟩ := h0
  refine ⟨by rw [lget_eq] at hop; exact hop, fun e he => ?_, fun q r' hq hr' heq => ?_, by simpa using a3, ?_, ?_, fun q r' d hq hr' hd => ?_, fun t ht p o' hp ho' => ?_, ?_⟩
  · have := List.all_eq_true.1 a1 e he
    obtain ⟨q, r', h1, h2, h3⟩ := any_take this
    exact ⟨q, r', h1, h2, by simpa using h3⟩
  · simp only [Bool.not_eq_true', List.any_eq_false] at a2
    have hm : r'.s ∈ (rs.map (·.s)).take i := by
      refine List.mem_of_getElem? (i := q) ?_
      rw [List.getElem?_take, if_pos hq]; simp [hr']
    exact a2 _ hm (by simpa using heq)
  · simp only [beq_iff_eq] at a4
    rw [a4, phases, ← List.map_take, List.filter_map, List.length_map]; rfl
  · simp only [Bool.or_eq_true, beq_iff_eq] at a5
    rcases a5 with a5 | a5
    · exact .inl a5
    · obtain ⟨e, he, hany⟩ := List.any_eq_true.1 a5
      obtain ⟨q, r', h1, h2, h3⟩ := any_take hany
      simp only [Bool.and_eq_true, beq_iff_eq] at h3
      exact .inr ⟨e, he, q, r', h1, h2, h3.1, h3.2⟩
  · rw [hd] at a6
    have hm : r'.s ∈ (rs.map (·.s)).take i := by
      refine List.mem_of_getElem? (i := q) ?_
      rw [List.getElem?_take, if_pos hq]; simp [hr']
    have := List.all_eq_true.1 a6 _ hm
    rw [hl r' (List.mem_of_getElem? hr')] at this
    simpa using this
  · have h1 := List.all_eq_true.1 a7 t ht
    have hm : (o', p) ∈ ops.zipIdx := by
      obtain ⟨hlt, rfl⟩ := List.getElem?_eq_some_iff.1 hp
      exact List.mem_zipIdx_iff_getElem?.2 (by simp)
    have h2 := List.all_eq_true.1 h1 _ hm
    simp only [Bool.or_eq_true, bne_iff_ne, ne_eq] at h2
    rcases h2 with (h2 | h2) | h2
    · exact absurd ho' h2
    · exact .inl (by simpa using h2)
    · exact .inr (by simpa using h2)
  · simp only [Bool.or_eq_true, beq_iff_eq] at a9
    rcases a9 with (a9 | a9) | a9
    · exact .inl a9
    · exact .inr (.inl a9)
    · obtain ⟨q, r', h1, h2, h3⟩ := any_drop a9
      simp only [Bool.and_eq_true, beq_iff_eq] at h3
      rw [hl r' (List.mem_of_getElem? h2)] at h3
      exact .inr (.inr ⟨q, r', h1, h2, h3.1, by simpa using h3.2⟩)

/-- All that is known of a plan's run. -/
structure Run (P : Program) (T : Tab) (X : Oracle) (k n : Nat) (ops : List Oper) (rs : List Rec) (env0 : Env) (h0 : AH) (e1 : Env) (hF : AH) : Prop where
  chain : Chain T X k n ops (rs.map (·.s)) env0 h0 rs e1 hF
  facts : ∀ (i : Nat) (r : Rec), rs[i]? = some r → RecFacts T ops (effs rs).length rs i r
  all : ∀ i, i < ops.length → ∃ (p : Nat) (r : Rec), rs[p]? = some r ∧ r.s.idx = i
  re : recheck T rs = true
variable {rs : List Rec} {env0 e1 : Env} {h0 hF : AH}
theorem Run.flag (R : Run P T X k n ops rs env0 h0 e1 hF) : Flag T rs := fun r hr => by
  obtain ⟨i, hi, rfl⟩ := List.getElem_of_mem hr
  exact (R.facts i _ (by simp)).flag
theorem Run.apart (R : Run P T X k n ops rs env0 h0 e1 hF) : Apart rs := fun i j r q hr hq hij d hd hqd => (R.facts j q hq).dst i r d hij hr hqd hd
theorem Run.uniq (R : Run P T X k n ops rs env0 h0 e1 hF) {i j : Nat} {r q : Rec} (hr : rs[i]? = some r) (hq : rs[j]? = some q) (e : r.s.idx = q.s.idx) : i = j := by
  rcases Nat.lt_trichotomy i j with h | h | h
  · exact absurd e ((R.facts j q hq).idx i r h hr)
  · exact h
  · exact absurd e.symm ((R.facts i r hr).idx j q h hq)
theorem Run.eff_heap (R : Run P T X k n ops rs env0 h0 e1 hF) {i : Nat} {r : Rec} (hr : rs[i]? = some r) (he : r.s.eff = true) : HPl rs hF r.s.lo = r.h ∧ r.h'.le (HPl rs hF (r.s.lo + 1)) ∧ r.h'.next ≤ (HPl rs hF (r.s.lo + 1)).next := by
  have hlo := (R.facts i r hr).lo
  obtain ⟨hlt, hget⟩ := List.getElem?_eq_some_iff.1 hr
  have hdrop : rs.drop i = r :: rs.drop (i + 1) := by rw [← hget]; exact (List.drop_eq_getElem_cons hlt)
  obtain ⟨env2, _, hc⟩ := chain_at R.chain hr
  have hg := chain_grow hc (fun q hq => R.flag q (List.mem_of_mem_drop hq))
  refine ⟨?_, ?_⟩
  · have := HPl_at (rs := rs) (hF := hF) (i := i) 0 (by omega)
    rw [Nat.add_zero, ← hlo, hdrop] at this
    rw [this]; simp [HPl, he]
  · have := HPl_at (rs := rs) (hF := hF) (i := i) 1 (by omega)
    rw [← hlo, hdrop] at this
    rw [this]
    simp only [HPl, he, if_true]
    exact hg
theorem Run.non_heap (R : Run P T X k n ops rs env0 h0 e1 hF) {i : Nat} {r : Rec} (hr : rs[i]? = some r) (he : r.s.eff = false) : r.h'.le (HPl rs hF r.s.lo) ∧ r.h'.next ≤ (HPl rs hF r.s.lo).next := by
  have hlo := (R.facts i r hr).lo
  obtain ⟨hlt, hget⟩ := List.getElem?_eq_some_iff.1 hr
  have hdrop : rs.drop i = r :: rs.drop (i + 1) := by rw [← hget]; exact (List.drop_eq_getElem_cons hlt)
  obtain ⟨env2, _, hc⟩ := chain_at R.chain hr
  have hg := chain_grow hc (fun q hq => R.flag q (List.mem_of_mem_drop hq))
  have := HPl_at (rs := rs) (hF := hF) (i := i) 0 (by omega)
  rw [Nat.add_zero, ← hlo, hdrop] at this
  rw [this]
  simp only [HPl, he, Bool.false_eq_true, if_false]
  exact hg
/-- In a later phase: looked at again. -/
theorem Run.later (R : Run P T X k n ops rs env0 h0 e1 hF) {i : Nat} {r : Rec} (hr : rs[i]? = some r) (he : r.s.eff = false) {j : Nat} (h1 : r.s.lo < j) (h2 : j ≤ r.s.hi) (h3 : j ≤ (effs rs).length) :
    ∃ e : Rec, again T r e.h' = true ∧ e.h'.le (HPl rs hF j) ∧ e.h'.next ≤ (HPl rs hF j).next ∧ r.h'.next ≤ e.h'.next := by
  have hlo := (R.facts i r hr).lo
  obtain ⟨hlt, hget⟩ := List.getElem?_eq_some_iff.1 hr
  have hdrop : rs.drop i = r :: rs.drop (i + 1) := by rw [← hget]; exact (List.drop_eq_getElem_cons hlt)
  obtain ⟨env2, _, hc⟩ := chain_at R.chain hr
  have hfl : Flag T (rs.drop (i + 1)) := fun q hq => R.flag q (List.mem_of_mem_drop hq)
  have hsplit : (effs rs).length = (effs (rs.take i)).length + (effs (rs.drop (i + 1))).length := by
    have : effs rs = effs (rs.take i) ++ effs (rs.drop i) := by unfold effs; rw [← List.filter_append, List.take_append_drop]
    rw [this, List.length_append, hdrop]
    simp [effs, he]
  have hidx : j - r.s.lo - 1 < (effs (rs.drop (i + 1))).length := by omega
  let e := (effs (rs.drop (i + 1)))[j - r.s.lo - 1]
  have hee : (effs (rs.drop (i + 1)))[j - r.s.lo - 1]? = some e := List.getElem?_eq_getElem hidx
  have hag := recheck_at R.re hr he hee (by omega)
  have hn := eff_nth hc hfl hee
  have hmem : e ∈ rs.drop (i + 1) := (List.mem_filter.1 (List.mem_of_getElem? hee)).1
  have hnx := chain_next hc e hmem
  have hH : HPl rs hF j = HPl (rs.drop (i + 1)) hF (j - r.s.lo - 1 + 1) := by
    have := HPl_at (rs := rs) (hF := hF) (i := i) (j - r.s.lo) (by omega)
    rw [← hlo, hdrop] at this
    have e1 : r.s.lo + (j - r.s.lo) = j := by omega
    have e2 : j - r.s.lo - 1 + 1 = j - r.s.lo := by omega
    rw [e1] at this
    rw [this, e2]
    simp [HPl, he]
  rw [hH]
  exact ⟨e, hag, hn.1, hn.2, by omega⟩
theorem Run.step (R : Run P T X k n ops rs env0 h0 e1 hF) {i : Nat} {r : Rec} (hr : rs[i]? = some r) : ∃ env2, StepFact T X k n ops r env2 := by
  obtain ⟨env2, h1, _⟩ := chain_at R.chain hr
  exact ⟨env2, h1⟩
theorem Run.quiet (R : Run P T X k n ops rs env0 h0 e1 hF) {i : Nat} {r : Rec} (hr : rs[i]? = some r) (hq : kindOf T r.o.op = .quiet) (hgo : r.go = true) {j : Nat} (h1 : r.s.lo ≤ j) (h2 : j ≤ r.s.hi) (h3 : j ≤ (effs rs).length) :
    aquiet T r.env (HPl rs hF j) r.o.op = some r.v := by
  have he : r.s.eff = false := by rw [(R.facts i r hr).flag, hq]; rfl
  obtain ⟨env2, hs⟩ := R.step hr
  obtain ⟨_, _, hs | ⟨_, _, jj, _, ho⟩⟩ := hs
  · rw [hs.1] at hgo; cases hgo
  · have hq0 : aquiet T r.env r.h r.o.op = some r.v ∧ r.h' = r.h := by
      cases jj with
      | zero => simp [aop] at ho
      | succ jj =>
        unfold aop at ho
        rw [hq] at ho
        dsimp only at ho
        split at ho
        · rename_i u hu
          have ho' := Option.some.inj ho
          have e1 := congrArg Prod.fst ho'
          have e2 := congrArg Prod.snd ho'
          dsimp only at e1 e2
          rw [← e1]; exact ⟨hu, e2.symm⟩
        · cases ho
    by_cases hj : j = r.s.lo
    · subst hj
      have := R.non_heap hr he
      rw [hq0.2] at this
      exact quiet_mono this.1 hq0.1
    · obtain ⟨e, g1, g2, _⟩ := R.later hr he (by omega) h2 h3
      unfold again at g1
      rw [hgo, hq] at g1
      simp only [Bool.not_true, Bool.false_or] at g1
      split at g1
      · rename_i u hu
        rw [veq_sound g1]
        exact quiet_mono g2 hu
      · cases g1
theorem Run.fresh (R : Run P T X k n ops rs env0 h0 e1 hF) {i : Nat} {r : Rec} (hr : rs[i]? = some r) (hq : kindOf T r.o.op = .fresh) (hgo : r.go = true) :
    ∃ b mk, afresh T r.env r.o.op = some (b, mk) ∧ r.v = mk.av r.h.next ∧ r.h'.next = r.h.next + 1 ∧ ∀ j, r.s.lo ≤ j → j ≤ r.s.hi → j ≤ (effs rs).length → (HPl rs hF j).t.get r.h.next = some b ∧ r.h.next < (HPl rs hF j).next := by
  have he : r.s.eff = false := by rw [(R.facts i r hr).flag, hq]; rfl
  obtain ⟨env2, hs⟩ := R.step hr
  obtain ⟨_, _, hs | ⟨_, _, jj, _, ho⟩⟩ := hs
  · rw [hs.1] at hgo; cases hgo
  · cases jj with
    | zero => simp [aop] at ho
    | succ jj =>
      unfold aop at ho
      rw [hq] at ho
      dsimp only at ho
      split at ho
      · rename_i b mk hb hnone
        have ho' := Option.some.inj ho
        have e1 := congrArg Prod.fst ho'
        have e2 := congrArg Prod.snd ho'
        dsimp only at e1 e2
        have hget : r.h'.t.get r.h.next = some b := by rw [← e2]; simp only [AH.new]; exact Tree.get_put_same ..
        have hnx : r.h'.next = r.h.next + 1 := by rw [← e2]; rfl
        refine ⟨b, mk, hb, e1.symm, hnx, fun j h1 h2 h3 => ?_⟩
        by_cases hj : j = r.s.lo
        · subst hj
          have := R.non_heap hr he
          exact ⟨this.1 _ _ hget, by omega⟩
        · obtain ⟨e, g1, g2, g3, g4⟩ := R.later hr he (by omega) h2 h3
          unfold again at g1
          rw [hgo, hq] at g1
          simp only [Bool.not_true, Bool.false_or] at g1
          rw [hb] at g1
          split at g1
          · rename_i o' mk' o'' ha hg
            cases ha
            rw [← oeq_sound g1] at hg
            exact ⟨g2 _ _ hg, by omega⟩
          · cases g1
      · cases ho
end Go.AI
/- Regions that draw their order: the invariant; and the whole. -/
namespace Go.AI
open Go.RowKit (Below)
variable {P : Program} {T : Tab} {X : Oracle} {w0 : World} {k n : Nat} {ops : Array Oper} {rs : List Rec} {env0 e1 : Env} {h0 hF : AH}

def Li (listed : Array Bool) (r : Rec) : Prop := listed.getD r.s.idx true = true
def Fresh (T : Tab) (r : Rec) : Prop := r.go = true ∧ kindOf T r.o.op = .fresh
structure Inv (T : Tab) (w0 : World) (n : Nat) (ops : Array Oper) (rs : List Rec) (env0 : Env) (h0 hF : AH) (γ0 : Emb) (defs : List Deferred) (listed : Array Bool) (j : Nat) (γ : Emb) (a : Act) (w : World) : Prop where
  size : listed.size = ops.size
  eff : ∀ r ∈ rs, r.s.eff = true → (Li listed r ↔ r.s.lo < j)
  jm : j ≤ (effs rs).length
  down : ∀ r ∈ rs, Li listed r → ∀ e ∈ edges r.o, listed.getD e false = true
  post : ∀ r ∈ rs, Li listed r → r.s.post ≤ j
  world : WRel T γ (HPl rs hF j) w0 w
  ghost : ∀ r ∈ rs, Fresh T r → ¬ Li listed r → γ r.h.next = none
  done : ∀ r ∈ rs, Li listed r → ∀ t, r.o.dst = some t → VRel γ r.v (a.tmps.getD t undef)
  pre : ∀ t, (∀ r ∈ rs, r.o.dst = some t → ¬ Li listed r) → VRel γ (Env.at env0 t) (a.tmps.getD t undef)
  tsz : a.tmps.size = n
  defs : a.defers = defs
  ext : Ext h0.next γ0 γ
  low : h0.next ≤ (HPl rs hF j).next

theorem put_get (a : Act) (dst : Option Tmp) (v : Value) (t : Tmp) : (a.put dst v).tmps.getD t undef = if dst = some t ∧ t < a.tmps.size then v else a.tmps.getD t undef := by
  cases dst with
  | none => simp [Act.put]
  | some d =>
    simp only [Act.put, Array.getD_eq_getD_getElem?, Array.getElem?_setIfInBounds, Option.some.injEq]
    by_cases e : d = t
    · subst e
      by_cases h : d < a.tmps.size
      · simp [h]
      · simp [h]
    · simp [e]
theorem putDst_lt {n : Nat} {env env2 : Env} {t : Tmp} {v : AV} (hp : putDst n env (some t) v = some env2) : t < n := by
  simp only [putDst] at hp
  split at hp
  · assumption
  · cases hp
theorem getD_set {listed : Array Bool} {i p : Nat} (hi : i < listed.size) (d : Bool) : (listed.setIfInBounds i true).getD p d = if p = i then true else listed.getD p d := by
  simp only [Array.getD_eq_getD_getElem?, Array.getElem?_setIfInBounds]
  by_cases e : i = p
  · subst e; simp [hi]
  · rw [if_neg e, if_neg (Ne.symm e)]
theorem getD_lt {listed : Array Bool} {p : Nat} (h : p < listed.size) (d d' : Bool) : listed.getD p d = listed.getD p d' := by
  simp [Array.getD, h]

section
variable (R : Run P T X k n ops.toList rs env0 h0 e1 hF) {γ0 γ : Emb} {defs : List Deferred} {listed : Array Bool} {j : Nat} {a : Act} {w : World} (I : Inv T w0 n ops rs env0 h0 hF γ0 defs listed j γ a w)
include R I
theorem idx_lt {p : Nat} {r : Rec} (hr : rs[p]? = some r) : r.s.idx < listed.size := by
  have := (R.facts p r hr).op
  obtain ⟨h, _⟩ := List.getElem?_eq_some_iff.1 this
  rw [I.size]; simpa using h
/-- What an operation looks at. -/
theorem look_rel {p : Nat} {r : Rec} (hr : rs[p]? = some r) (hun : ¬ Li listed r) (hed : ∀ e ∈ edges r.o, listed.getD e false = true) {t : Tmp} (ht : t ∈ looks ops.toList r.o) : VRel γ (Env.at r.env t) (a.tmps.getD t undef) := by
  have F := R.facts p r hr
  have hplt : p < rs.length := (List.getElem?_eq_some_iff.1 hr).1
  obtain ⟨c1, c2⟩ := chain_env R.chain R.apart (i := p) (by omega) t
  have henv : envAt rs e1 p = r.env := by simp [envAt, hr]
  rw [henv] at c1 c2
  -- a writer of t that is not before this one has not come up
  have later : ∀ (q : Nat) (r' : Rec), rs[q]? = some r' → r'.o.dst = some t → p ≤ q → ¬ Li listed r' := by
    intro q r' hq hd hpq
    rcases Nat.lt_or_ge p q with hlt | hge
    · have F' := R.facts q r' hq
      rcases F.looks t ht r'.s.idx r'.o F'.op hd with h1 | h1
      · obtain ⟨q', r'', hq', hr'', he⟩ := F.edges _ h1
        have := R.uniq hr'' hq he
        omega
      · intro hl
        have := I.down r' (List.mem_of_getElem? hq) hl _ h1
        apply hun
        unfold Li
        rw [getD_lt (idx_lt R I hr) true false]; exact this
    · have : q = p := by omega
      subst this
      rw [hr] at hq; cases hq; exact hun
  by_cases hw : ∃ r' ∈ rs.take p, r'.o.dst = some t
  · obtain ⟨r', hr', hd⟩ := hw
    rw [c2 r' hr' hd]
    obtain ⟨q, hq, rfl⟩ := List.getElem_of_mem hr'
    have hqp : q < p ∧ q < rs.length := by simp at hq; omega
    have hq' : rs[q]? = some rs[q] := List.getElem?_eq_getElem hqp.2
    have heq : (rs.take p)[q] = rs[q] := by simp
    rw [heq] at hd ⊢
    have F' := R.facts q _ hq'
    rcases F.looks t ht _ _ F'.op hd with h1 | h1
    · refine I.done _ (List.mem_of_getElem? hq') ?_ t hd
      unfold Li
      rw [getD_lt (idx_lt R I hq') true false]; exact hed _ h1
    · obtain ⟨q', r'', hq2, hr'', he⟩ := F'.edges _ h1
      have := R.uniq hr'' hr he
      omega
  · rw [c1 fun r' hr' hd => hw ⟨r', hr', hd⟩]
    refine I.pre t fun r' hr' hd => ?_
    obtain ⟨q, hq, rfl⟩ := List.getElem_of_mem hr'
    refine later q _ (List.getElem?_eq_getElem hq) hd ?_
    rcases Nat.lt_or_ge q p with hlt | hge
    · exfalso
      refine hw ⟨rs[q], ?_, hd⟩
      refine List.mem_of_getElem? (i := q) ?_
      rw [List.getElem?_take, if_pos hlt]; exact List.getElem?_eq_getElem hq
    · exact hge
theorem oper_rel {p : Nat} {r : Rec} (hr : rs[p]? = some r) (hun : ¬ Li listed r) (hed : ∀ e ∈ edges r.o, listed.getD e false = true) : ∀ x ∈ r.o.op.operands.toList, VRel γ (aev r.env x) (a.eval x) := by
  intro x hx
  cases x with
  | tmp t =>
    refine look_rel R I hr hun hed ?_
    unfold looks
    exact List.mem_append_left _ (List.mem_filterMap.2 ⟨.tmp t, hx, rfl⟩)
  | const v => exact toAV_rel γ v
  | global g => exact .glob g 0
  | func f => exact .func .nil
theorem lo_le {p : Nat} {r : Rec} (hr : rs[p]? = some r) (hed : ∀ e ∈ edges r.o, listed.getD e false = true) : r.s.lo ≤ j := by
  rcases (R.facts p r hr).via with h | ⟨e, he, q, r', hq, hr', h1, h2⟩
  · omega
  · rw [← h2]
    refine I.post r' (List.mem_of_getElem? hr') ?_
    unfold Li
    rw [getD_lt (idx_lt R I hr') true false, h1]; exact hed e he
theorem cap_ge : ∀ (d p : Nat) (r : Rec), rs.length - p ≤ d → rs[p]? = some r → ¬ Li listed r → j ≤ r.s.cap
  | 0, p, r, hd, hr, _ => by have := (List.getElem?_eq_some_iff.1 hr).1; omega
  | d + 1, p, r, hd, hr, hun => by
    have hm := List.mem_of_getElem? hr
    unfold PStep.cap
    cases he : r.s.eff
    · simp only [Bool.false_eq_true, if_false]
      rcases (R.facts p r hr).hi with h | h | ⟨q, r', hq, hr', h1, h2⟩
      · rw [he] at h; cases h
      · rw [h]; exact I.jm
      · rw [← h1]
        refine cap_ge d q r' (by omega) hr' fun hl => hun ?_
        have := I.down r' (List.mem_of_getElem? hr') hl _ h2
        unfold Li
        rw [getD_lt (idx_lt R I hr) true false]; exact this
    · simp only [if_true]
      have : ¬ r.s.lo < j := fun h => hun ((I.eff r hm he).2 h)
      omega
end
/-- One more has come up. -/
theorem inv_put (R : Run P T X k n ops.toList rs env0 h0 e1 hF) {γ0 γ γ' : Emb} {defs : List Deferred} {listed : Array Bool} {j j' : Nat} {a : Act} {w w' : World} (I : Inv T w0 n ops rs env0 h0 hF γ0 defs listed j γ a w)
    {p : Nat} {r : Rec} (hr : rs[p]? = some r) (hed : ∀ e ∈ edges r.o, listed.getD e false = true) {v' : Value} (hv : VRel γ' r.v v') (hle : γ.le γ') (hext : Ext h0.next γ γ') (hjj : j' = (if r.s.eff then j + 1 else j)) (hlo : r.s.eff = true → r.s.lo = j)
    (hlo2 : r.s.lo ≤ j) (hworld : WRel T γ' (HPl rs hF j') w0 w') (hghost : ∀ q ∈ rs, Fresh T q → ¬ Li listed q → q.s.idx ≠ r.s.idx → γ' q.h.next = none) (hlow : h0.next ≤ (HPl rs hF j').next) :
    Inv T w0 n ops rs env0 h0 hF γ0 defs (listed.setIfInBounds r.s.idx true) j' γ' (a.put r.o.dst v') w' := by
  have hi := idx_lt R I hr
  have hm := List.mem_of_getElem? hr
  have hLi : ∀ q : Rec, Li (listed.setIfInBounds r.s.idx true) q ↔ q.s.idx = r.s.idx ∨ Li listed q := by
    intro q
    unfold Li
    rw [getD_set hi]
    by_cases e : q.s.idx = r.s.idx
    · simp [e]
    · simp [e]
  have same : ∀ q ∈ rs, q.s.idx = r.s.idx → q = r := by
    intro q hq e
    obtain ⟨i, hi', rfl⟩ := List.getElem_of_mem hq
    have := R.uniq (List.getElem?_eq_getElem hi') hr e
    subst this
    rw [List.getElem?_eq_getElem hi'] at hr
    exact Option.some.inj hr
  obtain ⟨env2, hput, _⟩ := R.step hr
  refine ⟨by simp [I.size], fun q hq he => ?_, ?_, fun q hq hl e hee => ?_, fun q hq hl => ?_, hworld, fun q hq hf hun => ?_, fun q hq hl t hd => ?_, fun t ht => ?_, by rw [put_size]; exact I.tsz, by rw [put_defers]; exact I.defs, I.ext.trans hext (Nat.le_refl _), hlow⟩
  · rw [hLi]
    have h1 := I.eff q hq he
    by_cases e : q.s.idx = r.s.idx
    · have := same q hq e
      subst this
      rw [hjj, if_pos he]
      have := hlo he
      exact ⟨fun _ => by omega, fun _ => .inl rfl⟩
    · rw [h1, hjj]
      constructor
      · rintro (h | h)
        · exact absurd h e
        · split <;> omega
      · intro h
        right
        split at h
        · rename_i her
          by_cases hqj : q.s.lo = j
          · exfalso
            -- two acting steps of one phase are one
            have hrl := hlo her
            obtain ⟨i, hi', hqi⟩ := List.getElem_of_mem hq
            have Fq := (R.facts i q (by rw [← hqi]; exact List.getElem?_eq_getElem hi')).lo
            have Fr := (R.facts p r hr).lo
            have cnt : ∀ {x y : Nat} {u : Rec}, x < y → rs[x]? = some u → u.s.eff = true → (effs (rs.take x)).length < (effs (rs.take y)).length := by
              intro x y u hxy hu hue
              obtain ⟨hxl, hxe⟩ := List.getElem?_eq_some_iff.1 hu
              have e1 : rs.take (x + 1) = rs.take x ++ [u] := by rw [List.take_succ_eq_append_getElem hxl, hxe]
              have e2 : effs (rs.take (x + 1)) = effs (rs.take x) ++ [u] := by rw [e1]; simp [effs, List.filter_append, hue]
              have e3 : (effs (rs.take (x + 1))).length ≤ (effs (rs.take y)).length := by
                have : rs.take (x + 1) = (rs.take y).take (x + 1) := by rw [List.take_take]; congr 1; omega
                rw [this]
                have hsub : List.Sublist (effs ((rs.take y).take (x + 1))) (effs (rs.take y)) := (List.take_sublist _ _).filter _
                exact hsub.length_le
              rw [e2, List.length_append] at e3
              simp at e3; omega
            have hqi' : rs[i]? = some q := by rw [← hqi]; exact List.getElem?_eq_getElem hi'
            rcases Nat.lt_trichotomy i p with h3 | h3 | h3
            · have := cnt h3 hqi' he; omega
            · subst h3; rw [hqi'] at hr; cases hr; exact e rfl
            · have := cnt h3 hr her; omega
          · omega
        · exact h
  · rw [hjj]
    split
    · rename_i he
      have h1 := hlo he
      have h2 := (R.facts p r hr).lo
      have h3 : effs rs = effs (rs.take p) ++ effs (rs.drop p) := by unfold effs; rw [← List.filter_append, List.take_append_drop]
      obtain ⟨hlt, hget⟩ := List.getElem?_eq_some_iff.1 hr
      have h4 : rs.drop p = r :: rs.drop (p + 1) := by rw [← hget]; exact (List.drop_eq_getElem_cons hlt)
      have h5 : (effs (rs.drop p)).length = (effs (rs.drop (p + 1))).length + 1 := by rw [h4]; simp [effs, he]
      rw [h3, List.length_append]; omega
    · exact I.jm
  · rw [getD_set hi]
    split
    · rfl
    · rcases (hLi q).1 hl with h1 | h1
      · have := same q hq h1; subst this; exact hed e hee
      · exact I.down q hq h1 e hee
  · rcases (hLi q).1 hl with h1 | h1
    · have := same q hq h1; subst this
      unfold PStep.post
      rw [hjj]
      cases he : q.s.eff
      · simp; exact hlo2
      · simp; have := hlo he; omega
    · have := I.post q hq h1
      rw [hjj]; split <;> omega
  · rw [hLi] at hun
    exact hghost q hq hf (fun h => hun (.inr h)) (fun h => hun (.inl h))
  · rw [put_get]
    rcases (hLi q).1 hl with h1 | h1
    · have := same q hq h1; subst this
      have hlt : t < a.tmps.size := by rw [I.tsz]; rw [hd] at hput; exact putDst_lt hput
      rw [if_pos ⟨hd, hlt⟩]; exact hv
    · by_cases e : q.s.idx = r.s.idx
      · have := same q hq e; subst this
        have hlt : t < a.tmps.size := by rw [I.tsz]; rw [hd] at hput; exact putDst_lt hput
        rw [if_pos ⟨hd, hlt⟩]; exact hv
      · have hne : r.o.dst ≠ some t := by
          intro hrd
          obtain ⟨i, hi', hqi⟩ := List.getElem_of_mem hq
          have hqi' : rs[i]? = some q := by rw [← hqi]; exact List.getElem?_eq_getElem hi'
          rcases Nat.lt_trichotomy i p with h3 | h3 | h3
          · exact R.apart i p q r hqi' hr h3 t hd hrd
          · subst h3; rw [hqi'] at hr; cases hr; exact e rfl
          · exact R.apart p i r q hr hqi' h3 t hrd hd
        rw [if_neg (fun h => hne h.1)]
        exact (I.done q hq h1 t hd).mono hle
  · have hne : r.o.dst ≠ some t := fun h => ht r hm h ((hLi r).2 (.inl rfl))
    rw [put_get, if_neg (fun h => hne h.1)]
    exact (I.pre t fun q hq hd hl => ht q hq hd ((hLi q).2 (.inr hl))).mono hle

/-- How many have not come up. -/
def left (N : Nat) (listed : Array Bool) : Nat := ((List.range N).filter fun i => !listed.getD i true).length
theorem left_set {N : Nat} {listed : Array Bool} {i : Nat} (hi : i < listed.size) (hN : i < N) (hu : listed.getD i true = false) : left N (listed.setIfInBounds i true) < left N listed := by
  unfold left
  have : (List.range N).filter (fun x => !(listed.setIfInBounds i true).getD x true) = ((List.range N).filter fun x => !listed.getD x true).filter (fun x => x != i) := by
    rw [List.filter_filter]
    congr 1
    funext x
    rw [getD_set hi]
    by_cases e : x = i
    · simp [e]
    · have : (x != i) = true := by simpa using e
      rw [if_neg e, this, Bool.true_and]
  rw [this]
  refine List.length_filter_lt_length_iff_exists.2 ⟨i, ?_, by simp⟩
  exact List.mem_filter.2 ⟨List.mem_range.2 hN, by rw [hu]; rfl⟩
theorem left_zero {N : Nat} {listed : Array Bool} (h : left N listed = 0) {i : Nat} (hi : i < N) : listed.getD i true = true := by
  unfold left at h
  have := List.length_eq_zero_iff.1 h
  cases e : listed.getD i true with
  | true => rfl
  | false =>
    have hm : i ∈ (List.range N).filter fun i => !listed.getD i true := List.mem_filter.2 ⟨List.mem_range.2 hi, by rw [e]; rfl⟩
    rw [this] at hm; cases hm
section
variable (hT : TabOk P T) (ho : ∀ i, i ≤ k → OpOk P T X w0 i) (R : Run P T X k n ops.toList rs env0 h0 e1 hF) {γ0 : Emb} {defs : List Deferred} {Q : Exit → Act → World → Prop}
  (hQ : ∀ a w γ, Ext h0.next γ0 γ → h0.next ≤ hF.next → EnvRel γ e1 a.tmps → a.tmps.size = n → a.defers = defs → WRel T γ hF w0 w → Q .normal a w)
include R hQ in
theorem inv_done {γ : Emb} {listed : Array Bool} {j : Nat} {a : Act} {w : World} (I : Inv T w0 n ops rs env0 h0 hF γ0 defs listed j γ a w) (hall : ∀ i, i < ops.size → listed.getD i true = true) : Q .normal a w := by
  have hL : ∀ r ∈ rs, Li listed r := by
    intro r hr
    obtain ⟨i, hi, rfl⟩ := List.getElem_of_mem hr
    have := idx_lt R I (List.getElem?_eq_getElem hi)
    rw [I.size] at this
    exact hall _ this
  have hj : (effs rs).length ≤ j := by
    rcases Nat.eq_zero_or_pos (effs rs).length with h | h
    · omega
    · -- the last acting step has come up
      have hlast : (effs rs)[(effs rs).length - 1]? = some ((effs rs)[(effs rs).length - 1]'(by omega)) := List.getElem?_eq_getElem _
      generalize (effs rs)[(effs rs).length - 1]'(by omega) = e at hlast
      have hem := List.mem_filter.1 (List.mem_of_getElem? hlast)
      have key : ∀ (l : List Rec) (i : Nat) (e : Rec), (effs l)[i]? = some e → ∃ p, l[p]? = some e ∧ (effs (l.take p)).length = i := by
        intro l
        induction l with
        | nil => intro i e he; simp [effs] at he
        | cons x l ih =>
          intro i e he
          cases hx : x.s.eff
          · have : effs (x :: l) = effs l := by simp [effs, hx]
            rw [this] at he
            obtain ⟨p, h1, h2⟩ := ih i e he
            exact ⟨p + 1, by simpa using h1, by simp [effs, hx] at h2 ⊢; exact h2⟩
          · have : effs (x :: l) = x :: effs l := by simp [effs, hx]
            rw [this] at he
            cases i with
            | zero => simp at he; subst he; exact ⟨0, by simp, by simp [effs]⟩
            | succ i =>
              obtain ⟨p, h1, h2⟩ := ih i e (by simpa using he)
              exact ⟨p + 1, by simpa using h1, by simp [effs, hx] at h2 ⊢; exact h2⟩
      obtain ⟨p, hp, hc⟩ := key rs _ e hlast
      have hlo := (R.facts p e hp).lo
      have := (I.eff e hem.1 (by simpa using hem.2)).1 (hL e hem.1)
      omega
  have hjm : j = (effs rs).length := Nat.le_antisymm I.jm hj
  have hH : HPl rs hF j = hF := HPl_end (by omega)
  have hw := I.world
  have hlow := I.low
  rw [hH] at hw hlow
  refine hQ a w γ I.ext hlow (fun t => ?_) I.tsz I.defs hw
  obtain ⟨c1, c2⟩ := chain_env R.chain R.apart (i := rs.length) (Nat.le_refl _) t
  have henv : envAt rs e1 rs.length = e1 := by simp [envAt]
  rw [henv, List.take_length] at c1 c2
  by_cases hx : ∃ r ∈ rs, r.o.dst = some t
  · obtain ⟨r, hr, hd⟩ := hx
    rw [c2 r hr hd]; exact I.done r hr (hL r hr) t hd
  · rw [c1 fun r hr hd => hx ⟨r, hr, hd⟩]
    exact I.pre t fun r hr hd => absurd ⟨r, hr, hd⟩ hx
include hT ho R in
/-- An operation that may come up. -/
theorem inv_step {γ : Emb} {listed : Array Bool} {j : Nat} {a : Act} {w : World} (I : Inv T w0 n ops rs env0 h0 hF γ0 defs listed j γ a w) {i : Nat} (hi : i ∈ Region.ready .any ops listed)
    {K : Act → World → Prop} (hK : ∀ j' γ' a' w', Inv T w0 n ops rs env0 h0 hF γ0 defs (listed.setIfInBounds i true) j' γ' a' w' → K a' w') : wpOp P ops Q i K a w := by
  obtain ⟨hun, o, hop, hedges⟩ := mem_ready.1 hi
  obtain ⟨hlt, _⟩ := Array.getElem?_eq_some_iff.1 hop
  obtain ⟨p, r, hr, hri⟩ := R.all i (by simpa using hlt)
  have F := R.facts p r hr
  have hro : r.o = o := by
    have h1 := F.op
    rw [hri, Array.getElem?_toList] at h1
    rw [hop] at h1; exact (Option.some.inj h1).symm
  subst hri
  subst hro
  have hm := List.mem_of_getElem? hr
  have hLu : ¬ Li listed r := by unfold Li; rw [hun]; simp
  have hed : ∀ e ∈ edges r.o, listed.getD e false = true := by
    intro e he
    unfold edges at he
    obtain ⟨x, hx, rfl⟩ := List.mem_map.1 he
    obtain ⟨hx1, hx2⟩ := List.mem_filter.1 hx
    exact hedges x (by simpa using hx1) hx2
  have hlo := lo_le R I hr hed
  have hcap := cap_ge R I _ p r (Nat.le_refl _) hr hLu
  have hrel := oper_rel R I hr hLu hed
  have ghosts : ∀ q ∈ rs, Fresh T q → ¬ Li listed q → q.s.idx ≠ r.s.idx → γ q.h.next = none := fun q hq hf hl _ => I.ghost q hq hf hl
  obtain ⟨env2, hput, hnx, hstep⟩ := R.step hr
  -- an acting step comes up in its own phase
  have hej : r.s.eff = true → r.s.lo = j := by
    intro he
    have h1 : ¬ r.s.lo < j := fun h => hLu ((I.eff r hm he).2 h)
    omega
  unfold wpOp
  rw [hop]
  dsimp only
  have hgrel : ∀ g want d, r.o.guard = some (g, want) → (ops[g]?).bind (·.dst) = some d → VRel γ (Env.at r.env d) (a.tmps.getD d undef) := by
    intro g want d hg hd
    refine look_rel R I hr hLu hed ?_
    unfold looks
    refine List.mem_append_right _ ?_
    rw [hg]
    dsimp only
    rw [lget_eq, Array.getElem?_toList, hd]; simp
  rcases hstep with ⟨hgo, hguard, hv, hh⟩ | ⟨hgo, hguard, jj, hjj, haop⟩
  · rw [guard_sound hguard hgrel]
    simp only [Bool.false_eq_true, if_false]
    cases he : r.s.eff
    · refine hK j γ _ w (inv_put R I hr hed (by rw [hv]; exact undef_rel γ) (Emb.le_refl γ) (Ext.refl _ _) (by simp [he]) (fun h => by rw [he] at h; cases h) hlo I.world ghosts I.low)
    · have hjlo := hej he
      have hH := R.eff_heap hr he
      have hjH : HPl rs hF j = r.h := by rw [← hjlo]; exact hH.1
      have hw := I.world
      have hl := I.low
      rw [hjH] at hw hl
      rw [hh, hjlo] at hH
      refine hK (j + 1) γ _ w (inv_put R I hr hed (by rw [hv]; exact undef_rel γ) (Emb.le_refl γ) (Ext.refl _ _) (by simp [he]) (fun _ => hjlo) hlo (hw.le hH.2.1 hH.2.2) ghosts (by omega))
  · rw [guard_sound hguard hgrel]
    simp only [if_true]
    left
    cases hk : kindOf T r.o.op
    · -- quiet
      have he : r.s.eff = false := by rw [F.flag, hk]; rfl
      have hhi : j ≤ r.s.hi := by unfold PStep.cap at hcap; rw [he] at hcap; simpa using hcap
      have hq := R.quiet hr hk hgo hlo hhi I.jm
      obtain ⟨v', g1, g2⟩ := quiet_sound hT I.world hrel hq
      unfold Oper.wp
      rw [g1]
      exact hK j γ _ w (inv_put R I hr hed g2 (Emb.le_refl γ) (Ext.refl _ _) (by simp [he]) (fun h => by rw [he] at h; cases h) hlo I.world ghosts I.low)
    · -- fresh
      have he : r.s.eff = false := by rw [F.flag, hk]; rfl
      have hhi : j ≤ r.s.hi := by unfold PStep.cap at hcap; rw [he] at hcap; simpa using hcap
      obtain ⟨b, mk, f1, f2, f3, f4⟩ := R.fresh hr hk hgo
      obtain ⟨f5, f6⟩ := f4 j hlo hhi I.jm
      obtain ⟨v', w', ob, K', z, g1, g2, g3⟩ := fresh_sound hT I.world hrel f1
      have hgid := I.ghost r hm ⟨hgo, hk⟩ hLu
      have hle := Emb.le_add (w.heap.size, 0, K', z) hgid
      obtain ⟨g4, g5⟩ := g3 (γ.add r.h.next (w.heap.size, 0, K', z)) hle
      have hlow0 : h0.next ≤ r.h.next := (chain_next R.chain r hm).1
      unfold Oper.wp
      rw [g1]
      refine hK j (γ.add r.h.next (w.heap.size, 0, K', z)) _ w' (inv_put R I hr hed ?_ hle (fun id hid => by unfold Emb.add; rw [if_neg (by omega)]) (by simp [he]) (fun h => by rw [he] at h; cases h) hlo ?_ ?_ I.low)
      · rw [f2]; exact g4 _ (by simp [Emb.add])
      · refine I.world.bind hgid f6 f5 g2.size g2.old g2.os g2.tape g2.output ?_
        rw [g2.new]; exact g5
      · intro q hq hf hl hne
        unfold Emb.add
        rw [if_neg]
        · exact ghosts q hq hf hl hne
        · -- different fresh steps make different objects
          intro hid
          obtain ⟨iq, hiq, hqe⟩ := List.getElem_of_mem hq
          have hq' : rs[iq]? = some q := by rw [← hqe]; exact List.getElem?_eq_getElem hiq
          obtain ⟨_, _, _, _, q3, _⟩ := R.fresh hq' hf.2 hf.1
          rcases Nat.lt_trichotomy iq p with h3 | h3 | h3
          · obtain ⟨_, _, hc⟩ := chain_at R.chain hq'
            have hmem : r ∈ rs.drop (iq + 1) := List.mem_of_getElem? (i := p - (iq + 1)) (by rw [List.getElem?_drop, ← hr]; congr 1; omega)
            have := (chain_next hc r hmem).1
            omega
          · subst h3; rw [hq'] at hr; cases hr; exact hne rfl
          · obtain ⟨_, _, hc⟩ := chain_at R.chain hr
            have hmem : q ∈ rs.drop (p + 1) := List.mem_of_getElem? (i := iq - (p + 1)) (by rw [List.getElem?_drop, ← hq']; congr 1; omega)
            have := (chain_next hc q hmem).1
            omega
    · -- acting
      have he : r.s.eff = true := by rw [F.flag, hk]; rfl
      have hjlo := hej he
      have hH := R.eff_heap hr he
      have hjH : HPl rs hF j = r.h := by rw [← hjlo]; exact hH.1
      have hw := I.world
      have hl := I.low
      rw [hjH] at hw hl
      rw [hjlo] at hH
      refine ho jj hjj r.env r.h r.o r.v r.h' γ a w _ Q haop hrel hw fun v' w' γ' q1 q2 q3 q4 => ?_
      refine hK (j + 1) γ' _ w' (inv_put R I hr hed q4 (q1.le hw) (fun id hid => q1 id (by omega)) (by simp [he]) (fun _ => hjlo) hlo (q3.le hH.2.1 hH.2.2) ?_ (by omega))
      intro q hq hf hl' hne
      have hγ := ghosts q hq hf hl' hne
      obtain ⟨iq, hiq, hqe⟩ := List.getElem_of_mem hq
      have hq' : rs[iq]? = some q := by rw [← hqe]; exact List.getElem?_eq_getElem hiq
      obtain ⟨_, _, _, _, qn, _⟩ := R.fresh hq' hf.2 hf.1
      rcases Nat.lt_trichotomy iq p with h3 | h3 | h3
      · obtain ⟨_, _, hc⟩ := chain_at R.chain hq'
        have hmem : r ∈ rs.drop (iq + 1) := List.mem_of_getElem? (i := p - (iq + 1)) (by rw [List.getElem?_drop, ← hr]; congr 1; omega)
        have := (chain_next hc r hmem).1
        rw [q1 _ (by omega)]; exact hγ
      · subst h3; rw [hq'] at hr; cases hr; exact absurd rfl hne
      · obtain ⟨_, _, hc⟩ := chain_at R.chain hr
        have hmem : q ∈ rs.drop (p + 1) := List.mem_of_getElem? (i := iq - (p + 1)) (by rw [List.getElem?_drop, ← hq']; congr 1; omega)
        have := (chain_next hc q hmem).1
        exact q3.fresh this
include hT ho R hQ in
theorem draw_any : ∀ (fuel : Nat) (listed : Array Bool) (j : Nat) (γ : Emb) (a : Act) (w : World), left ops.size listed ≤ fuel → Inv T w0 n ops rs env0 h0 hF γ0 defs listed j γ a w → wpAny P .any ops Q fuel listed a w := by
  intro fuel
  induction fuel with
  | zero =>
    intro listed j γ a w hl I
    have hall : ∀ i, i < ops.size → listed.getD i true = true := fun i hi => left_zero (by omega) hi
    refine ⟨?_, inv_done R hQ I hall⟩
    cases hr : Region.ready .any ops listed with
    | nil => rfl
    | cons x xs =>
      have hx : x ∈ Region.ready .any ops listed := by rw [hr]; simp
      obtain ⟨hu, o, hop, _⟩ := mem_ready.1 hx
      have := (Array.getElem?_eq_some_iff.1 hop).1
      rw [hall x this] at hu; cases hu
  | succ fuel ih =>
    intro listed j γ a w hl I
    refine ⟨fun hnil => ?_, fun i hi => ?_⟩
    · -- nothing may come up: all have come up
      refine inv_done R hQ I ?_
      have hall : ∀ p, p ≤ rs.length → ∀ q r, q < p → rs[q]? = some r → Li listed r := by
        intro p
        induction p with
        | zero => intro _ q r hq; omega
        | succ p ihp =>
          intro hp q r hq hr
          rcases Nat.lt_or_ge q p with h | h
          · exact ihp (by omega) q r h hr
          · have : q = p := by omega
            subst this
            by_cases hL : Li listed r
            · exact hL
            · exfalso
              have F := R.facts q r hr
              have hmem : r.s.idx ∈ Region.ready .any ops listed := by
                refine mem_ready.2 ⟨?_, r.o, ?_, fun e he hb => ?_⟩
                · unfold Li at hL; simpa using hL
                · have := F.op; rwa [Array.getElem?_toList] at this
                · obtain ⟨q', r', hq', hr', hidx⟩ := F.edges e.on (by unfold edges; exact List.mem_map.2 ⟨e, List.mem_filter.2 ⟨by simpa using he, hb⟩, rfl⟩)
                  have := ihp (by omega) q' r' hq' hr'
                  unfold Li at this
                  rw [← hidx, getD_lt (idx_lt R I hr') false true]; exact this
              rw [hnil] at hmem; cases hmem
      intro i hi
      obtain ⟨p, r, hr, rfl⟩ := R.all i (by simpa using hi)
      exact hall rs.length (Nat.le_refl _) p r (List.getElem?_eq_some_iff.1 hr).1 hr
    · refine inv_step hT ho R I hi fun j' γ' a' w' I' => ?_
      obtain ⟨hu, o, hop, _⟩ := mem_ready.1 hi
      have hlt := (Array.getElem?_eq_some_iff.1 hop).1
      have := left_set (N := ops.size) (by rw [I.size]; exact hlt) hlt hu
      exact ih _ j' γ' a' w' (by omega) I'
end
theorem drawOk (hT : TabOk P T) {k : Nat} (ho : ∀ i, i ≤ k → OpOk P T X w0 i) : DrawOk P T X w0 k := by
  intro n id ops env h rs env' h' γ a w Q hpl hrun hre he hn hw hQ
  have hc := chain_of_run hrun
  obtain ⟨hst, hlg⟩ := chain_steps hc
  simp only [planOk, Bool.and_eq_true, beq_iff_eq] at hpl
  obtain ⟨⟨hlen, hall⟩, hok⟩ := hpl
  rw [← hst] at hc hok hall
  have hph : phases (rs.map (·.s)) = (effs rs).length := by rw [phases, List.filter_map, List.length_map]; rfl
  rw [hph] at hok
  have R : Run P T X k n ops.toList rs env h env' h' := by
    refine ⟨hc, fun i r hr => recFacts hlg hok hr, fun i hi => ?_, hre⟩
    have := List.all_eq_true.1 hall i (List.mem_range.2 hi)
    obtain ⟨s, hs, hi'⟩ := List.any_eq_true.1 this
    obtain ⟨r, hr, rfl⟩ := List.mem_map.1 hs
    obtain ⟨p, hp, rfl⟩ := List.getElem_of_mem hr
    exact ⟨p, _, List.getElem?_eq_getElem hp, by simpa using hi'⟩
  have hgr := chain_grow hc R.flag
  have hno : ∀ r ∈ rs, ¬ Li (Array.replicate ops.size false) r := by
    intro r hr hl
    obtain ⟨i, hi, rfl⟩ := List.getElem_of_mem hr
    have h1 := (R.facts i _ (List.getElem?_eq_getElem hi)).op
    have h2 := (List.getElem?_eq_some_iff.1 h1).1
    unfold Li at hl
    simp [Array.getD] at hl
    simp at h2
    omega
  refine wp_region_any hT.mixed (draw_any hT ho R (γ0 := γ) (defs := a.defers) (fun a' w' γ' q1 q2 q3 q4 q5 q6 => hQ a' w' γ' q1 q2 q3 q4 q5 q6) ops.size _ 0 γ a _ ?_ ⟨by simp, fun r hr _ => ⟨fun h => absurd h (hno r hr), fun h => by omega⟩, Nat.zero_le _, fun r hr hl => absurd hl (hno r hr), fun r hr hl => absurd hl (hno r hr),
    (hw.same (w' := { w with drawn := w.drawn + 1 }) rfl rfl rfl rfl).le hgr.1 hgr.2, fun r hr _ _ => hw.fresh (chain_next hc r hr).1, fun r hr hl => absurd hl (hno r hr), fun t _ => he t, hn, rfl, Ext.refl _ _, hgr.2⟩)
  unfold left
  have := List.length_filter_le (fun i => !(Array.replicate ops.size false).getD i true) (List.range ops.size)
  simpa using this

/-- **The abstract machine's call stands for the model's.** -/
theorem all_ok (hT : TabOk P T) (hX : OracleOk P T X w0) : ∀ k, (∀ j, j ≤ k → CallOk P T X w0 j) ∧ (∀ j, j ≤ k → OpOk P T X w0 j) ∧ (∀ j, j ≤ k → OpsOk P T X w0 j) ∧ (∀ j, j ≤ k → CodeOk P T X w0 j)
  | 0 => by
    refine ⟨fun j hj => ?_, fun j hj => ?_, fun j hj => ?_, fun j hj => ?_⟩ <;> (obtain rfl : j = 0 := by omega)
    · intro f args args' h h' v γ w hr; simp [acall] at hr
    · intro env h o v h' γ a w next Q hr; simp [aop] at hr
    · intro n ops rest env h env' h' γ a w Q hr; simp [aops] at hr
    · intro n c env h ex env' h' γ a w Q hr; simp [acode] at hr
  | k + 1 => by
    obtain ⟨h1, h2, h3, h4⟩ := all_ok hT hX k
    have step : ∀ {p : Nat → Prop}, (∀ j, j ≤ k → p j) → p (k + 1) → ∀ j, j ≤ k + 1 → p j := by
      intro p hp hk j hj
      rcases Nat.lt_or_ge j (k + 1) with h | h
      · exact hp j (by omega)
      · obtain rfl : j = k + 1 := by omega
        exact hk
    exact ⟨step h1 (callOk hT hX (h4 k (Nat.le_refl _))), step h2 (opOk hT (h1 k (Nat.le_refl _))), step h3 (opsOk h2), step h4 (codeOk (h3 k (Nat.le_refl _)) (drawOk hT h2) h4)⟩
theorem acall_sound (hT : TabOk P T) (hX : OracleOk P T X w0) {k : Nat} {f : FuncId} {args : List AV} {args' : List Value} {h h' : AH} {v : AV} {γ : Emb} {w : World} (hr : acall T X k f args h = some (v, h')) (hw : WRel T γ h w0 w) (hl : LRel γ args args') :
    Calls P f ⟨args'⟩ w (CallPost T w0 γ h v h') := (all_ok hT hX k).1 k (Nat.le_refl _) f args args' h h' v γ w hr hw hl
end Go.AI
