import Derived.Test.YtfjloafebkjadaaGreatDoorAIDraw1
/- Regions that draw their order: the facts of a plan and of its run. -/
namespace Go.AI
open Go.RowKit (Below)
variable {P : Program} {T : Tab} {X : Oracle} {w0 : World} {k n : Nat} {ops : List Oper}

theorem chain_steps {p : List PStep} {env e1 : Env} {h h1 : AH} {rs : List Rec} (c : Chain T X k n ops p env h rs e1 h1) : rs.map (·.s) = p ∧ ∀ r ∈ rs, lget ops r.s.idx = some r.o := by
  induction c with
  | nil => simp
  | skip hl hg hp _ ih => exact ⟨by simp [ih.1], fun r hr => by rcases List.mem_cons.1 hr with rfl | hr; exact hl; exact ih.2 r hr⟩
  | go hl hg hj ho hn hp _ ih => exact ⟨by simp [ih.1], fun r hr => by rcases List.mem_cons.1 hr with rfl | hr; exact hl; exact ih.2 r hr⟩

/-- What a step did. -/
def StepFact (T : Tab) (X : Oracle) (k n : Nat) (ops : List Oper) (r : Rec) (env2 : Env) : Prop :=
  putDst n r.env r.o.dst r.v = some env2 ∧ r.h.next ≤ r.h'.next ∧
  ((r.go = false ∧ guardOk r.env ops r.o = some false ∧ r.v = .tuple [] ∧ r.h' = r.h) ∨
   (r.go = true ∧ guardOk r.env ops r.o = some true ∧ ∃ j, j ≤ k ∧ aop T X j r.env r.h r.o.op = some (r.v, r.h')))
theorem chain_at {p : List PStep} {env e1 : Env} {h h1 : AH} {rs : List Rec} (c : Chain T X k n ops p env h rs e1 h1) : ∀ {i : Nat} {r : Rec}, rs[i]? = some r → ∃ env2, StepFact T X k n ops r env2 ∧ Chain T X k n ops (p.drop (i + 1)) env2 r.h' (rs.drop (i + 1)) e1 h1 := by
  induction c with
  | nil => intro i r hr; simp at hr
  | skip hl hg hp t ih =>
    intro i r hr
    cases i with
    | zero => simp at hr; subst hr; exact ⟨_, ⟨hp, Nat.le_refl _, .inl ⟨rfl, hg, rfl, rfl⟩⟩, t⟩
    | succ i => simp at hr; obtain ⟨e2, g1, g2⟩ := ih hr; exact ⟨e2, g1, by simpa using g2⟩
  | go hl hg hj ho hn hp t ih =>
    intro i r hr
    cases i with
    | zero => simp at hr; subst hr; exact ⟨_, ⟨hp, hn, .inr ⟨rfl, hg, _, hj, ho⟩⟩, t⟩
    | succ i => simp at hr; obtain ⟨e2, g1, g2⟩ := ih hr; exact ⟨e2, g1, by simpa using g2⟩

/-! Heaps -/
def effs (rs : List Rec) : List Rec := rs.filter (·.s.eff)
def HPl : List Rec → AH → Nat → AH
  | [], hF, _ => hF
  | r :: rs, hF, j => if r.s.eff then (match j with | 0 => r.h | j + 1 => HPl rs hF j) else HPl rs hF j
def Flag (T : Tab) (rs : List Rec) : Prop := ∀ r ∈ rs, r.s.eff = decide (kindOf T r.o.op = .eff)
theorem aop_le {j : Nat} {env : Env} {h h' : AH} {o : Op} {v : AV} (ho : aop T X j env h o = some (v, h')) (hne : kindOf T o ≠ .eff) : h.le h' := by
  cases j with
  | zero => simp [aop] at ho
  | succ j =>
    unfold aop at ho
    split at ho
    · split at ho
      · cases ho; exact AH.le_refl _
      · cases ho
    · split at ho
      · rename_i b mk hb hn; cases ho; exact AH.le_new _ hn
      · cases ho
    · rename_i hk; exact absurd hk hne
theorem step_le {r : Rec} {env2 : Env} (hf : StepFact T X k n ops r env2) (he : r.s.eff = decide (kindOf T r.o.op = .eff)) (hne : r.s.eff = false) : r.h.le r.h' := by
  obtain ⟨_, _, h1 | ⟨_, _, j, _, ho⟩⟩ := hf
  · rw [h1.2.2.2]; exact AH.le_refl _
  · exact aop_le ho (by rw [he] at hne; simpa using hne)
theorem chain_grow {p : List PStep} {env e1 : Env} {h h1 : AH} {rs : List Rec} (c : Chain T X k n ops p env h rs e1 h1) (hf : Flag T rs) : h.le (HPl rs h1 0) ∧ h.next ≤ (HPl rs h1 0).next := by
  induction c with
  | nil => exact ⟨AH.le_refl _, Nat.le_refl _⟩
  | @skip s rest env env' e1 h h1 o rs hl hg hp t ih =>
    have ih' := ih fun r hr => hf r (List.mem_cons_of_mem _ hr)
    simp only [HPl]
    split
    · exact ⟨AH.le_refl _, Nat.le_refl _⟩
    · exact ih'
  | @go s rest env env' e1 h h' h1 o rs v j hl hg hj ho hn hp t ih =>
    have ih' := ih fun r hr => hf r (List.mem_cons_of_mem _ hr)
    have he := hf ⟨s, o, env, h, true, v, h'⟩ (by simp)
    have hsf : StepFact T X k n ops ⟨s, o, env, h, true, v, h'⟩ env' := ⟨hp, hn, .inr ⟨rfl, hg, j, hj, ho⟩⟩
    simp only [HPl]
    split
    · exact ⟨AH.le_refl _, Nat.le_refl _⟩
    · rename_i hne
      have := step_le hsf he (by simpa using hne)
      exact ⟨AH.le_trans this ih'.1, Nat.le_trans hn ih'.2⟩
theorem chain_next {p : List PStep} {env e1 : Env} {h h1 : AH} {rs : List Rec} (c : Chain T X k n ops p env h rs e1 h1) : ∀ r ∈ rs, h.next ≤ r.h.next ∧ r.h.next ≤ r.h'.next := by
  induction c with
  | nil => intro r hr; cases hr
  | skip hl hg hp t ih =>
    intro r hr
    rcases List.mem_cons.1 hr with rfl | hr
    · exact ⟨Nat.le_refl _, Nat.le_refl _⟩
    · exact ih r hr
  | go hl hg hj ho hn hp t ih =>
    intro r hr
    rcases List.mem_cons.1 hr with rfl | hr
    · exact ⟨Nat.le_refl _, hn⟩
    · have := ih r hr; exact ⟨Nat.le_trans hn this.1, this.2⟩
theorem HPl_at : ∀ {rs : List Rec} {hF : AH} {i : Nat} (j : Nat), i ≤ rs.length → HPl rs hF ((effs (rs.take i)).length + j) = HPl (rs.drop i) hF j
  | rs, hF, 0, j, _ => by simp [effs]
  | [], hF, i + 1, j, h => by simp at h
  | r :: rs, hF, i + 1, j, h => by
    simp only [List.take_succ_cons, List.drop_succ_cons, HPl]
    have ih := HPl_at (rs := rs) (hF := hF) (i := i) j (by simpa using h)
    cases he : r.s.eff
    · simp only [effs, List.filter_cons, he, Bool.false_eq_true, if_false]; exact ih
    · simp only [effs, List.filter_cons, he, if_true, List.length_cons]
      have : (effs (rs.take i)).length + 1 + j = ((effs (rs.take i)).length + j) + 1 := by omega
      simp only [effs] at this ih
      rw [this]; exact ih
theorem HPl_end : ∀ {rs : List Rec} {hF : AH} {j : Nat}, (effs rs).length ≤ j → HPl rs hF j = hF
  | [], _, _, _ => rfl
  | r :: rs, hF, j, h => by
    simp only [HPl]
    cases he : r.s.eff
    · simp only [effs, List.filter_cons, he, Bool.false_eq_true, if_false] at h ⊢
      exact HPl_end h
    · simp only [effs, List.filter_cons, he, if_true, List.length_cons] at h ⊢
      cases j with
      | zero => omega
      | succ j => exact HPl_end (by simpa [effs] using h)
theorem eff_nth {p : List PStep} {env e1 : Env} {h h1 : AH} {rs : List Rec} (c : Chain T X k n ops p env h rs e1 h1) (hf : Flag T rs) : ∀ {i : Nat} {e : Rec}, (effs rs)[i]? = some e → e.h'.le (HPl rs h1 (i + 1)) ∧ e.h'.next ≤ (HPl rs h1 (i + 1)).next := by
  induction c with
  | nil => intro i e he; simp [effs] at he
  | @skip s rest env env' e1 h h1 o rs hl hg hp t ih =>
    intro i e he
    have hf' : Flag T rs := fun r hr => hf r (List.mem_cons_of_mem _ hr)
    simp only [effs, List.filter_cons] at he
    simp only [HPl]
    split at he
    · rename_i hs
      rw [if_pos hs]
      cases i with
      | zero => simp at he; subst he; exact chain_grow t hf'
      | succ i => simp at he; exact ih hf' he
    · rename_i hs
      rw [if_neg hs]; exact ih hf' he
  | @go s rest env env' e1 h h' h1 o rs v j hl hg hj ho hn hp t ih =>
    intro i e he
    have hf' : Flag T rs := fun r hr => hf r (List.mem_cons_of_mem _ hr)
    simp only [effs, List.filter_cons] at he
    simp only [HPl]
    split at he
    · rename_i hs
      rw [if_pos hs]
      cases i with
      | zero => simp at he; subst he; exact chain_grow t hf'
      | succ i => simp at he; exact ih hf' he
    · rename_i hs
      rw [if_neg hs]; exact ih hf' he

/-! Slots -/
def Apart (rs : List Rec) : Prop := ∀ (i j : Nat) (r q : Rec), rs[i]? = some r → rs[j]? = some q → i < j → ∀ d, r.o.dst = some d → q.o.dst ≠ some d
theorem put_at {env env' : Env} {dst : Option Tmp} {v : AV} (hp : putDst n env dst v = some env') (t : Tmp) : Env.at env' t = if dst = some t then v else Env.at env t := by
  cases dst with
  | none => simp only [putDst, Option.some.injEq] at hp; subst hp; simp
  | some d =>
    simp only [putDst] at hp
    split at hp
    · cases hp
      rw [Env.at_put]
      by_cases e : t = d
      · subst e; simp
      · rw [if_neg e, if_neg (by simp; exact fun h => e h.symm)]
    · cases hp
def envAt (rs : List Rec) (e1 : Env) (i : Nat) : Env := match rs[i]? with | some r => r.env | none => e1
theorem chain_env {p : List PStep} {env e1 : Env} {h h1 : AH} {rs : List Rec} (c : Chain T X k n ops p env h rs e1 h1) (hd : Apart rs) : ∀ {i : Nat}, i ≤ rs.length → ∀ t,
    ((∀ r ∈ rs.take i, r.o.dst ≠ some t) → Env.at (envAt rs e1 i) t = Env.at env t) ∧ (∀ r ∈ rs.take i, r.o.dst = some t → Env.at (envAt rs e1 i) t = r.v) := by
  have core : ∀ {s : Rec} {rs : List Rec} {env env' e1 : Env}, Apart (s :: rs) → s.env = env → putDst n env s.o.dst s.v = some env' →
      (∀ {i : Nat}, i ≤ rs.length → ∀ t, ((∀ r ∈ rs.take i, r.o.dst ≠ some t) → Env.at (envAt rs e1 i) t = Env.at env' t) ∧ (∀ r ∈ rs.take i, r.o.dst = some t → Env.at (envAt rs e1 i) t = r.v)) →
      ∀ {i : Nat}, i ≤ (s :: rs).length → ∀ t, ((∀ r ∈ (s :: rs).take i, r.o.dst ≠ some t) → Env.at (envAt (s :: rs) e1 i) t = Env.at env t) ∧ (∀ r ∈ (s :: rs).take i, r.o.dst = some t → Env.at (envAt (s :: rs) e1 i) t = r.v) := by
    intro s rs env env' e1 hd he hp ih i hi t
    cases i with
    | zero => simp [envAt, he]
    | succ i =>
      have e : envAt (s :: rs) e1 (i + 1) = envAt rs e1 i := by simp [envAt]
      rw [e]
      obtain ⟨h1, h2⟩ := ih (i := i) (by simpa using hi) t
      have hput := put_at hp t
      refine ⟨fun hn => ?_, fun r hr hdst => ?_⟩
      · rw [h1 fun r hr => hn r (by simp [hr]), hput, if_neg (hn s (by simp))]
      · rw [List.take_succ_cons] at hr
        rcases List.mem_cons.1 hr with rfl | hr
        · rw [h1 ?_, hput, if_pos hdst]
          intro q hq hqd
          obtain ⟨j, hj, rfl⟩ := List.getElem_of_mem hq
          have hj' : j < rs.length := by simp at hj; omega
          refine hd 0 (j + 1) r rs[j] (by simp) (by simp [hj']) (by omega) t hdst ?_
          simpa using hqd
        · exact h2 r hr hdst
  induction c with
  | nil env h => intro i hi t; have : i = 0 := by simpa using hi
                 subst this; simp [envAt]
  | @skip s rest env env' e1 h h1 o rs hl hg hp t ih =>
    refine @core _ _ _ _ _ hd rfl hp (ih fun i j r q hr hq hij => hd (i + 1) (j + 1) r q (by simpa using hr) (by simpa using hq) (by omega))
  | @go s rest env env' e1 h h' h1 o rs v j hl hg hj ho hn hp t ih =>
    refine @core _ _ _ _ _ hd rfl hp (ih fun i j r q hr hq hij => hd (i + 1) (j + 1) r q (by simpa using hr) (by simpa using hq) (by omega))
theorem recheck_at : ∀ {rs : List Rec}, recheck T rs = true → ∀ {i : Nat} {r : Rec}, rs[i]? = some r → r.s.eff = false → ∀ {j : Nat} {e : Rec}, (effs (rs.drop (i + 1)))[j]? = some e → j < r.s.hi - r.s.lo → again T r e.h' = true
  | [], _, i, r, h, _, _, _, _, _ => by simp at h
  | x :: rs, hr, 0, r, h, hne, j, e, he, hj => by
    simp at h; subst h
    simp only [recheck, Bool.and_eq_true, Bool.or_eq_true, hne, Bool.false_eq_true, false_or] at hr
    have := List.all_eq_true.1 hr.1 e (by
      rw [List.drop_succ_cons, List.drop_zero] at he
      refine List.mem_of_getElem? (i := j) ?_
      rw [List.getElem?_take, if_pos hj]; exact he)
    exact this
  | x :: rs, hr, i + 1, r, h, hne, j, e, he, hj => by
    simp only [recheck, Bool.and_eq_true] at hr
    exact recheck_at hr.2 (by simpa using h) hne (by simpa using he) hj
end Go.AI
