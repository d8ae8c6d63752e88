import Derived.Test.YtfjloafebkjadaaGreatDoorAIDraw2
/- Regions that draw their order: whatever order comes up, the plan's run stands for it. -/
namespace Go.AI
open Go.RowKit (Below)
variable {P : Program} {T : Tab} {X : Oracle} {w0 : World} {k n m : Nat} {ops : List Oper}

theorem okFrom_at : ∀ {l prev : List PStep}, okFrom T ops m prev l = true → ∀ {i : Nat} {s : PStep}, l[i]? = some s → okStep T ops m (prev ++ l.take i) s (l.drop (i + 1)) = true
  | [], _, _, i, s, h => by simp at h
  | x :: l, prev, hf, 0, s, h => by
    simp at h; subst h
    simp only [okFrom, Bool.and_eq_true] at hf
    simpa using hf.1
  | x :: l, prev, hf, i + 1, s, h => by
    simp only [okFrom, Bool.and_eq_true] at hf
    have := okFrom_at hf.2 (i := i) (s := s) (by simpa using h)
    simpa using this
structure RecFacts (T : Tab) (ops : List Oper) (m : Nat) (rs : List Rec) (i : Nat) (r : Rec) : Prop where
  op : ops[r.s.idx]? = some r.o
  edges : ∀ e ∈ edges r.o, ∃ (q : Nat) (r' : Rec), q < i ∧ rs[q]? = some r' ∧ r'.s.idx = e
  idx : ∀ (q : Nat) (r' : Rec), q < i → rs[q]? = some r' → r'.s.idx ≠ r.s.idx
  flag : r.s.eff = decide (kindOf T r.o.op = .eff)
  lo : r.s.lo = (effs (rs.take i)).length
  via : r.s.lo = 0 ∨ ∃ e ∈ Go.AI.edges r.o, ∃ (q : Nat) (r' : Rec), q < i ∧ rs[q]? = some r' ∧ r'.s.idx = e ∧ r'.s.post = r.s.lo
  dst : ∀ (q : Nat) (r' : Rec) d, q < i → rs[q]? = some r' → r.o.dst = some d → r'.o.dst ≠ some d
  looks : ∀ t ∈ looks ops r.o, ∀ (p : Nat) (o' : Oper), ops[p]? = some o' → o'.dst = some t → p ∈ Go.AI.edges r.o ∨ r.s.idx ∈ Go.AI.edges o'
  hi : r.s.eff = true ∨ r.s.hi = m ∨ ∃ (q : Nat) (r' : Rec), i < q ∧ rs[q]? = some r' ∧ r'.s.cap = r.s.hi ∧ r.s.idx ∈ Go.AI.edges r'.o
theorem any_take {rs : List Rec} {i : Nat} {f : PStep → Bool} (h : ((rs.map (·.s)).take i).any f = true) : ∃ (q : Nat) (r' : Rec), q < i ∧ rs[q]? = some r' ∧ f r'.s = true := by
  obtain ⟨s, hs, hf⟩ := List.any_eq_true.1 h
  obtain ⟨q, hq, rfl⟩ := List.getElem_of_mem hs
  simp at hq
  refine ⟨q, rs[q]'(by omega), by omega, by simp, ?_⟩
  simpa using hf
theorem any_drop {rs : List Rec} {i : Nat} {f : PStep → Bool} (h : ((rs.map (·.s)).drop (i + 1)).any f = true) : ∃ (q : Nat) (r' : Rec), i < q ∧ rs[q]? = some r' ∧ f r'.s = true := by
  obtain ⟨s, hs, hf⟩ := List.any_eq_true.1 h
  obtain ⟨q, hq, rfl⟩ := List.getElem_of_mem hs
  simp at hq
  refine ⟨i + 1 + q, rs[i + 1 + q]'(by omega), by omega, by simp, ?_⟩
  simpa using hf
theorem recFacts {rs : List Rec} (hl : ∀ r ∈ rs, lget ops r.s.idx = some r.o) (hf : okFrom T ops m [] (rs.map (·.s)) = true) {i : Nat} {r : Rec} (hr : rs[i]? = some r) : RecFacts T ops m rs i r := by
  have h0 := okFrom_at hf (i := i) (s := r.s) (by simp [hr])
  rw [List.nil_append] at h0
  have hop := hl r (List.mem_of_getElem? hr)
  unfold okStep at h0
  rw [hop] at h0
  simp only [Bool.and_eq_true] at h0
  obtain ⟨⟨⟨⟨⟨⟨⟨⟨⟨a1, a2⟩, a3⟩, a4⟩, a5⟩, a6⟩, a7⟩, a8⟩, a9⟩, _⟩ := h0
  refine ⟨by rw [lget_eq] at hop; exact hop, fun e he => ?_, fun q r' hq hr' heq => ?_, by simpa using a3, ?_, ?_, fun q r' d hq hr' hd => ?_, fun t ht p o' hp ho' => ?_, ?_⟩
  · have := List.all_eq_true.1 a1 e he
    obtain ⟨q, r', h1, h2, h3⟩ := any_take this
    exact ⟨q, r', h1, h2, by simpa using h3⟩
  · simp only [Bool.not_eq_true', List.any_eq_false] at a2
    have hm : r'.s ∈ (rs.map (·.s)).take i := by
      refine List.mem_of_getElem? (i := q) ?_
      rw [List.getElem?_take, if_pos hq]; simp [hr']
    exact a2 _ hm (by simpa using heq)
  · simp only [beq_iff_eq] at a4
    rw [a4, phases, ← List.map_take, List.filter_map, List.length_map]; rfl
  · simp only [Bool.or_eq_true, beq_iff_eq] at a5
    rcases a5 with a5 | a5
    · exact .inl a5
    · obtain ⟨e, he, hany⟩ := List.any_eq_true.1 a5
      obtain ⟨q, r', h1, h2, h3⟩ := any_take hany
      simp only [Bool.and_eq_true, beq_iff_eq] at h3
      exact .inr ⟨e, he, q, r', h1, h2, h3.1, h3.2⟩
  · rw [hd] at a6
    have hm : r'.s ∈ (rs.map (·.s)).take i := by
      refine List.mem_of_getElem? (i := q) ?_
      rw [List.getElem?_take, if_pos hq]; simp [hr']
    have := List.all_eq_true.1 a6 _ hm
    rw [hl r' (List.mem_of_getElem? hr')] at this
    simpa using this
  · have h1 := List.all_eq_true.1 a7 t ht
    have hm : (o', p) ∈ ops.zipIdx := by
      obtain ⟨hlt, rfl⟩ := List.getElem?_eq_some_iff.1 hp
      exact List.mem_zipIdx_iff_getElem?.2 (by simp)
    have h2 := List.all_eq_true.1 h1 _ hm
    simp only [Bool.or_eq_true, bne_iff_ne, ne_eq] at h2
    rcases h2 with (h2 | h2) | h2
    · exact absurd ho' h2
    · exact .inl (by simpa using h2)
    · exact .inr (by simpa using h2)
  · simp only [Bool.or_eq_true, beq_iff_eq] at a9
    rcases a9 with (a9 | a9) | a9
    · exact .inl a9
    · exact .inr (.inl a9)
    · obtain ⟨q, r', h1, h2, h3⟩ := any_drop a9
      simp only [Bool.and_eq_true, beq_iff_eq] at h3
      rw [hl r' (List.mem_of_getElem? h2)] at h3
      exact .inr (.inr ⟨q, r', h1, h2, h3.1, by simpa using h3.2⟩)

/-- All that is known of a plan's run. -/
structure Run (P : Program) (T : Tab) (X : Oracle) (k n : Nat) (ops : List Oper) (rs : List Rec) (env0 : Env) (h0 : AH) (e1 : Env) (hF : AH) : Prop where
  chain : Chain T X k n ops (rs.map (·.s)) env0 h0 rs e1 hF
  facts : ∀ (i : Nat) (r : Rec), rs[i]? = some r → RecFacts T ops (effs rs).length rs i r
  all : ∀ i, i < ops.length → ∃ (p : Nat) (r : Rec), rs[p]? = some r ∧ r.s.idx = i
  re : recheck T rs = true
variable {rs : List Rec} {env0 e1 : Env} {h0 hF : AH}
theorem Run.flag (R : Run P T X k n ops rs env0 h0 e1 hF) : Flag T rs := fun r hr => by
  obtain ⟨i, hi, rfl⟩ := List.getElem_of_mem hr
  exact (R.facts i _ (by simp)).flag
theorem Run.apart (R : Run P T X k n ops rs env0 h0 e1 hF) : Apart rs := fun i j r q hr hq hij d hd hqd => (R.facts j q hq).dst i r d hij hr hqd hd
theorem Run.uniq (R : Run P T X k n ops rs env0 h0 e1 hF) {i j : Nat} {r q : Rec} (hr : rs[i]? = some r) (hq : rs[j]? = some q) (e : r.s.idx = q.s.idx) : i = j := by
  rcases Nat.lt_trichotomy i j with h | h | h
  · exact absurd e ((R.facts j q hq).idx i r h hr)
  · exact h
  · exact absurd e.symm ((R.facts i r hr).idx j q h hq)
theorem Run.eff_heap (R : Run P T X k n ops rs env0 h0 e1 hF) {i : Nat} {r : Rec} (hr : rs[i]? = some r) (he : r.s.eff = true) : HPl rs hF r.s.lo = r.h ∧ r.h'.le (HPl rs hF (r.s.lo + 1)) ∧ r.h'.next ≤ (HPl rs hF (r.s.lo + 1)).next := by
  have hlo := (R.facts i r hr).lo
  obtain ⟨hlt, hget⟩ := List.getElem?_eq_some_iff.1 hr
  have hdrop : rs.drop i = r :: rs.drop (i + 1) := by rw [← hget]; exact (List.drop_eq_getElem_cons hlt)
  obtain ⟨env2, _, hc⟩ := chain_at R.chain hr
  have hg := chain_grow hc (fun q hq => R.flag q (List.mem_of_mem_drop hq))
  refine ⟨?_, ?_⟩
  · have := HPl_at (rs := rs) (hF := hF) (i := i) 0 (by omega)
    rw [Nat.add_zero, ← hlo, hdrop] at this
    rw [this]; simp [HPl, he]
  · have := HPl_at (rs := rs) (hF := hF) (i := i) 1 (by omega)
    rw [← hlo, hdrop] at this
    rw [this]
    simp only [HPl, he, if_true]
    exact hg
theorem Run.non_heap (R : Run P T X k n ops rs env0 h0 e1 hF) {i : Nat} {r : Rec} (hr : rs[i]? = some r) (he : r.s.eff = false) : r.h'.le (HPl rs hF r.s.lo) ∧ r.h'.next ≤ (HPl rs hF r.s.lo).next := by
  have hlo := (R.facts i r hr).lo
  obtain ⟨hlt, hget⟩ := List.getElem?_eq_some_iff.1 hr
  have hdrop : rs.drop i = r :: rs.drop (i + 1) := by rw [← hget]; exact (List.drop_eq_getElem_cons hlt)
  obtain ⟨env2, _, hc⟩ := chain_at R.chain hr
  have hg := chain_grow hc (fun q hq => R.flag q (List.mem_of_mem_drop hq))
  have := HPl_at (rs := rs) (hF := hF) (i := i) 0 (by omega)
  rw [Nat.add_zero, ← hlo, hdrop] at this
  rw [this]
  simp only [HPl, he, Bool.false_eq_true, if_false]
  exact hg
/-- In a later phase: looked at again. -/
theorem Run.later (R : Run P T X k n ops rs env0 h0 e1 hF) {i : Nat} {r : Rec} (hr : rs[i]? = some r) (he : r.s.eff = false) {j : Nat} (h1 : r.s.lo < j) (h2 : j ≤ r.s.hi) (h3 : j ≤ (effs rs).length) :
    ∃ e : Rec, again T r e.h' = true ∧ e.h'.le (HPl rs hF j) ∧ e.h'.next ≤ (HPl rs hF j).next ∧ r.h'.next ≤ e.h'.next := by
  have hlo := (R.facts i r hr).lo
  obtain ⟨hlt, hget⟩ := List.getElem?_eq_some_iff.1 hr
  have hdrop : rs.drop i = r :: rs.drop (i + 1) := by rw [← hget]; exact (List.drop_eq_getElem_cons hlt)
  obtain ⟨env2, _, hc⟩ := chain_at R.chain hr
  have hfl : Flag T (rs.drop (i + 1)) := fun q hq => R.flag q (List.mem_of_mem_drop hq)
  have hsplit : (effs rs).length = (effs (rs.take i)).length + (effs (rs.drop (i + 1))).length := by
    have : effs rs = effs (rs.take i) ++ effs (rs.drop i) := by unfold effs; rw [← List.filter_append, List.take_append_drop]
    rw [this, List.length_append, hdrop]
    simp [effs, he]
  have hidx : j - r.s.lo - 1 < (effs (rs.drop (i + 1))).length := by omega
  let e := (effs (rs.drop (i + 1)))[j - r.s.lo - 1]
  have hee : (effs (rs.drop (i + 1)))[j - r.s.lo - 1]? = some e := List.getElem?_eq_getElem hidx
  have hag := recheck_at R.re hr he hee (by omega)
  have hn := eff_nth hc hfl hee
  have hmem : e ∈ rs.drop (i + 1) := (List.mem_filter.1 (List.mem_of_getElem? hee)).1
  have hnx := chain_next hc e hmem
  have hH : HPl rs hF j = HPl (rs.drop (i + 1)) hF (j - r.s.lo - 1 + 1) := by
    have := HPl_at (rs := rs) (hF := hF) (i := i) (j - r.s.lo) (by omega)
    rw [← hlo, hdrop] at this
    have e1 : r.s.lo + (j - r.s.lo) = j := by omega
    have e2 : j - r.s.lo - 1 + 1 = j - r.s.lo := by omega
    rw [e1] at this
    rw [this, e2]
    simp [HPl, he]
  rw [hH]
  exact ⟨e, hag, hn.1, hn.2, by omega⟩
theorem Run.step (R : Run P T X k n ops rs env0 h0 e1 hF) {i : Nat} {r : Rec} (hr : rs[i]? = some r) : ∃ env2, StepFact T X k n ops r env2 := by
  obtain ⟨env2, h1, _⟩ := chain_at R.chain hr
  exact ⟨env2, h1⟩
theorem Run.quiet (R : Run P T X k n ops rs env0 h0 e1 hF) {i : Nat} {r : Rec} (hr : rs[i]? = some r) (hq : kindOf T r.o.op = .quiet) (hgo : r.go = true) {j : Nat} (h1 : r.s.lo ≤ j) (h2 : j ≤ r.s.hi) (h3 : j ≤ (effs rs).length) :
    aquiet T r.env (HPl rs hF j) r.o.op = some r.v := by
  have he : r.s.eff = false := by rw [(R.facts i r hr).flag, hq]; rfl
  obtain ⟨env2, hs⟩ := R.step hr
  obtain ⟨_, _, hs | ⟨_, _, jj, _, ho⟩⟩ := hs
  · rw [hs.1] at hgo; cases hgo
  · have hq0 : aquiet T r.env r.h r.o.op = some r.v ∧ r.h' = r.h := by
      cases jj with
      | zero => simp [aop] at ho
      | succ jj =>
        unfold aop at ho
        rw [hq] at ho
        dsimp only at ho
        split at ho
        · rename_i u hu
          have ho' := Option.some.inj ho
          have e1 := congrArg Prod.fst ho'
          have e2 := congrArg Prod.snd ho'
          dsimp only at e1 e2
          rw [← e1]; exact ⟨hu, e2.symm⟩
        · cases ho
    by_cases hj : j = r.s.lo
    · subst hj
      have := R.non_heap hr he
      rw [hq0.2] at this
      exact quiet_mono this.1 hq0.1
    · obtain ⟨e, g1, g2, _⟩ := R.later hr he (by omega) h2 h3
      unfold again at g1
      rw [hgo, hq] at g1
      simp only [Bool.not_true, Bool.false_or] at g1
      split at g1
      · rename_i u hu
        rw [veq_sound g1]
        exact quiet_mono g2 hu
      · cases g1
theorem Run.fresh (R : Run P T X k n ops rs env0 h0 e1 hF) {i : Nat} {r : Rec} (hr : rs[i]? = some r) (hq : kindOf T r.o.op = .fresh) (hgo : r.go = true) :
    ∃ b mk, afresh T r.env r.o.op = some (b, mk) ∧ r.v = mk.av r.h.next ∧ r.h'.next = r.h.next + 1 ∧ ∀ j, r.s.lo ≤ j → j ≤ r.s.hi → j ≤ (effs rs).length → (HPl rs hF j).t.get r.h.next = some b ∧ r.h.next < (HPl rs hF j).next := by
  have he : r.s.eff = false := by rw [(R.facts i r hr).flag, hq]; rfl
  obtain ⟨env2, hs⟩ := R.step hr
  obtain ⟨_, _, hs | ⟨_, _, jj, _, ho⟩⟩ := hs
  · rw [hs.1] at hgo; cases hgo
  · cases jj with
    | zero => simp [aop] at ho
    | succ jj =>
      unfold aop at ho
      rw [hq] at ho
      dsimp only at ho
      split at ho
      · rename_i b mk hb hnone
        have ho' := Option.some.inj ho
        have e1 := congrArg Prod.fst ho'
        have e2 := congrArg Prod.snd ho'
        dsimp only at e1 e2
        have hget : r.h'.t.get r.h.next = some b := by rw [← e2]; simp only [AH.new]; exact Tree.get_put_same ..
        have hnx : r.h'.next = r.h.next + 1 := by rw [← e2]; rfl
        refine ⟨b, mk, hb, e1.symm, hnx, fun j h1 h2 h3 => ?_⟩
        by_cases hj : j = r.s.lo
        · subst hj
          have := R.non_heap hr he
          exact ⟨this.1 _ _ hget, by omega⟩
        · obtain ⟨e, g1, g2, g3, g4⟩ := R.later hr he (by omega) h2 h3
          unfold again at g1
          rw [hgo, hq] at g1
          simp only [Bool.not_true, Bool.false_or] at g1
          rw [hb] at g1
          split at g1
          · rename_i o' mk' o'' ha hg
            cases ha
            rw [← oeq_sound g1] at hg
            exact ⟨g2 _ _ hg, by omega⟩
          · cases g1
      · cases ho
end Go.AI
