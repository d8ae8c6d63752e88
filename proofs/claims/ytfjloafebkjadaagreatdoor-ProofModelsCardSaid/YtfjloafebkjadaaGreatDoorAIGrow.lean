import Derived.Test.YtfjloafebkjadaaGreatDoorAIRow
/- Regions that draw their order, where all that acts only adds objects: looking again finds the same. -/
namespace Go.AI
def Good (T : Tab) : AH → List Rec → Prop
  | _, [] => True
  | h, r :: rs => h.le r.h' ∧ (r.go = true → kindOf T r.o.op = .quiet → ∃ v, aquiet T r.env h r.o.op = some v ∧ veq r.v v = true) ∧ (kindOf T r.o.op = .fresh → r.s.eff = true ∨ r.s.hi ≤ r.s.lo) ∧ Good T r.h' rs
variable {T : Tab} {X : Oracle} {n : Nat} {σ : Nat → AV} {h : AH}
theorem AH.le.trans' {a b c : AH} (h1 : a.le b) (h2 : b.le c) : a.le c := fun _ _ e => h2 _ _ (h1 _ _ e)
theorem good_le : ∀ {rs : List Rec} {h : AH}, Good T h rs → ∀ e ∈ rs, h.le e.h'
  | [], _, _, _, he => by cases he
  | r :: rs, h, hg, e, he => by
    rcases List.mem_cons.1 he with rfl | he
    · exact hg.1
    · exact AH.le.trans' hg.1 (good_le hg.2.2.2 e he)
theorem good_recheck : ∀ {rs : List Rec} {h : AH}, Good T h rs → recheck T rs = true
  | [], _, _ => rfl
  | r :: rs, h, hg => by
    simp only [recheck, good_recheck hg.2.2.2, Bool.and_true, Bool.or_eq_true]
    cases hk : kindOf T r.o.op with
    | eff => right; rw [List.all_eq_true]; intro e _; simp [again, hk]
    | fresh =>
      rcases hg.2.2.1 hk with h1 | h1
      · exact .inl h1
      · right; rw [Nat.sub_eq_zero_of_le h1]; simp
    | quiet =>
      right; rw [List.all_eq_true]
      intro e he
      have he' : e ∈ rs := (List.mem_filter.1 (List.mem_of_mem_take he)).1
      cases hgo : r.go with
      | false => simp [again, hgo]
      | true =>
        obtain ⟨v, h1, h2⟩ := hg.2.1 hgo hk
        have := quiet_mono (AH.le.trans' hg.1 (good_le hg.2.2.2 e he')) h1
        simp [again, hgo, hk, this, h2]
variable (T X) in
structure EvG (n : Nat) (ops : List Oper) (p : List PStep) (σ : Nat → AV) (h : AH) (Q : (Nat → AV) → AH → Prop) : Prop where
  out : ∃ K σ' h', (∀ env, Env.at env = σ → ∀ k, K ≤ k → ∃ rs env', Env.at env' = σ' ∧ arun T X k n ops p env h = some (rs, env', h') ∧ Good T h rs) ∧ h.next ≤ h'.next ∧ Q σ' h'
theorem EvC.drawnG {id : Nat} {ops : Array Oper} {l : List Oper} {p : List PStep} {Q : AExit → (Nat → AV) → AH → Prop} (hl : ops.toList = l) (hp : plan T l = p) (hk : planOk T l p = true) (H : EvG T X n l p σ h (Q .normal)) : EvC T X n (.region id ops true) σ h Q := by
  subst hl; subst hp
  obtain ⟨K, e, h', h1, h2, h3⟩ := H
  refine ⟨K + 1, .normal, e, h', fun env he k hk' => ?_, h2, h3⟩
  obtain ⟨j, rfl, hj⟩ := up hk'
  obtain ⟨rs, env1, a1, a2, hr⟩ := h1 env he j (by omega)
  exact ⟨env1, a1, by simp only [acode, hk, if_true, a2, good_recheck hr]⟩
theorem EvG.nil {ops : List Oper} {Q : (Nat → AV) → AH → Prop} (H : Q σ h) : EvG T X n ops [] σ h Q := by
  refine ⟨1, σ, h, fun env he k hk => ?_, Nat.le_refl _, H⟩
  obtain ⟨j, rfl, hj⟩ := up hk
  exact ⟨[], env, he, by simp only [arun], trivial⟩
theorem EvG.off {ops : List Oper} {s : PStep} {p : List PStep} {o : Oper} {d : Nat} {Q : (Nat → AV) → AH → Prop} (ho : lget ops s.idx = some o) (hg : fguard σ ops o = some false) (hd : o.dst = some d) (hn : Nat.ble (d + 1) n = true) (hf : (match kindOf T o.op with | .fresh => s.eff || Nat.ble s.hi s.lo | _ => true) = true)
    (H : EvG T X n ops p (upd σ d (.tuple [])) h Q) : EvG T X n ops (s :: p) σ h Q := by
  have hn : d < n := Nat.le_of_ble_eq_true hn
  obtain ⟨K', e, h'', g1, g2, g3⟩ := H
  refine ⟨K' + 1, e, h'', fun env he k hk => ?_, g2, g3⟩
  obtain ⟨j, rfl, hj⟩ := up hk
  obtain ⟨rs, env2, b1, b2, b3⟩ := g1 (env.put d (.tuple [])) (by rw [at_upd, he]) j (by omega)
  refine ⟨⟨s, o, env, h, false, .tuple [], h⟩ :: rs, env2, b1, by simp only [arun, ho, fguard_eq, he, hg, putDst, hd, if_pos hn, b2], (fun _ _ e => e), (fun e => nomatch e), (fun hk => ?_), b3⟩
  simp only at hk
  rw [hk] at hf
  simpa using hf
theorem EvG.quiet {ops : List Oper} {s : PStep} {p : List PStep} {o : Oper} {d : Nat} {v : AV} {Q : (Nat → AV) → AH → Prop} (ho : lget ops s.idx = some o) (hg : fguard σ ops o = some true) (hd : o.dst = some d) (hn : Nat.ble (d + 1) n = true) (hk : kindOf T o.op = .quiet)
    (hv : fquiet T (evf σ) h o.op = some v) (hq : veq v v = true) (H : EvG T X n ops p (upd σ d v) h Q) : EvG T X n ops (s :: p) σ h Q := by
  have hn : d < n := Nat.le_of_ble_eq_true hn
  obtain ⟨K', e, h'', g1, g2, g3⟩ := H
  refine ⟨K' + 2, e, h'', fun env he k hk' => ?_, g2, g3⟩
  obtain ⟨j, rfl, hj⟩ := up hk'
  obtain ⟨i, rfl, hi⟩ := up hj
  obtain ⟨rs, env2, b1, b2, b3⟩ := g1 (env.put d v) (by rw [at_upd, he]) (i + 1) (by omega)
  have hv' : aquiet T env h o.op = some v := by rw [fquiet_eq, aev_evf, he]; exact hv
  have hop : aop T X (i + 1) env h o.op = some (v, h) := by simp only [aop, hk, hv']
  exact ⟨⟨s, o, env, h, true, v, h⟩ :: rs, env2, b1, by simp only [arun, ho, fguard_eq, he, hg, hop, putDst, hd, if_pos hn, if_neg (Nat.lt_irrefl _), b2], (fun _ _ e => e), (fun _ _ => ⟨v, hv', hq⟩), (fun e => nomatch hk.symm.trans e), b3⟩
theorem EvG.call {ops : List Oper} {s : PStep} {p : List PStep} {o : Oper} {d : Nat} {Q : (Nat → AV) → AH → Prop} (ho : lget ops s.idx = some o) (hg : fguard σ ops o = some true) (hd : o.dst = some d) (hn : Nat.ble (d + 1) n = true) (hk : kindOf T o.op = .eff)
    (H : EvP T X o.op σ h fun v h' => h.le h' ∧ EvG T X n ops p (upd σ d v) h' Q) : EvG T X n ops (s :: p) σ h Q := by
  have hn : d < n := Nat.le_of_ble_eq_true hn
  obtain ⟨K, v, h', h1, h2, hle, K', e, h'', g1, g2, g3⟩ := H
  refine ⟨max K K' + 1, e, h'', fun env he k hk' => ?_, Nat.le_trans h2 g2, g3⟩
  obtain ⟨j, rfl, hj⟩ := up hk'
  obtain ⟨rs, env2, b1, b2, b3⟩ := g1 (env.put d v) (by rw [at_upd, he]) j (by omega)
  exact ⟨⟨s, o, env, h, true, v, h'⟩ :: rs, env2, b1, by simp only [arun, ho, fguard_eq, he, hg, h1 env he j (by omega), putDst, hd, if_pos hn, if_neg (Nat.not_lt.2 h2), b2], hle, (fun _ e => nomatch hk.symm.trans e), (fun e => nomatch hk.symm.trans e), b3⟩
theorem RowOf.veq {size len : Nat} {v : AV} {g : Nat → List AV} (hr : RowOf h size v len g) : veq v v = true := by
  cases hr <;> simp [Go.AI.veq]
end Go.AI
