import Derived.Test.YtfjloafebkjadaaGreatDoorAIAuto
/- Regions that draw their order, where something acts: what is looked at twice lies in what stays. -/
namespace Go.AI
/-- 'G' stays until the act number 'm'; 'j': how many acted before. -/
def Stays (T : Tab) (m : Nat) : AH → Nat → List Rec → Prop
  | _, _, [] => True
  | G, j, r :: rs => r.s.lo = j ∧ (r.s.eff = true → j < m → G.le r.h') ∧ (r.go = true → r.s.lo < r.s.hi → kindOf T r.o.op = .quiet → r.s.hi ≤ m ∧ ∃ v, aquiet T r.env G r.o.op = some v ∧ veq r.v v = true) ∧
    ∃ G', Stays T m G' (if r.s.eff then j + 1 else j) rs ∧ G.le G' ∧ (r.go = true → r.s.eff = false → r.s.lo < r.s.hi → kindOf T r.o.op = .fresh → r.s.hi ≤ m ∧ ∃ o mk, afresh T r.env r.o.op = some (o, mk) ∧ oeq o o = true ∧ G'.t.get r.h.next = some o)
variable {T : Tab} {X : Oracle} {n m j : Nat} {σ : Nat → AV} {h G : AH}
theorem stays_le : ∀ {rs : List Rec} {G : AH} {j : Nat}, Stays T m G j rs → ∀ c, j + c ≤ m → ∀ e ∈ (rs.filter (·.s.eff)).take c, G.le e.h'
  | [], _, _, _, _, _, e, he => by simp at he
  | r :: rs, G, j, hg, c, hc, e, he => by
    obtain ⟨h1, h2, _, G', h3, h4, _⟩ := hg
    cases hr : r.s.eff with
    | true =>
      rw [List.filter_cons_of_pos (by simpa using hr)] at he
      rw [hr] at h3
      simp only [if_true] at h3
      cases c with
      | zero => simp at he
      | succ c =>
        rw [List.take_succ_cons] at he
        rcases List.mem_cons.1 he with rfl | he
        · exact h2 hr (by omega)
        · exact AH.le.trans' h4 (stays_le h3 c (by omega) e he)
    | false =>
      rw [List.filter_cons_of_neg (by simpa using hr)] at he
      rw [hr] at h3
      exact AH.le.trans' h4 (stays_le h3 c hc e he)
theorem stays_recheck : ∀ {rs : List Rec} {G : AH} {j : Nat}, Stays T m G j rs → recheck T rs = true
  | [], _, _, _ => rfl
  | r :: rs, G, j, hg => by
    obtain ⟨h0, _, hq, G', h1, h2, hf⟩ := hg
    simp only [recheck, stays_recheck h1, Bool.and_true, Bool.or_eq_true]
    cases he : r.s.eff with
    | true => left; rfl
    | false =>
      right
      rw [he] at h1
      rw [List.all_eq_true]
      intro e hm
      have hlt : r.s.lo < r.s.hi := by
        rcases Nat.lt_or_ge r.s.lo r.s.hi with hl | hl
        · exact hl
        · rw [Nat.sub_eq_zero_of_le hl] at hm; simp at hm
      cases hgo : r.go with
      | false => simp [again, hgo]
      | true =>
        cases hk : kindOf T r.o.op with
        | eff => simp [again, hk]
        | quiet =>
          obtain ⟨h5, v, h3, h4⟩ := hq hgo hlt hk
          have := quiet_mono (AH.le.trans' h2 (stays_le h1 (r.s.hi - r.s.lo) (by simp only [Bool.false_eq_true, if_false]; omega) e hm)) h3
          simp [again, hgo, hk, this, h4]
        | fresh =>
          obtain ⟨h5, o, mk, h3, h4, h6⟩ := hf hgo he hlt hk
          have := stays_le h1 (r.s.hi - r.s.lo) (by simp only [Bool.false_eq_true, if_false]; omega) e hm _ _ h6
          simp [again, hgo, hk, h3, this, h4]
variable (T X) in
structure EvH (m : Nat) (G : AH) (j : Nat) (n : Nat) (ops : List Oper) (p : List PStep) (σ : Nat → AV) (h : AH) (Q : (Nat → AV) → AH → Prop) : Prop where
  out : ∃ K σ' h', (∀ env, Env.at env = σ → ∀ k, K ≤ k → ∃ rs env', Env.at env' = σ' ∧ arun T X k n ops p env h = some (rs, env', h') ∧ Stays T m G j rs) ∧ h.next ≤ h'.next ∧ Q σ' h'
theorem EvC.drawnH (m : Nat) (G : AH) {id : Nat} {ops : Array Oper} {l : List Oper} {p : List PStep} {Q : AExit → (Nat → AV) → AH → Prop} (hl : ops.toList = l) (hp : plan T l = p) (hk : planOk T l p = true) (H : EvH T X m G 0 n l p σ h (Q .normal)) : EvC T X n (.region id ops true) σ h Q := by
  subst hl; subst hp
  obtain ⟨K, e, h', h1, h2, h3⟩ := H
  refine ⟨K + 1, .normal, e, h', fun env he k hk' => ?_, h2, h3⟩
  obtain ⟨j, rfl, hj⟩ := up hk'
  obtain ⟨rs, env1, a1, a2, hr⟩ := h1 env he j (by omega)
  exact ⟨env1, a1, by simp only [acode, hk, if_true, a2, stays_recheck hr]⟩
theorem EvH.nil {ops : List Oper} {Q : (Nat → AV) → AH → Prop} (H : Q σ h) : EvH T X m G j n ops [] σ h Q := by
  refine ⟨1, σ, h, fun env he k hk => ?_, Nat.le_refl _, H⟩
  obtain ⟨j, rfl, hj⟩ := up hk
  exact ⟨[], env, he, by simp only [arun], trivial⟩
/-- What is found in what stays. -/
theorem EvH.quietG {ops : List Oper} {s : PStep} {p : List PStep} {o : Oper} {d : Nat} {v : AV} {Q : (Nat → AV) → AH → Prop} (hG : G.le h) (hj : Nat.beq s.lo j = true) (hs : s.eff = false) (hm : Nat.ble s.hi m = true) (ho : lget ops s.idx = some o) (hg : o.guard = none) (hd : o.dst = some d) (hn : Nat.ble (d + 1) n = true) (hk : kindOf T o.op = .quiet)
    (hv : fquiet T (evf σ) G o.op = some v) (hq : veq v v = true) (H : EvH T X m G j n ops p (upd σ d v) h Q) : EvH T X m G j n ops (s :: p) σ h Q := by
  have hn : d < n := Nat.le_of_ble_eq_true hn
  obtain ⟨K', e, h'', g1, g2, g3⟩ := H
  refine ⟨K' + 2, e, h'', fun env he k hk' => ?_, g2, g3⟩
  obtain ⟨j', rfl, hj'⟩ := up hk'
  obtain ⟨i, rfl, hi⟩ := up hj'
  obtain ⟨rs, env2, b1, b2, b3⟩ := g1 (env.put d v) (by rw [at_upd, he]) (i + 1) (by omega)
  have hvG : aquiet T env G o.op = some v := by rw [fquiet_eq, aev_evf, he]; exact hv
  have hv' : aquiet T env h o.op = some v := quiet_mono hG hvG
  have hop : aop T X (i + 1) env h o.op = some (v, h) := by simp only [aop, hk, hv']
  have hgo : guardOk env ops o = some true := by simp only [guardOk, hg]
  refine ⟨⟨s, o, env, h, true, v, h⟩ :: rs, env2, b1, by simp only [arun, ho, hgo, hop, putDst, hd, if_pos hn, if_neg (Nat.lt_irrefl _), b2], Nat.eq_of_beq_eq_true hj, (fun _ _ => hG), (fun _ _ _ => ⟨Nat.le_of_ble_eq_true hm, v, hvG, hq⟩), G, ?_, (fun _ _ e => e), (fun _ _ _ e => nomatch hk.symm.trans e)⟩
  show Stays T m G (if s.eff then j + 1 else j) rs
  rw [hs]; exact b3
/-- What is looked at but once. -/
theorem EvH.quiet1 {ops : List Oper} {s : PStep} {p : List PStep} {o : Oper} {d : Nat} {v : AV} {Q : (Nat → AV) → AH → Prop} (hj : Nat.beq s.lo j = true) (hs : s.eff = false) (ho : lget ops s.idx = some o) (hg : o.guard = none) (hd : o.dst = some d) (hn : Nat.ble (d + 1) n = true) (hk : kindOf T o.op = .quiet) (h1 : Nat.ble s.hi s.lo = true)
    (hv : fquiet T (evf σ) h o.op = some v) (H : EvH T X m G j n ops p (upd σ d v) h Q) : EvH T X m G j n ops (s :: p) σ h Q := by
  have hn : d < n := Nat.le_of_ble_eq_true hn
  have h1 := Nat.le_of_ble_eq_true h1
  obtain ⟨K', e, h'', g1, g2, g3⟩ := H
  refine ⟨K' + 2, e, h'', fun env he k hk' => ?_, g2, g3⟩
  obtain ⟨j', rfl, hj'⟩ := up hk'
  obtain ⟨i, rfl, hi⟩ := up hj'
  obtain ⟨rs, env2, b1, b2, b3⟩ := g1 (env.put d v) (by rw [at_upd, he]) (i + 1) (by omega)
  have hv' : aquiet T env h o.op = some v := by rw [fquiet_eq, aev_evf, he]; exact hv
  have hop : aop T X (i + 1) env h o.op = some (v, h) := by simp only [aop, hk, hv']
  have hgo : guardOk env ops o = some true := by simp only [guardOk, hg]
  refine ⟨⟨s, o, env, h, true, v, h⟩ :: rs, env2, b1, by simp only [arun, ho, hgo, hop, putDst, hd, if_pos hn, if_neg (Nat.lt_irrefl _), b2], Nat.eq_of_beq_eq_true hj, (fun e => nomatch hs.symm.trans e), (fun _ hl _ => absurd h1 (Nat.not_le.2 hl)), G, ?_, (fun _ _ e => e), (fun _ _ _ e => nomatch hk.symm.trans e)⟩
  show Stays T m G (if s.eff then j + 1 else j) rs
  rw [hs]; exact b3
/-- An operation that acts. -/
theorem EvH.act {ops : List Oper} {s : PStep} {p : List PStep} {o : Oper} {d : Nat} {Q : (Nat → AV) → AH → Prop} (hj : Nat.beq s.lo j = true) (hs : s.eff = true) (ho : lget ops s.idx = some o) (hg : o.guard = none) (hd : o.dst = some d) (hn : Nat.ble (d + 1) n = true) (hk : kindOf T o.op = .eff)
    (H : EvP T X o.op σ h fun v h' => (j < m → G.le h') ∧ EvH T X m G (j + 1) n ops p (upd σ d v) h' Q) : EvH T X m G j n ops (s :: p) σ h Q := by
  have hn : d < n := Nat.le_of_ble_eq_true hn
  obtain ⟨K, v, h', h1, h2, hle, K', e, h'', g1, g2, g3⟩ := H
  refine ⟨max K K' + 1, e, h'', fun env he k hk' => ?_, Nat.le_trans h2 g2, g3⟩
  obtain ⟨j', rfl, hj'⟩ := up hk'
  obtain ⟨rs, env2, b1, b2, b3⟩ := g1 (env.put d v) (by rw [at_upd, he]) j' (by omega)
  have hgo : guardOk env ops o = some true := by simp only [guardOk, hg]
  refine ⟨⟨s, o, env, h, true, v, h'⟩ :: rs, env2, b1, by simp only [arun, ho, hgo, h1 env he j' (by omega), putDst, hd, if_pos hn, if_neg (Nat.not_lt.2 h2), b2], Nat.eq_of_beq_eq_true hj, (fun _ hl => hle hl), (fun _ _ e => nomatch hk.symm.trans e), G, ?_, (fun _ _ e => e), (fun _ _ _ e => nomatch hk.symm.trans e)⟩
  show Stays T m G (if s.eff then j + 1 else j) rs
  rw [hs]; exact b3
theorem EvH.act0 {ops : List Oper} {s : PStep} {p : List PStep} {o : Oper} {Q : (Nat → AV) → AH → Prop} (hj : Nat.beq s.lo j = true) (hs : s.eff = true) (ho : lget ops s.idx = some o) (hg : o.guard = none) (hd : o.dst = none) (hk : kindOf T o.op = .eff)
    (H : EvP T X o.op σ h fun _ h' => (j < m → G.le h') ∧ EvH T X m G (j + 1) n ops p σ h' Q) : EvH T X m G j n ops (s :: p) σ h Q := by
  obtain ⟨K, v, h', h1, h2, hle, K', e, h'', g1, g2, g3⟩ := H
  refine ⟨max K K' + 1, e, h'', fun env he k hk' => ?_, Nat.le_trans h2 g2, g3⟩
  obtain ⟨j', rfl, hj'⟩ := up hk'
  obtain ⟨rs, env2, b1, b2, b3⟩ := g1 env he j' (by omega)
  have hgo : guardOk env ops o = some true := by simp only [guardOk, hg]
  refine ⟨⟨s, o, env, h, true, v, h'⟩ :: rs, env2, b1, by simp only [arun, ho, hgo, h1 env he j' (by omega), putDst, hd, if_neg (Nat.not_lt.2 h2), b2], Nat.eq_of_beq_eq_true hj, (fun _ hl => hle hl), (fun _ _ e => nomatch hk.symm.trans e), G, ?_, (fun _ _ e => e), (fun _ _ _ e => nomatch hk.symm.trans e)⟩
  show Stays T m G (if s.eff then j + 1 else j) rs
  rw [hs]; exact b3
/-- A new object, which stays, too. -/
theorem EvH.new {ops : List Oper} {s : PStep} {p : List PStep} {o : Oper} {d : Nat} {b : AObj} {mk : Mk} {Q : (Nat → AV) → AH → Prop} {col : Nat → Nat} {G0 : AH} (S : HS G0 h col) (hG : G.le h) (hj : Nat.beq s.lo j = true) (hs : s.eff = false) (hm : Nat.ble s.hi m = true) (ho : lget ops s.idx = some o) (hg : o.guard = none) (hd : o.dst = some d) (hn : Nat.ble (d + 1) n = true) (hk : kindOf T o.op = .fresh) (hv : ffresh T (evf σ) o.op = some (b, mk)) (hq : oeq b b = true)
    (H : ∀ h1 id, Step (fun _ => False) col h col h1 → HS (G0.add id b) h1 col → G0.le (G0.add id b) → (G.add id b).le h1 → G.le (G.add id b) → h1.t.get id = some b → col id = 0 → h.next ≤ id → EvH T X m (G.add id b) j n ops p (upd σ d (mk.av id)) h1 Q) : EvH T X m G j n ops (s :: p) σ h Q := by
  have hn : d < n := Nat.le_of_ble_eq_true hn
  have A := new_step0 S.wf S.fresh b
  have S1 := S.step A (fun e => e)
  have hc : col h.next = 0 := S.fresh _ (Nat.le_refl _)
  have hnone : h.t.get h.next = none := S.wf _ (Nat.le_refl _)
  have hGn : G.t.get h.next = none := by
    cases e : G.t.get h.next with
    | none => rfl
    | some o' => have := hG _ _ e; rw [hnone] at this; cases this
  have hle : h.le (h.new b).2 := AH.le_new b hnone
  have hGl : (G.add h.next b).le (h.new b).2 := fun i o' e' => by
    simp only [AH.add, Tree.get_put] at e'
    split at e'
    · rename_i hi; cases e'; rw [hi]; exact get_new ..
    · exact hle _ _ (hG i o' e')
  have hGG : G.le (G.add h.next b) := fun i o' e' => by
    simp only [AH.add, Tree.get_put]
    split
    · rename_i hi; rw [hi, hGn] at e'; cases e'
    · exact e'
  obtain ⟨K', e, h'', g1, g2, g3⟩ := H _ _ A (S1.add (get_new ..) hc) (S1.le_add (get_new ..)) hGl hGG (get_new ..) hc (Nat.le_refl _)
  refine ⟨K' + 2, e, h'', fun env he k hk' => ?_, Nat.le_trans A.nx g2, g3⟩
  obtain ⟨j', rfl, hj'⟩ := up hk'
  obtain ⟨i, rfl, hi⟩ := up hj'
  obtain ⟨rs, env2, b1, b2, b3⟩ := g1 (env.put d (mk.av h.next)) (by rw [at_upd, he]) (i + 1) (by omega)
  have hv' : afresh T env o.op = some (b, mk) := by rw [ffresh_eq, aev_evf, he]; exact hv
  have hop : aop T X (i + 1) env h o.op = some (mk.av h.next, (h.new b).2) := by simp only [aop, hk, hv', hnone]
  have hgo : guardOk env ops o = some true := by simp only [guardOk, hg]
  refine ⟨⟨s, o, env, h, true, mk.av h.next, (h.new b).2⟩ :: rs, env2, b1, by simp only [arun, ho, hgo, hop, putDst, hd, if_pos hn, if_neg (Nat.not_lt.2 A.nx), b2], Nat.eq_of_beq_eq_true hj, (fun e => nomatch hs.symm.trans e), (fun _ _ e => nomatch hk.symm.trans e), G.add h.next b, ?_, hGG, (fun _ _ _ _ => ⟨Nat.le_of_ble_eq_true hm, b, mk, hv', hq, AH.get_add ..⟩)⟩
  show Stays T m _ (if s.eff then j + 1 else j) rs
  rw [hs]; exact b3
theorem EvH.easyG {ops : List Oper} {s : PStep} {p : List PStep} {o : Oper} {d : Nat} {v : AV} {Q : (Nat → AV) → AH → Prop} (hG : G.le h) (hj : Nat.beq s.lo j = true) (hs : s.eff = false) (hm : Nat.ble s.hi m = true) (ho : lget ops s.idx = some o) (_he : easy ops o.op = true) (hg : o.guard = none) (hd : o.dst = some d) (hn : Nat.ble (d + 1) n = true) (hk : kindOf T o.op = .quiet)
    (hv : fquiet T (evf σ) G o.op = some v) (hq : veq v v = true) (H : EvH T X m G j n ops p (upd σ d v) h Q) : EvH T X m G j n ops (s :: p) σ h Q := EvH.quietG hG hj hs hm ho hg hd hn hk hv hq H
theorem EvH.easy1 {ops : List Oper} {s : PStep} {p : List PStep} {o : Oper} {d : Nat} {v : AV} {Q : (Nat → AV) → AH → Prop} (hj : Nat.beq s.lo j = true) (hs : s.eff = false) (ho : lget ops s.idx = some o) (_he : easy ops o.op = true) (hg : o.guard = none) (hd : o.dst = some d) (hn : Nat.ble (d + 1) n = true) (hk : kindOf T o.op = .quiet) (h1 : Nat.ble s.hi s.lo = true)
    (hv : fquiet T (evf σ) h o.op = some v) (H : EvH T X m G j n ops p (upd σ d v) h Q) : EvH T X m G j n ops (s :: p) σ h Q := EvH.quiet1 hj hs ho hg hd hn hk h1 hv H
theorem neg64 {a : Int} (hr : -9223372036854775808 ≤ -a ∧ -a ≤ 9223372036854775807) : some (AV.int .i64 (IntKind.i64.wrap (0 - a))) = some (.int .i64 (-a)) := by
  rw [Int.zero_sub, IntWalk.i64_in _ hr]
def simpleV : AV → Bool
  | .bool _ | .int .. | .str _ | .ptr .. | .glob .. | .nilPtr | .slice .. | .nilSlice | .eslice | .map _ | .nilMap | .nilFunc | .nilIface => true
  | _ => false
theorem veq_s {v : AV} (h : simpleV v = true) : veq v v = true := by
  cases v <;> simp_all [simpleV, veq]
theorem Vec.veq {col : Nat → Nat} {c e sz m : Nat} {v : AV} {cs : List AV} (V : Vec col c h e sz v m cs) : Go.AI.veq v v = true := by
  cases V <;> simp [Go.AI.veq]
end Go.AI
