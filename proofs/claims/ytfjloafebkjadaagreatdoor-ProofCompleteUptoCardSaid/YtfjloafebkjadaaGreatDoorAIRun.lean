/- Code and calls: the abstract machine's run stands for the model's. -/
import Derived.Scope
import Derived.Test.YtfjloafebkjadaaGreatDoorAIOpsB
import Derived.Tactics
import Derived.LoopN
/- Code and calls: the abstract machine's run stands for the model's. -/
namespace Go.AI
open Go.RowKit (Below)
variable {P : Program} {T : Tab} {X : Oracle} {w0 : World}

def CallPost (T : Tab) (w0 : World) (γ : Emb) (h : AH) (v : AV) (h' : AH) (e : Ending) (w' : World) : Prop :=
  ∃ v' γ', e = .returned v' ∧ Ext h.next γ γ' ∧ h.next ≤ h'.next ∧ WRel T γ' h' w0 w' ∧ VRel γ' v v'
def OracleOk (P : Program) (T : Tab) (X : Oracle) (w0 : World) : Prop :=
  ∀ f x args args' h h' v γ w, T.ft.get f = some x → X f args h = some (v, h') → WRel T γ h w0 w → LRel γ args args' → Calls P f ⟨args'⟩ w (CallPost T w0 γ h v h')
def CallOk (P : Program) (T : Tab) (X : Oracle) (w0 : World) (k : Nat) : Prop :=
  ∀ f args args' h h' v γ w, acall T X k f args h = some (v, h') → WRel T γ h w0 w → LRel γ args args' → Calls P f ⟨args'⟩ w (CallPost T w0 γ h v h')
def OpOk (P : Program) (T : Tab) (X : Oracle) (w0 : World) (k : Nat) : Prop :=
  ∀ env h (o : Oper) v h' γ (a : Act) w next Q, aop T X k env h o.op = some (v, h') → (∀ x ∈ o.op.operands.toList, VRel γ (aev env x) (a.eval x)) → WRel T γ h w0 w →
    (∀ v' w' γ', Ext h.next γ γ' → h.next ≤ h'.next → WRel T γ' h' w0 w' → VRel γ' v v' → next (a.put o.dst v') w') → o.wp P a w next Q
def OpsOk (P : Program) (T : Tab) (X : Oracle) (w0 : World) (k : Nat) : Prop :=
  ∀ n (ops : Array Oper) rest env h env' h' γ (a : Act) w Q, aops T X k n ops.toList rest env h = some (env', h') → EnvRel γ env a.tmps → a.tmps.size = n → WRel T γ h w0 w →
    (∀ a' w' γ', Ext h.next γ γ' → h.next ≤ h'.next → EnvRel γ' env' a'.tmps → a'.tmps.size = n → a'.defers = a.defers → WRel T γ' h' w0 w' → Q .normal a' w') → wpList P ops Q rest a w
def AExit.exit' : AExit → Exit
  | .normal => .normal
  | .ret => .ret
  | .exit i => .exit i
def CodeOk (P : Program) (T : Tab) (X : Oracle) (w0 : World) (k : Nat) : Prop :=
  ∀ n c env h ex env' h' γ (a : Act) w Q, acode T X k n c env h = some (ex, env', h') → EnvRel γ env a.tmps → a.tmps.size = n → WRel T γ h w0 w →
    (∀ a' w' γ', Ext h.next γ γ' → h.next ≤ h'.next → EnvRel γ' env' a'.tmps → a'.tmps.size = n → a'.defers = a.defers → WRel T γ' h' w0 w' → Q ex.exit' a' w') → c.wp P Q a w

theorem opOk (hT : TabOk P T) {k : Nat} (hc : CallOk P T X w0 k) : OpOk P T X w0 (k + 1) := by
  intro env h o v h' γ a w next Q hv hρ hw hk
  unfold aop at hv
  unfold Oper.wp
  split at hv
  · split at hv
    · rename_i u hu
      cases hv
      obtain ⟨v', g1, g2⟩ := quiet_sound hT hw hρ hu
      rw [g1]
      exact hk v' w γ (Ext.refl _ _) (Nat.le_refl _) hw g2
    · cases hv
  · split at hv
    · rename_i b mk hb _
      cases hv
      obtain ⟨nx, v', w', γ', g1, g2, g3, g4, g5, g6⟩ := fresh_eff hw (fresh_sound hT hw hρ hb)
      rw [g1]
      rcases g2 with rfl | ⟨rfl, rfl⟩
      · exact hk v' w' γ' g3 g4 g5 g6
      · exact hk undef w' γ' g3 g4 g5 g6
    · cases hv
  · split at hv
    · rename_i u h2 he
      cases hv
      obtain ⟨nx, v', w', γ', g1, g2, g3, g4, g5, g6⟩ := eff_sound hT hw hρ he
      rw [g1]
      rcases g2 with rfl | ⟨rfl, rfl⟩
      · exact hk v' w' γ' g3 g4 g5 g6
      · exact hk undef w' γ' g3 g4 g5 g6
    · rename_i f args he
      have hf : ∃ x, T.ft.get f = some x := by
        cases k with
        | zero => simp [acall] at hv
        | succ k =>
          unfold acall at hv
          split at hv
          · cases hv
          · rename_i x hx; exact ⟨x, hx⟩
      obtain ⟨x, hx⟩ := hf
      obtain ⟨args', g1, g2⟩ := enter_sound hT w hρ he hx
      rw [g1]
      refine (hc f args args' h h' v γ w hv hw g2).mono ?_
      rintro e w' ⟨v', γ', rfl, k1, k2, k3, k4⟩
      exact hk v' w' γ' k1 k2 k3 k4
    · cases hv
theorem guard_sound {γ : Emb} {env : Env} {ops : Array Oper} {o : Oper} {tmps : Array Value} {b : Bool} (hg : guardOk env ops.toList o = some b) (he : ∀ j want d, o.guard = some (j, want) → (ops[j]?).bind (·.dst) = some d → VRel γ (Env.at env d) (tmps.getD d undef)) :
    Region.wanted o (yielded ops tmps) = b := by
  unfold guardOk at hg
  unfold Region.wanted
  split at hg
  · rename_i hn; rw [hn]; cases hg; rfl
  · rename_i j want hn
    rw [hn]
    rw [lget_eq, Array.getElem?_toList] at hg
    split at hg
    · rename_i d hd
      have hrel := he j want d hn hd
      dsimp only
      unfold yielded
      rw [hd]
      simp only [Option.bind_some]
      have hget : ∀ v : Value, tmps.getD d undef = v → v ≠ undef → tmps[d]? = some v := by
        intro v hv hne
        rw [Array.getD_eq_getD_getElem?] at hv
        cases h : tmps[d]? with
        | none => rw [h] at hv; exact absurd hv.symm hne
        | some u => rw [h] at hv; simp at hv; rw [hv]
      split at hg
      · rename_i t ht
        rw [ht] at hrel
        cases hg
        have h1 := rel_bool hrel
        rw [hget _ h1 (by simp [undef])]
        cases t <;> cases want <;> rfl
      · cases hg
      · rename_i hnb hnu
        cases hg
        have hnot : ∀ t, tmps[d]? ≠ some (.bool t) := by
          intro t ht
          have : tmps.getD d undef = .bool t := by rw [Array.getD_eq_getD_getElem?, ht]; rfl
          rw [this] at hrel
          generalize Env.at env d = u at hrel hnb hnu
          cases hrel with
          | undef => exact hnu rfl
          | bool b => exact hnb _ rfl
        split
        · rename_i hh; exact absurd hh (hnot _)
        · rfl
    · cases hg
theorem opsOk {k : Nat} (ho : ∀ j, j ≤ k → OpOk P T X w0 j) : OpsOk P T X w0 (k + 1) := by
  induction k with
  | zero =>
    intro n ops rest env h env' h' γ a w Q hr he hn hw hQ
    cases rest with
    | nil => simp only [aops, Option.some.injEq, Prod.mk.injEq] at hr; obtain ⟨rfl, rfl⟩ := hr; exact hQ a w γ (Ext.refl _ _) (Nat.le_refl _) he hn rfl hw
    | cons o rest =>
      unfold aops at hr
      split at hr
      · cases hr
      · split at hr
        · simp [aops] at hr
        · cases hr
      · simp [aop] at hr
  | succ k ih =>
    intro n ops rest env h env' h' γ a w Q hr he hn hw hQ
    cases rest with
    | nil => simp only [aops, Option.some.injEq, Prod.mk.injEq] at hr; obtain ⟨rfl, rfl⟩ := hr; exact hQ a w γ (Ext.refl _ _) (Nat.le_refl _) he hn rfl hw
    | cons o rest =>
      have ih' := ih (fun j hj => ho j (by omega))
      unfold aops at hr
      unfold wpList
      split at hr
      · cases hr
      · rename_i hg
        rw [guard_sound hg (fun j want d _ _ => he d)]
        simp only [Bool.false_eq_true, if_false]
        split at hr
        · rename_i env1 hp
          exact ih' n ops rest env1 h env' h' γ _ w Q hr (put_rel he hn hp (undef_rel γ)) (by rw [put_size]; exact hn) hw (fun a' w' γ' q1 q2 q3 q4 q5 q6 => hQ a' w' γ' q1 q2 q3 q4 (by rw [q5, put_defers]) q6)
        · cases hr
      · rename_i hg
        rw [guard_sound hg (fun j want d _ _ => he d)]
        simp only [if_true]
        left
        split at hr
        · rename_i v h1 hop
          split at hr
          · rename_i env1 hp
            refine ho (k + 1) (Nat.le_refl _) env h o v h1 γ a w _ Q hop (fun x _ => aev_rel he x) hw fun v' w' γ' k1 k2 k3 k4 => ?_
            exact ih' n ops rest env1 h1 env' h' γ' _ w' Q hr (put_rel (he.mono (k1.le hw)) hn hp k4) (by rw [put_size]; exact hn) k3
              (fun a' w'' γ'' q1 q2 q3 q4 q5 q6 => hQ a' w'' γ'' (k1.trans q1 k2) (by omega) q3 q4 (by rw [q5, put_defers]) q6)
          · cases hr
        · cases hr

theorem rounds_ok {k : Nat} (hc : ∀ j, j ≤ k → CodeOk P T X w0 j) : ∀ j, j ≤ k → ∀ n b env h ex env' h' γ (a : Act) w Q, acode T X (j + 1) n (.loop b) env h = some (ex, env', h') → EnvRel γ env a.tmps → a.tmps.size = n → WRel T γ h w0 w →
    (∀ a' w' γ', Ext h.next γ γ' → h.next ≤ h'.next → EnvRel γ' env' a'.tmps → a'.tmps.size = n → a'.defers = a.defers → WRel T γ' h' w0 w' → Q ex.exit' a' w') → Code.rounds P b Q (j + 1) a w := by
  intro j
  induction j with
  | zero =>
    intro _ n b env h ex env' h' γ a w Q hr
    simp [acode] at hr
  | succ j ih =>
    intro hj n b env h ex env' h' γ a w Q hr he hn hw hQ
    rw [rounds_succ]
    unfold acode at hr
    dsimp only at hr
    split at hr
    · rename_i env1 h1 hb
      refine hc (j + 1) hj n b env h .normal env1 h1 γ a w _ hb he hn hw fun a1 w1 γ1 q1 q2 q3 q4 q5 q6 => ?_
      exact ih (by omega) n b env1 h1 ex env' h' γ1 a1 w1 Q hr q3 q4 q6 fun a2 w2 γ2 p1 p2 p3 p4 p5 p6 => hQ a2 w2 γ2 (q1.trans p1 q2) (by omega) p3 p4 (p5.trans q5) p6
    · rename_i hne
      refine hc (j + 1) hj n b env h ex env' h' γ a w _ hr he hn hw fun a1 w1 γ1 q1 q2 q3 q4 q5 q6 => ?_
      have := hQ a1 w1 γ1 q1 q2 q3 q4 q5 q6
      cases ex with
      | normal => exact (hne env' h' hr).elim
      | ret => exact this
      | exit i => exact this
/-- What a region that draws its order comes to. -/
def DrawOk (P : Program) (T : Tab) (X : Oracle) (w0 : World) (k : Nat) : Prop :=
  ∀ n id (ops : Array Oper) env h rs env' h' γ (a : Act) w Q, planOk T ops.toList (plan T ops.toList) = true → arun T X k n ops.toList (plan T ops.toList) env h = some (rs, env', h') → recheck T rs = true → EnvRel γ env a.tmps → a.tmps.size = n → WRel T γ h w0 w →
    (∀ a' w' γ', Ext h.next γ γ' → h.next ≤ h'.next → EnvRel γ' env' a'.tmps → a'.tmps.size = n → a'.defers = a.defers → WRel T γ' h' w0 w' → Q .normal a' w') → (Code.region id ops true).wp P Q a w
theorem codeOk {k : Nat} (ho : OpsOk P T X w0 k) (hd : DrawOk P T X w0 k) (hc : ∀ j, j ≤ k → CodeOk P T X w0 j) : CodeOk P T X w0 (k + 1) := by
  intro n c env h ex env' h' γ a w Q hr he hn hw hQ
  have hr0 := hr
  unfold acode at hr
  cases c with
  | skip => cases hr; exact wp_skip (hQ a w γ (Ext.refl _ _) (Nat.le_refl _) he hn rfl hw)
  | label l => cases hr; exact wp_label (hQ a w γ (Ext.refl _ _) (Nat.le_refl _) he hn rfl hw)
  | region id ops dr =>
    cases dr with
    | false =>
      dsimp only at hr
      split at hr
      · rename_i env1 h1 hops
        cases hr
        exact wp_region_list (ho n ops ops.toList env h env' h' γ a w Q hops he hn hw hQ)
      · cases hr
    | true =>
      dsimp only at hr
      split at hr
      · rename_i hpl
        split at hr
        · rename_i rs env1 h1 hrun
          split at hr
          · rename_i hre
            cases hr
            exact hd n id ops env h rs env' h' γ a w Q hpl hrun hre he hn hw hQ
          · cases hr
        · cases hr
      · cases hr
  | seq x y =>
    dsimp only at hr
    refine wp_seq ?_
    split at hr
    · rename_i env1 h1 hx
      refine hc k (Nat.le_refl _) n x env h .normal env1 h1 γ a w _ hx he hn hw fun a1 w1 γ1 q1 q2 q3 q4 q5 q6 => ?_
      exact hc k (Nat.le_refl _) n y env1 h1 ex env' h' γ1 a1 w1 Q hr q3 q4 q6 fun a2 w2 γ2 p1 p2 p3 p4 p5 p6 => hQ a2 w2 γ2 (q1.trans p1 q2) (by omega) p3 p4 (p5.trans q5) p6
    · rename_i hne
      refine hc k (Nat.le_refl _) n x env h ex env' h' γ a w _ hr he hn hw fun a1 w1 γ1 q1 q2 q3 q4 q5 q6 => ?_
      have := hQ a1 w1 γ1 q1 q2 q3 q4 q5 q6
      cases ex with
      | normal => exact (hne env' h' hr).elim
      | ret => exact this
      | exit i => exact this
  | cond c x y =>
    dsimp only at hr
    split at hr
    · rename_i t ht
      have h1 := aev_rel he c
      rw [ht] at h1
      exact wp_cond (rel_bool h1) (hc k (Nat.le_refl _) n _ env h ex env' h' γ a w Q hr he hn hw hQ)
    · cases hr
  | block id x =>
    dsimp only at hr
    refine wp_block ?_
    split at hr
    · rename_i i env1 h1 hx
      refine hc k (Nat.le_refl _) n x env h (.exit i) env1 h1 γ a w _ hx he hn hw fun a1 w1 γ1 q1 q2 q3 q4 q5 q6 => ?_
      show (if i = id then Q .normal a1 w1 else Q (.exit i) a1 w1)
      split at hr
      · rename_i hi; cases hr; rw [if_pos hi]; exact hQ a1 w1 γ1 q1 q2 q3 q4 q5 q6
      · rename_i hi; cases hr; rw [if_neg hi]; exact hQ a1 w1 γ1 q1 q2 q3 q4 q5 q6
    · rename_i hne
      refine hc k (Nat.le_refl _) n x env h ex env' h' γ a w _ hr he hn hw fun a1 w1 γ1 q1 q2 q3 q4 q5 q6 => ?_
      have := hQ a1 w1 γ1 q1 q2 q3 q4 q5 q6
      cases ex with
      | normal => exact this
      | ret => exact this
      | exit i => exact (hne i env' h' hr).elim
  | loop x => exact wp_loop_rounds (k + 1) (rounds_ok hc k (Nat.le_refl _) n x env h ex env' h' γ a w Q hr0 he hn hw hQ)
  | exit id => cases hr; exact wp_exit (hQ a w γ (Ext.refl _ _) (Nat.le_refl _) he hn rfl hw)
  | ret => cases hr; exact wp_ret (hQ a w γ (Ext.refl _ _) (Nat.le_refl _) he hn rfl hw)
  | rangeFunc f p s b => cases hr
  | scope b =>
    dsimp only at hr
    refine wp_scope_straight (hc k (Nat.le_refl _) n b env h ex env' h' γ a w _ hr he hn hw fun a1 w1 γ1 q1 q2 q3 q4 q5 q6 => ?_)
    have := hQ a1 w1 γ1 q1 q2 q3 q4 q5 q6
    cases ex <;> exact this
  | goto l => cases hr
  | refuse m => cases hr

/-! ### Calls -/
theorem bindArgs_at : ∀ (l : List AV) (e : Env) (i u : Nat), Env.at (bindArgs e i l) u = if i ≤ u ∧ u < i + l.length then l.getD (u - i) (.tuple []) else Env.at e u
  | [], e, i, u => by simp [bindArgs]; omega
  | v :: vs, e, i, u => by
    rw [bindArgs, bindArgs_at vs]
    simp only [List.length_cons]
    by_cases h : i + 1 ≤ u ∧ u < i + 1 + vs.length
    · rw [if_pos h, if_pos (by omega)]
      have : u - i = (u - (i + 1)) + 1 := by omega
      rw [this, List.getD_cons_succ]
    · rw [if_neg h, Env.at_put]
      by_cases e : u = i
      · subst e; rw [if_pos rfl, if_pos (by omega)]; simp
      · rw [if_neg e, if_neg (by omega)]
theorem args_rel {γ : Emb} {args : List AV} {args' : List Value} (h : LRel γ args args') (m : Nat) : EnvRel γ (bindArgs .leaf 0 args) ((⟨args'⟩ : Array Value) ++ Array.replicate m undef) := by
  intro t
  rw [bindArgs_at]
  have hl := h.length
  by_cases ht : t < args.length
  · rw [if_pos (by omega)]
    obtain ⟨v', h1, h2⟩ := h.get (List.getElem?_eq_getElem ht)
    have e1 : args.getD (t - 0) (.tuple []) = args[t] := by simp [List.getD, ht]
    have e2 : ((⟨args'⟩ : Array Value) ++ Array.replicate m undef).getD t undef = v' := by
      rw [Array.getD_eq_getD_getElem?, Array.getElem?_append_left (by simp; omega)]
      have : (⟨args'⟩ : Array Value)[t]? = some v' := by simpa using h1
      rw [this]; rfl
    rw [e1, e2]; exact h2
  · rw [if_neg (by omega)]
    have e2 : ((⟨args'⟩ : Array Value) ++ Array.replicate m undef).getD t undef = undef := by
      rw [Array.getD_eq_getD_getElem?, Array.getElem?_append_right (by simp; omega)]
      simp only [Array.getElem?_replicate]
      split <;> rfl
    rw [e2]
    exact undef_rel γ
def resOf (tmps : Array Value) : ResultVar → Sem Value
  | .tmp t => pure (tmps.getD t undef)
  | .cell a t => do loadVar t (← asAddr (tmps.getD a undef))
theorem resOf_cell {tmps : Array Value} {a : Tmp} {t : TypeId} {p : Addr} {v : Value} {w : World} (h : tmps.getD a undef = .pointer (some p)) (hl : (loadVar t p).run P w = .ok v w) : (resOf tmps (.cell a t)).run P w = .ok v w := by
  simp [resOf, h, asAddr, hl]
theorem results_sound (hT : TabOk P T) {γ : Emb} {h : AH} {w : World} (hw : WRel T γ h w0 w) {env : Env} {tmps : Array Value} (he : EnvRel γ env tmps) : ∀ {rs : List ResultVar} {vs : List AV}, aresults T env h rs = some vs →
    ∃ L : List Value, (rs.mapM (resOf tmps)).run P w = .ok L w ∧ LRel γ vs L
  | [], vs, hr => by simp only [aresults, Option.some.injEq] at hr; subst hr; exact ⟨[], rfl, .nil⟩
  | .tmp t :: rs, vs, hr => by
    simp only [aresults, Option.map_eq_some_iff] at hr
    obtain ⟨us, h1, rfl⟩ := hr
    obtain ⟨L, g1, g2⟩ := results_sound hT hw he h1
    refine ⟨tmps.getD t undef :: L, ?_, .cons (he t) g2⟩
    have h0 : (resOf tmps (.tmp t)).run P w = .ok (tmps.getD t undef) w := rfl
    simp only [List.mapM_cons, Sem.run_bind, h0, Result.andThen_ok, g1, Sem.run_pure]
  | .cell a t :: rs, vs, hr => by
    simp only [aresults] at hr
    split at hr
    · rename_i v hv
      rw [Option.map_eq_some_iff] at hr
      obtain ⟨us, h1, rfl⟩ := hr
      obtain ⟨L, g1, g2⟩ := results_sound hT hw he h1
      obtain ⟨p, v', k1, k2, k3⟩ := load_rel hT hw hv (he a)
      refine ⟨v' :: L, ?_, .cons k3 g2⟩
      simp only [List.mapM_cons, Sem.run_bind, resOf_cell k1 k2, Result.andThen_ok, g1, Sem.run_pure]
    · cases hr
theorem callOk (hT : TabOk P T) (hX : OracleOk P T X w0) {k : Nat} (hc : CodeOk P T X w0 k) : CallOk P T X w0 (k + 1) := by
  intro f args args' h h' v γ w hr hw hl
  unfold acall at hr
  split at hr
  · cases hr
  · rename_i x hx
    split at hr
    · rename_i r hXr
      cases hr
      exact hX f x args args' h h' v γ w hx hXr hw hl
    · split at hr
      · rename_i hlen
        obtain ⟨F, k1, k2, k3, k4, k5⟩ := hT.fn f x hx
        refine calls_of_wp k1 k3 ?_
        have hsz : ((⟨args'⟩ : Array Value) ++ Array.replicate (F.ntmps - (⟨args'⟩ : Array Value).size) undef).size = x.ntmps := by
          have := hl.length
          simp; omega
        have done : ∀ ex env1 h1, acode T X k x.ntmps x.body (bindArgs .leaf 0 args) h = some (ex, env1, h1) → (ex = .normal ∨ ex = .ret) →
            (aresults T env1 h1 x.results).map (fun vs => (packRes vs, h1)) = some (v, h') →
            x.body.wp P (bodyPost P F (CallPost T w0 γ h v h')) { tmps := (⟨args'⟩ : Array Value) ++ Array.replicate (F.ntmps - (⟨args'⟩ : Array Value).size) undef, defers := [] } w := by
          intro ex env1 h1 hcode hex hres
          refine hc x.ntmps x.body _ h ex env1 h1 γ _ w _ hcode (args_rel hl _) hsz hw fun a' w' γ' q1 q2 q3 q4 q5 q6 => ?_
          rw [Option.map_eq_some_iff] at hres
          obtain ⟨vs, r1, r2⟩ := hres
          cases r2
          obtain ⟨L, g1, g2⟩ := results_sound hT q6 q3 r1
          have hrun : (results F a'.tmps).run P w' = .ok (if h : L.toArray.size = 1 then L.toArray[0] else .tuple L.toArray) w' := by
            have e : results F a'.tmps = (do let vs ← F.results.mapM (resOf a'.tmps); pure (if h : vs.size = 1 then vs[0] else .tuple vs)) := rfl
            rw [e]
            simp only [Array.mapM_eq_mapM_toList, k5, Sem.run_bind, Sem.run_map, g1, Result.andThen_ok, Sem.run_pure]
          have hpost : bodyPost P F (CallPost T w0 γ h (packRes vs) h') .ret a' w' := by
            refine ⟨q5, _, hrun, _, γ', rfl, q1, q2, q6, ?_⟩
            cases g2 with
            | nil => exact .tuple .nil
            | cons hv t =>
              cases t with
              | nil => exact hv
              | cons hv2 t2 =>
                rw [dif_neg (by simp)]
                exact .tuple (.cons hv (.cons hv2 t2))
          rcases hex with rfl | rfl
          · exact hpost
          · exact hpost
        split at hr
        · rename_i env1 h1 hcode
          exact done .normal env1 h1 hcode (.inl rfl) hr
        · rename_i env1 h1 hcode
          exact done .ret env1 h1 hcode (.inr rfl) hr
        · cases hr
      · cases hr
end Go.AI
