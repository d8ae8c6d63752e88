/- Rules for runs that are not closed. -/
import Derived.Test.YtfjloafebkjadaaGreatDoorAIFrame
/- Rules for what the abstract machine answers, over code on values that are variables: the machine's variables as a function. -/
namespace Go.AI
def fquiet (T : Tab) (ρ : Operand → AV) (h : AH) : Op → Option AV
  | .move x => some (ρ x)
  | .assign x => some (ρ x)
  | .pick c a b => match ρ c with
    | .bool t => some (if t then ρ a else ρ b)
    | _ => none
  | .build t ps => abuild T t (ps.toList.map fun p => (p.1, ρ p.2))
  | .load t a => aload T h t (ρ a)
  | .nilCheck x => match ρ x with
    | .ptr i o => some (.ptr i o)
    | .func f cs => some (.func f cs)
    | .meth f cs => some (.meth f cs)
    | .iface t v => some (.iface t v)
    | _ => none
  | .binOp op t x y _ => abinOp T op (isConst x || isConst y) t (ρ x) (ρ y)
  | .unOp op _ x => aunOp op (ρ x)
  | .convert s d x => aconvert T h s d (ρ x)
  | .makeInterface t x => match T.tt.get t with
    | some i => match i.desc with | .interface _ => none | _ => some (.iface t (ρ x))
    | none => none
  | .makeFunc (.func f) first cap => if first.toList.length = 0 then some (.func f (cap.toList.map ρ)) else if cap.toList.length = 0 then some (.meth f (first.toList.map ρ)) else none
  | .slice t x lo hi mx => aslice T h t (ρ x) (lo.map ρ) (hi.map ρ) (mx.map ρ)
  | .fieldAddr s x f => afieldAddr T s (ρ x) f
  | .field t x f => afield T t (ρ x) f
  | .indexAddr t x i => aindexAddr T t (ρ x) (ρ i)
  | .index t x i => aindex T t (ρ x) (ρ i)
  | .lookup t x i ok => alookup T h t (ρ x) (ρ i) ok
  | .extract t i => aextract (ρ t) i
  | .call c => match c.callee with
    | .builtin .len => match c.argTypes.toList, c.args.toList with
      | t :: _, [x] => alen T h t (ρ x)
      | _, _ => none
    | .builtin .min => aminmax false (c.args.toList.map ρ)
    | .builtin .max => aminmax true (c.args.toList.map ρ)
    | .builtin .unsafeSliceData => match c.args.toList with
      | [x] => asliceData (ρ x)
      | _ => none
    | .builtin .cap => match c.argTypes.toList, c.args.toList with
      | t :: _, [x] => acap T t (ρ x)
      | _, _ => none
    | _ => none
  | _ => none

def ffresh (T : Tab) (ρ : Operand → AV) : Op → Option (AObj × Mk)
  | .alloc e => match T.tt.get e with
    | some i => some (.cells i.zero e false, .ptr)
    | none => none
  | .box e x => match T.tt.get e with
    | some _ => if known (ρ x) then some (.cells (ρ x).cells e false, .ptr) else none
    | none => none
  | .buildSlice t n ps => abuildSlice T t n (ps.toList.map fun p => (p.1, ρ p.2))
  | .makeMap t none => match T.tt.get t with
    | some _ => some (.map [] 0, .map)
    | none => none
  | .makeMap t (some x) => match descOf T t, ρ x with
    | .map _ _, .int _ _ => some (.map [] 0, .map)
    | _, _ => none
  | .makeSlice t l c => amakeSlice T t (ρ l) (ρ c)
  | .convert sr d x => match T.tt.get sr, descOf T d, ρ x with
    | some _, .slice e, .str s => if isByte T e ∧ szOf T e = 1 then some (.cells (s.map fun b => .int .u8 b.toNat) e false, .slice s.length 0 false) else none
    | _, _, _ => none
  | _ => none

def feff (T : Tab) (ρ : Operand → AV) (h : AH) : Op → Option Res
  | .store t a x => rh (astore T h t (ρ a) (ρ x))
  | .mapUpdate t m k x => rh (amapUpdate T h t (ρ m) (ρ k) (ρ x))
  | .insert t m k x => rh (amapUpdate T h t (ρ m) (ρ k) (ρ x))
  | .mapEntry t m k => rb (amapEntry T h t (ρ m) (ρ k))
  | .entryStore _ m s x => rh (aentryStore h (ρ m) (ρ s) (ρ x))
  | .next it isString => rb (anext h (ρ it) isString)
  | .range t x => rb ((arange T h t (ρ x)).map fun o => (.ptr h.next 0, (h.new o).2))
  | .call c => match c.callee with
    | .builtin .append => match c.argTypes.toList, c.args.toList with
      | t :: xt :: _, [s, x] => rb (aappend T h t xt (ρ s) (ρ x))
      | _, _ => none
    | .builtin .copy => match c.argTypes.toList, c.args.toList with
      | t :: _, [s, x] => rb (acopy T h t (ρ s) (ρ x))
      | _, _ => none
    | .builtin .delete => match c.argTypes.toList, c.args.toList with
      | t :: _, [m, k] => rh (adelete T h t (ρ m) (ρ k))
      | _, _ => none
    | .builtin .clear => match c.argTypes.toList, c.args.toList with
      | t :: _, [x] => rh (aclear T h t (ρ x))
      | _, _ => none
    | .builtin .unsafeString => match c.argTypes.toList, c.args.toList with
      | [t, _], [p, n] => rb (aunsafeString T h t (ρ p) (ρ n))
      | _, _ => none
    | .value f => match ρ f with
      | .func g cap => match T.xt.get g with
        | none => some (.enter g (c.args.toList.map ρ ++ cap))
        | some _ => match c.args.toList, cap with
          | [x], [] => some (.val (ρ x) h)
          | _, _ => none
      | .meth g first => match T.xt.get g with
        | none => some (.enter g (first ++ c.args.toList.map ρ))
        | some _ => none
      | _ => none
    | _ => none
  | _ => none

def evf (σ : Nat → AV) : Operand → AV
  | .tmp t => σ t
  | .const v => toAV v
  | .global g => .glob g 0
  | .func f => .func f []
theorem aev_evf (env : Env) : aev env = evf (Env.at env) := by funext x; cases x <;> rfl
theorem fquiet_eq (T : Tab) (env : Env) (h : AH) (o : Op) : aquiet T env h o = fquiet T (aev env) h o := by cases o <;> rfl
theorem ffresh_eq (T : Tab) (env : Env) (o : Op) : afresh T env o = ffresh T (aev env) o := by
  cases o
  case makeMap t x => cases x <;> rfl
  all_goals rfl
theorem feff_eq (T : Tab) (env : Env) (h : AH) (o : Op) : aeff T env h o = feff T (aev env) h o := by cases o <;> rfl
def upd (σ : Nat → AV) (d : Nat) (v : AV) : Nat → AV := fun u => match Nat.beq u d with | true => v | false => σ u
theorem at_upd (env : Env) (d : Nat) (v : AV) : Env.at (env.put d v) = upd (Env.at env) d v := by
  funext u
  rw [Env.at_put]
  unfold upd
  split
  · rename_i h; subst h; simp
  · rename_i h
    have : Nat.beq u d = false := by rw [← Bool.not_eq_true]; simpa using h
    rw [this]
theorem upd_self (σ : Nat → AV) {d : Nat} {v : AV} (h : σ d = v) : upd σ d v = σ := by
  funext u
  unfold upd
  split
  · rename_i e; have := Nat.eq_of_beq_eq_true e; subst this; exact h.symm
  · rfl
end Go.AI
/- Rules for what the abstract machine answers, over code on values that are variables. -/
namespace Go.AI
def fguard (σ : Nat → AV) (ops : List Oper) (o : Oper) : Option Bool :=
  match o.guard with
  | none => some true
  | some (j, want) => match (lget ops j).bind (·.dst) with
    | some d => match σ d with
      | .bool b => some (b == want)
      | .undef => none
      | _ => some false
    | none => none
theorem fguard_eq (env : Env) (ops : List Oper) (o : Oper) : guardOk env ops o = fguard (Env.at env) ops o := rfl
def fresults (T : Tab) (σ : Nat → AV) (h : AH) : List ResultVar → Option (List AV)
  | [] => some []
  | .tmp t :: rs => (fresults T σ h rs).map (σ t :: ·)
  | .cell a t :: rs => match aload T h t (σ a) with
    | some v => (fresults T σ h rs).map (v :: ·)
    | none => none
theorem fresults_eq (T : Tab) (env : Env) (h : AH) : ∀ rs, aresults T env h rs = fresults T (Env.at env) h rs
  | [] => rfl
  | .tmp t :: rs => by simp only [aresults, fresults, fresults_eq T env h rs]
  | .cell a t :: rs => by
    simp only [aresults, fresults, fresults_eq T env h rs]
    cases aload T h t (env.at a) <;> rfl
def start : Nat → List AV → Nat → AV
  | _, [] => fun _ => .tuple []
  | i, v :: vs => upd (start (i + 1) vs) i v
theorem bind_other : ∀ (vs : List AV) (e : Env) (i u : Nat), u < i → Env.at (bindArgs e i vs) u = Env.at e u
  | [], _, _, _, _ => rfl
  | v :: vs, e, i, u, h => by rw [bindArgs, bind_other vs _ _ _ (by omega), Env.at_put, if_neg (by omega)]
theorem bind_start : ∀ (vs : List AV) (e : Env) (i u : Nat), (∀ u, i ≤ u → Env.at e u = .tuple []) → i ≤ u → Env.at (bindArgs e i vs) u = start i vs u
  | [], e, i, u, h, hu => h u hu
  | v :: vs, e, i, u, h, hu => by
    rw [bindArgs, start]
    by_cases hi : u = i
    · subst hi
      rw [bind_other _ _ _ _ (by omega), Env.at_put, if_pos rfl]
      simp [upd]
    · rw [bind_start vs _ _ _ (fun u hu => by rw [Env.at_put, if_neg (by omega)]; exact h u (by omega)) (by omega)]
      have : Nat.beq u i = false := by rw [← Bool.not_eq_true]; simpa using hi
      simp only [upd, this]
theorem bind_leaf (vs : List AV) : Env.at (bindArgs .leaf 0 vs) = start 0 vs := by
  funext u
  exact bind_start vs _ _ _ (fun u _ => by unfold Env.at; rw [Tree.get_leaf]; rfl) (Nat.zero_le _)

variable (T : Tab) (X : Oracle)
structure EvC (n : Nat) (c : Code) (σ : Nat → AV) (h : AH) (Q : AExit → (Nat → AV) → AH → Prop) : Prop where
  out : ∃ K ex σ' h', (∀ env, Env.at env = σ → ∀ k, K ≤ k → ∃ env', Env.at env' = σ' ∧ acode T X k n c env h = some (ex, env', h')) ∧ h.next ≤ h'.next ∧ Q ex σ' h'
structure EvO (n : Nat) (ops rest : List Oper) (σ : Nat → AV) (h : AH) (Q : (Nat → AV) → AH → Prop) : Prop where
  out : ∃ K σ' h', (∀ env, Env.at env = σ → ∀ k, K ≤ k → ∃ env', Env.at env' = σ' ∧ aops T X k n ops rest env h = some (env', h')) ∧ h.next ≤ h'.next ∧ Q σ' h'
structure EvR (n : Nat) (ops : List Oper) (p : List PStep) (σ : Nat → AV) (h : AH) (Q : (Nat → AV) → AH → Prop) : Prop where
  out : ∃ K σ' h', (∀ env, Env.at env = σ → ∀ k, K ≤ k → ∃ rs env', Env.at env' = σ' ∧ arun T X k n ops p env h = some (rs, env', h') ∧ rs.map (·.s) = p) ∧ h.next ≤ h'.next ∧ Q σ' h'
structure EvP (op : Op) (σ : Nat → AV) (h : AH) (Q : AV → AH → Prop) : Prop where
  out : ∃ K v h', (∀ env, Env.at env = σ → ∀ k, K ≤ k → aop T X k env h op = some (v, h')) ∧ h.next ≤ h'.next ∧ Q v h'
structure EvF (f : FuncId) (args : List AV) (h : AH) (Q : AV → AH → Prop) : Prop where
  out : ∃ K v h', (∀ k, K ≤ k → acall T X k f args h = some (v, h')) ∧ h.next ≤ h'.next ∧ Q v h'
variable {T X} {n : Nat} {σ : Nat → AV} {h : AH}

theorem EvC.mono {c : Code} {Q Q' : AExit → (Nat → AV) → AH → Prop} (H : EvC T X n c σ h Q) (hQ : ∀ ex e h', h.next ≤ h'.next → Q ex e h' → Q' ex e h') : EvC T X n c σ h Q' := by
  obtain ⟨K, ex, e, h', h1, h2, h3⟩ := H; exact ⟨K, ex, e, h', h1, h2, hQ _ _ _ h2 h3⟩
theorem EvF.mono {f : FuncId} {args : List AV} {Q Q' : AV → AH → Prop} (H : EvF T X f args h Q) (hQ : ∀ v h', h.next ≤ h'.next → Q v h' → Q' v h') : EvF T X f args h Q' := by
  obtain ⟨K, v, h', h1, h2, h3⟩ := H; exact ⟨K, v, h', h1, h2, hQ _ _ h2 h3⟩
theorem up {K k : Nat} (h : K + 1 ≤ k) : ∃ j, k = j + 1 ∧ K ≤ j := ⟨k - 1, by omega, by omega⟩

theorem EvC.skip {Q : AExit → (Nat → AV) → AH → Prop} (H : Q .normal σ h) : EvC T X n .skip σ h Q := by
  refine ⟨1, _, _, _, fun env he k hk => ?_, Nat.le_refl _, H⟩
  obtain ⟨j, rfl, _⟩ := up hk; exact ⟨env, he, by simp only [acode]⟩
theorem EvC.label {l : Nat} {Q : AExit → (Nat → AV) → AH → Prop} (H : Q .normal σ h) : EvC T X n (.label l) σ h Q := by
  refine ⟨1, _, _, _, fun env he k hk => ?_, Nat.le_refl _, H⟩
  obtain ⟨j, rfl, _⟩ := up hk; exact ⟨env, he, by simp only [acode]⟩
theorem EvC.exit {l : Nat} {Q : AExit → (Nat → AV) → AH → Prop} (H : Q (.exit l) σ h) : EvC T X n (.exit l) σ h Q := by
  refine ⟨1, _, _, _, fun env he k hk => ?_, Nat.le_refl _, H⟩
  obtain ⟨j, rfl, _⟩ := up hk; exact ⟨env, he, by simp only [acode]⟩
theorem EvC.ret {Q : AExit → (Nat → AV) → AH → Prop} (H : Q .ret σ h) : EvC T X n .ret σ h Q := by
  refine ⟨1, _, _, _, fun env he k hk => ?_, Nat.le_refl _, H⟩
  obtain ⟨j, rfl, _⟩ := up hk; exact ⟨env, he, by simp only [acode]⟩
/-- What comes behind: the second part, if the first ends at its end. -/
def andThen0 (T : Tab) (X : Oracle) (n : Nat) (b : Code) (Q : AExit → (Nat → AV) → AH → Prop) : AExit → (Nat → AV) → AH → Prop
  | .normal, σ, h => EvC T X n b σ h Q
  | ex, σ, h => Q ex σ h
structure andThen (T : Tab) (X : Oracle) (n : Nat) (b : Code) (Q : AExit → (Nat → AV) → AH → Prop) (ex : AExit) (σ : Nat → AV) (h : AH) : Prop where
  out : andThen0 T X n b Q ex σ h
theorem EvC.seq {a b : Code} {Q : AExit → (Nat → AV) → AH → Prop} (H : EvC T X n a σ h (andThen T X n b Q)) : EvC T X n (.seq a b) σ h Q := by
  obtain ⟨K, ex, e, h', h1, h2, h3⟩ := H
  replace h3 := h3.out
  cases ex with
  | normal =>
    obtain ⟨K', ex', e', h'', g1, g2, g3⟩ := h3
    refine ⟨max K K' + 1, ex', e', h'', fun env he k hk => ?_, Nat.le_trans h2 g2, g3⟩
    obtain ⟨j, rfl, hj⟩ := up hk
    obtain ⟨env1, a1, a2⟩ := h1 env he j (by omega)
    obtain ⟨env2, b1, b2⟩ := g1 env1 a1 j (by omega)
    exact ⟨env2, b1, by simp only [acode, a2, b2]⟩
  | ret =>
    refine ⟨K + 1, .ret, e, h', fun env he k hk => ?_, h2, h3⟩
    obtain ⟨j, rfl, hj⟩ := up hk
    obtain ⟨env1, a1, a2⟩ := h1 env he j (by omega)
    exact ⟨env1, a1, by simp only [acode, a2]⟩
  | exit i =>
    refine ⟨K + 1, .exit i, e, h', fun env he k hk => ?_, h2, h3⟩
    obtain ⟨j, rfl, hj⟩ := up hk
    obtain ⟨env1, a1, a2⟩ := h1 env he j (by omega)
    exact ⟨env1, a1, by simp only [acode, a2]⟩
theorem EvC.cond {c : Operand} {t : Bool} {a b : Code} {Q : AExit → (Nat → AV) → AH → Prop} (hc : evf σ c = .bool t) (H1 : t = true → EvC T X n a σ h Q) (H2 : t = false → EvC T X n b σ h Q) : EvC T X n (.cond c a b) σ h Q := by
  have : EvC T X n (if t then a else b) σ h Q := by cases t; exact H2 rfl; exact H1 rfl
  obtain ⟨K, ex, e, h', h1, h2, h3⟩ := this
  refine ⟨K + 1, ex, e, h', fun env he k hk => ?_, h2, h3⟩
  obtain ⟨j, rfl, hj⟩ := up hk
  obtain ⟨env1, a1, a2⟩ := h1 env he j (by omega)
  exact ⟨env1, a1, by simp only [acode, aev_evf, he, hc, a2]⟩
def behind0 (i : Nat) (Q : AExit → (Nat → AV) → AH → Prop) : AExit → (Nat → AV) → AH → Prop
  | .exit j, σ, h => match Nat.beq j i with | true => Q .normal σ h | false => Q (.exit j) σ h
  | ex, σ, h => Q ex σ h
structure behind (i : Nat) (Q : AExit → (Nat → AV) → AH → Prop) (ex : AExit) (σ : Nat → AV) (h : AH) : Prop where
  out : behind0 i Q ex σ h
theorem EvC.block {i : Nat} {b : Code} {Q : AExit → (Nat → AV) → AH → Prop} (H : EvC T X n b σ h (behind i Q)) : EvC T X n (.block i b) σ h Q := by
  obtain ⟨K, ex, e, h', h1, h2, h3⟩ := H
  replace h3 := h3.out
  cases ex with
  | normal =>
    refine ⟨K + 1, .normal, e, h', fun env he k hk => ?_, h2, h3⟩
    obtain ⟨j, rfl, hj⟩ := up hk
    obtain ⟨env1, a1, a2⟩ := h1 env he j (by omega)
    exact ⟨env1, a1, by simp only [acode, a2]⟩
  | ret =>
    refine ⟨K + 1, .ret, e, h', fun env he k hk => ?_, h2, h3⟩
    obtain ⟨j, rfl, hj⟩ := up hk
    obtain ⟨env1, a1, a2⟩ := h1 env he j (by omega)
    exact ⟨env1, a1, by simp only [acode, a2]⟩
  | exit l =>
    simp only [behind0] at h3
    split at h3
    · rename_i hl
      have hl := Nat.eq_of_beq_eq_true hl
      subst hl
      refine ⟨K + 1, .normal, e, h', fun env he k hk => ?_, h2, h3⟩
      obtain ⟨j, rfl, hj⟩ := up hk
      obtain ⟨env1, a1, a2⟩ := h1 env he j (by omega)
      exact ⟨env1, a1, by simp only [acode, a2, if_true]⟩
    · rename_i hl
      have hl : l ≠ i := fun e => by rw [e] at hl; simp at hl
      refine ⟨K + 1, .exit l, e, h', fun env he k hk => ?_, h2, h3⟩
      obtain ⟨j, rfl, hj⟩ := up hk
      obtain ⟨env1, a1, a2⟩ := h1 env he j (by omega)
      exact ⟨env1, a1, by simp only [acode, a2, if_neg hl]⟩
/-- A loop by what holds ahead of each round; the number falls. -/
def round0 (I : Nat → (Nat → AV) → AH → Prop) (m : Nat) (Q : AExit → (Nat → AV) → AH → Prop) : AExit → (Nat → AV) → AH → Prop
  | .normal, σ, h => ∃ m', m' < m ∧ I m' σ h
  | ex, σ, h => Q ex σ h
structure round (I : Nat → (Nat → AV) → AH → Prop) (m : Nat) (Q : AExit → (Nat → AV) → AH → Prop) (ex : AExit) (σ : Nat → AV) (h : AH) : Prop where
  out : round0 I m Q ex σ h
theorem EvC.loop {b : Code} {Q : AExit → (Nat → AV) → AH → Prop} (I : Nat → (Nat → AV) → AH → Prop) (m : Nat) (h0 : I m σ h)
    (H : ∀ m σ h, I m σ h → EvC T X n b σ h (round I m Q)) : EvC T X n (.loop b) σ h Q := by
  induction m using Nat.strongRecOn generalizing σ h with
  | _ m ih =>
    obtain ⟨K, ex, e, h', h1, h2, h3⟩ := H m σ h h0
    replace h3 := h3.out
    cases ex with
    | normal =>
      obtain ⟨m', hm, hi⟩ := h3
      obtain ⟨K', ex', e', h'', g1, g2, g3⟩ := ih m' hm hi
      refine ⟨max K K' + 1, ex', e', h'', fun env he k hk => ?_, Nat.le_trans h2 g2, g3⟩
      obtain ⟨j, rfl, hj⟩ := up hk
      obtain ⟨env1, a1, a2⟩ := h1 env he j (by omega)
      obtain ⟨env2, b1, b2⟩ := g1 env1 a1 j (by omega)
      exact ⟨env2, b1, by simp only [acode, a2, b2]⟩
    | ret =>
      refine ⟨K + 1, .ret, e, h', fun env he k hk => ?_, h2, h3⟩
      obtain ⟨j, rfl, hj⟩ := up hk
      obtain ⟨env1, a1, a2⟩ := h1 env he j (by omega)
      exact ⟨env1, a1, by simp only [acode, a2]⟩
    | exit i =>
      refine ⟨K + 1, .exit i, e, h', fun env he k hk => ?_, h2, h3⟩
      obtain ⟨j, rfl, hj⟩ := up hk
      obtain ⟨env1, a1, a2⟩ := h1 env he j (by omega)
      exact ⟨env1, a1, by simp only [acode, a2]⟩
theorem EvC.region {id : Nat} {ops : Array Oper} {l : List Oper} {Q : AExit → (Nat → AV) → AH → Prop} (hl : ops.toList = l) (H : EvO T X n l l σ h (Q .normal)) : EvC T X n (.region id ops false) σ h Q := by
  subst hl
  obtain ⟨K, e, h', h1, h2, h3⟩ := H
  refine ⟨K + 1, .normal, e, h', fun env he k hk => ?_, h2, h3⟩
  obtain ⟨j, rfl, hj⟩ := up hk
  obtain ⟨env1, a1, a2⟩ := h1 env he j (by omega)
  exact ⟨env1, a1, by simp only [acode, a2]⟩
theorem recheck_still : ∀ (rs : List Rec), (∀ r ∈ rs, r.s.eff = true ∨ r.s.hi ≤ r.s.lo) → recheck T rs = true
  | [], _ => rfl
  | r :: rs, H => by
    simp only [recheck, recheck_still rs (fun x hx => H x (List.mem_cons_of_mem _ hx)), Bool.and_true, Bool.or_eq_true]
    rcases H r (List.mem_cons_self ..) with h | h
    · exact .inl h
    · right; rw [Nat.sub_eq_zero_of_le h]; simp
def still (p : List PStep) : Bool := p.all fun s => s.eff || decide (s.hi ≤ s.lo)
theorem EvC.drawn {id : Nat} {ops : Array Oper} {l : List Oper} {p : List PStep} {Q : AExit → (Nat → AV) → AH → Prop} (hl : ops.toList = l) (hp : plan T l = p) (hk : planOk T l p = true) (hs : still p = true) (H : EvR T X n l p σ h (Q .normal)) : EvC T X n (.region id ops true) σ h Q := by
  subst hl; subst hp
  obtain ⟨K, e, h', h1, h2, h3⟩ := H
  refine ⟨K + 1, .normal, e, h', fun env he k hk' => ?_, h2, h3⟩
  obtain ⟨j, rfl, hj⟩ := up hk'
  obtain ⟨rs, env1, a1, a2, hr⟩ := h1 env he j (by omega)
  have hre : recheck T rs = true := recheck_still rs fun r hr' => by
    have := List.all_eq_true.1 hs r.s (by rw [← hr]; exact List.mem_map_of_mem hr')
    simpa using this
  exact ⟨env1, a1, by simp only [acode, hk, if_true, a2, hre]⟩

theorem EvO.nil {ops : List Oper} {Q : (Nat → AV) → AH → Prop} (H : Q σ h) : EvO T X n ops [] σ h Q := by
  refine ⟨1, σ, h, fun env he k hk => ?_, Nat.le_refl _, H⟩
  obtain ⟨j, rfl, hj⟩ := up hk
  exact ⟨env, he, by simp only [aops]⟩
theorem EvO.guard {ops rest : List Oper} {o : Oper} {d : Nat} {t : Bool} {Q : (Nat → AV) → AH → Prop} (hg : fguard σ ops o = some t) (hd : o.dst = some d) (hn : Nat.ble (d + 1) n = true)
    (H1 : t = true → EvP T X o.op σ h fun v h' => EvO T X n ops rest (upd σ d v) h' Q) (H2 : t = false → EvO T X n ops rest (upd σ d (.tuple [])) h Q) : EvO T X n ops (o :: rest) σ h Q := by
  have hn : d < n := Nat.le_of_ble_eq_true hn
  cases t with
  | true =>
    obtain ⟨K, v, h', h1, h2, K', e, h'', g1, g2, g3⟩ := H1 rfl
    refine ⟨max K K' + 1, e, h'', fun env he k hk => ?_, Nat.le_trans h2 g2, g3⟩
    obtain ⟨j, rfl, hj⟩ := up hk
    obtain ⟨env2, b1, b2⟩ := g1 (env.put d v) (by rw [at_upd, he]) j (by omega)
    exact ⟨env2, b1, by simp only [aops, fguard_eq, he, hg, h1 env he j (by omega), putDst, hd, if_pos hn, b2]⟩
  | false =>
    obtain ⟨K', e, h'', g1, g2, g3⟩ := H2 rfl
    refine ⟨K' + 1, e, h'', fun env he k hk => ?_, g2, g3⟩
    obtain ⟨j, rfl, hj⟩ := up hk
    obtain ⟨env2, b1, b2⟩ := g1 (env.put d (.tuple [])) (by rw [at_upd, he]) j (by omega)
    exact ⟨env2, b1, by simp only [aops, fguard_eq, he, hg, putDst, hd, if_pos hn, b2]⟩
theorem EvO.guard0 {ops rest : List Oper} {o : Oper} {t : Bool} {Q : (Nat → AV) → AH → Prop} (hg : fguard σ ops o = some t) (hd : o.dst = none)
    (H1 : t = true → EvP T X o.op σ h fun _ h' => EvO T X n ops rest σ h' Q) (H2 : t = false → EvO T X n ops rest σ h Q) : EvO T X n ops (o :: rest) σ h Q := by
  cases t with
  | true =>
    obtain ⟨K, v, h', h1, h2, K', e, h'', g1, g2, g3⟩ := H1 rfl
    refine ⟨max K K' + 1, e, h'', fun env he k hk => ?_, Nat.le_trans h2 g2, g3⟩
    obtain ⟨j, rfl, hj⟩ := up hk
    obtain ⟨env2, b1, b2⟩ := g1 env he j (by omega)
    exact ⟨env2, b1, by simp only [aops, fguard_eq, he, hg, h1 env he j (by omega), putDst, hd, b2]⟩
  | false =>
    obtain ⟨K', e, h'', g1, g2, g3⟩ := H2 rfl
    refine ⟨K' + 1, e, h'', fun env he k hk => ?_, g2, g3⟩
    obtain ⟨j, rfl, hj⟩ := up hk
    obtain ⟨env2, b1, b2⟩ := g1 env he j (by omega)
    exact ⟨env2, b1, by simp only [aops, fguard_eq, he, hg, putDst, hd, b2]⟩
theorem fguard_none {ops : List Oper} {o : Oper} (hg : o.guard = none) : fguard σ ops o = some true := by simp only [fguard, hg]
theorem EvO.cons {ops rest : List Oper} {o : Oper} {d : Nat} {Q : (Nat → AV) → AH → Prop} (hg : o.guard = none) (hd : o.dst = some d) (hn : Nat.ble (d + 1) n = true) (H : EvP T X o.op σ h fun v h' => EvO T X n ops rest (upd σ d v) h' Q) : EvO T X n ops (o :: rest) σ h Q :=
  EvO.guard (fguard_none hg) hd hn (fun _ => H) (fun e => by cases e)
theorem EvO.cons0 {ops rest : List Oper} {o : Oper} {Q : (Nat → AV) → AH → Prop} (hg : o.guard = none) (hd : o.dst = none) (H : EvP T X o.op σ h fun _ h' => EvO T X n ops rest σ h' Q) : EvO T X n ops (o :: rest) σ h Q :=
  EvO.guard0 (fguard_none hg) hd (fun _ => H) (fun e => by cases e)
theorem EvO.on {ops rest : List Oper} {o : Oper} {d : Nat} {Q : (Nat → AV) → AH → Prop} (hg : fguard σ ops o = some true) (hd : o.dst = some d) (hn : Nat.ble (d + 1) n = true) (H : EvP T X o.op σ h fun v h' => EvO T X n ops rest (upd σ d v) h' Q) : EvO T X n ops (o :: rest) σ h Q :=
  EvO.guard hg hd hn (fun _ => H) (fun e => by cases e)
theorem EvO.off {ops rest : List Oper} {o : Oper} {d : Nat} {Q : (Nat → AV) → AH → Prop} (hg : fguard σ ops o = some false) (hd : o.dst = some d) (hn : Nat.ble (d + 1) n = true) (H : EvO T X n ops rest (upd σ d (.tuple [])) h Q) : EvO T X n ops (o :: rest) σ h Q :=
  EvO.guard hg hd hn (fun e => by cases e) (fun _ => H)
theorem EvR.nil {ops : List Oper} {Q : (Nat → AV) → AH → Prop} (H : Q σ h) : EvR T X n ops [] σ h Q := by
  refine ⟨1, σ, h, fun env he k hk => ?_, Nat.le_refl _, H⟩
  obtain ⟨j, rfl, hj⟩ := up hk
  exact ⟨[], env, he, by simp only [arun], rfl⟩
theorem EvR.guard {ops : List Oper} {s : PStep} {p : List PStep} {o : Oper} {d : Nat} {t : Bool} {Q : (Nat → AV) → AH → Prop} (ho : lget ops s.idx = some o) (hg : fguard σ ops o = some t) (hd : o.dst = some d) (hn : Nat.ble (d + 1) n = true)
    (H1 : t = true → EvP T X o.op σ h fun v h' => EvR T X n ops p (upd σ d v) h' Q) (H2 : t = false → EvR T X n ops p (upd σ d (.tuple [])) h Q) : EvR T X n ops (s :: p) σ h Q := by
  have hn : d < n := Nat.le_of_ble_eq_true hn
  cases t with
  | true =>
    obtain ⟨K, v, h', h1, h2, K', e, h'', g1, g2, g3⟩ := H1 rfl
    refine ⟨max K K' + 1, e, h'', fun env he k hk => ?_, Nat.le_trans h2 g2, g3⟩
    obtain ⟨j, rfl, hj⟩ := up hk
    obtain ⟨rs, env2, b1, b2, b3⟩ := g1 (env.put d v) (by rw [at_upd, he]) j (by omega)
    exact ⟨⟨s, o, env, h, true, v, h'⟩ :: rs, env2, b1, by simp only [arun, ho, fguard_eq, he, hg, h1 env he j (by omega), putDst, hd, if_pos hn, if_neg (Nat.not_lt.2 h2), b2], by simp [b3]⟩
  | false =>
    obtain ⟨K', e, h'', g1, g2, g3⟩ := H2 rfl
    refine ⟨K' + 1, e, h'', fun env he k hk => ?_, g2, g3⟩
    obtain ⟨j, rfl, hj⟩ := up hk
    obtain ⟨rs, env2, b1, b2, b3⟩ := g1 (env.put d (.tuple [])) (by rw [at_upd, he]) j (by omega)
    exact ⟨⟨s, o, env, h, false, .tuple [], h⟩ :: rs, env2, b1, by simp only [arun, ho, fguard_eq, he, hg, putDst, hd, if_pos hn, b2], by simp [b3]⟩
theorem EvR.cons {ops : List Oper} {s : PStep} {p : List PStep} {o : Oper} {d : Nat} {Q : (Nat → AV) → AH → Prop} (ho : lget ops s.idx = some o) (hg : o.guard = none) (hd : o.dst = some d) (hn : Nat.ble (d + 1) n = true) (H : EvP T X o.op σ h fun v h' => EvR T X n ops p (upd σ d v) h' Q) : EvR T X n ops (s :: p) σ h Q :=
  EvR.guard ho (fguard_none hg) hd hn (fun _ => H) (fun e => by cases e)
theorem EvR.cons0 {ops : List Oper} {s : PStep} {p : List PStep} {o : Oper} {Q : (Nat → AV) → AH → Prop} (ho : lget ops s.idx = some o) (hg : o.guard = none) (hd : o.dst = none) (H : EvP T X o.op σ h fun _ h' => EvR T X n ops p σ h' Q) : EvR T X n ops (s :: p) σ h Q := by
  obtain ⟨K, v, h', h1, h2, K', e, h'', g1, g2, g3⟩ := H
  refine ⟨max K K' + 1, e, h'', fun env he k hk => ?_, Nat.le_trans h2 g2, g3⟩
  obtain ⟨j, rfl, hj⟩ := up hk
  obtain ⟨rs, env2, b1, b2, b3⟩ := g1 env he j (by omega)
  exact ⟨⟨s, o, env, h, true, v, h'⟩ :: rs, env2, b1, by simp only [arun, ho, guardOk, hg, h1 env he j (by omega), putDst, hd, if_neg (Nat.not_lt.2 h2), b2], by simp [b3]⟩

theorem EvR.on {ops : List Oper} {s : PStep} {p : List PStep} {o : Oper} {d : Nat} {Q : (Nat → AV) → AH → Prop} (ho : lget ops s.idx = some o) (hg : fguard σ ops o = some true) (hd : o.dst = some d) (hn : Nat.ble (d + 1) n = true) (H : EvP T X o.op σ h fun v h' => EvR T X n ops p (upd σ d v) h' Q) : EvR T X n ops (s :: p) σ h Q :=
  EvR.guard ho hg hd hn (fun _ => H) (fun e => by cases e)
theorem EvR.off {ops : List Oper} {s : PStep} {p : List PStep} {o : Oper} {d : Nat} {Q : (Nat → AV) → AH → Prop} (ho : lget ops s.idx = some o) (hg : fguard σ ops o = some false) (hd : o.dst = some d) (hn : Nat.ble (d + 1) n = true) (H : EvR T X n ops p (upd σ d (.tuple [])) h Q) : EvR T X n ops (s :: p) σ h Q :=
  EvR.guard ho hg hd hn (fun e => by cases e) (fun _ => H)
theorem isB {p q : Bool} (h : p = q) : some (AV.bool p) = some (.bool q) := by rw [h]
theorem isI {k : IntKind} {p q : Int} (h : p = q) : some (AV.int k p) = some (.int k q) := by rw [h]
theorem EvP.quiet {op : Op} {v : AV} {Q : AV → AH → Prop} (hk : kindOf T op = .quiet) (hv : fquiet T (evf σ) h op = some v) (H : Q v h) : EvP T X op σ h Q := by
  refine ⟨1, v, h, fun env he k hk' => ?_, Nat.le_refl _, H⟩
  obtain ⟨j, rfl, hj⟩ := up hk'
  simp only [aop, hk, fquiet_eq, aev_evf, he, hv]
theorem EvP.fresh {op : Op} {b : AObj} {mk : Mk} {Q : AV → AH → Prop} (hk : kindOf T op = .fresh) (hv : ffresh T (evf σ) op = some (b, mk)) (hn : h.t.get h.next = none) (H : Q (mk.av h.next) (h.new b).2) : EvP T X op σ h Q := by
  refine ⟨1, _, _, fun env he k hk' => ?_, by simp [AH.new], H⟩
  obtain ⟨j, rfl, hj⟩ := up hk'
  simp only [aop, hk, ffresh_eq, aev_evf, he, hv, hn]
theorem EvP.eff {op : Op} {v : AV} {h' : AH} {Q : AV → AH → Prop} (hk : kindOf T op = .eff) (hv : feff T (evf σ) h op = some (.val v h')) (hn : h.next ≤ h'.next) (H : Q v h') : EvP T X op σ h Q := by
  refine ⟨1, v, h', fun env he k hk' => ?_, hn, H⟩
  obtain ⟨j, rfl, hj⟩ := up hk'
  simp only [aop, hk, feff_eq, aev_evf, he, hv]
theorem EvP.enter {op : Op} {f : FuncId} {args : List AV} {Q : AV → AH → Prop} (hk : kindOf T op = .eff) (hv : feff T (evf σ) h op = some (.enter f args)) (H : EvF T X f args h Q) : EvP T X op σ h Q := by
  obtain ⟨K, v, h', h1, h2, h3⟩ := H
  refine ⟨K + 1, v, h', fun env he k hk' => ?_, h2, h3⟩
  obtain ⟨j, rfl, hj⟩ := up hk'
  simp only [aop, hk, feff_eq, aev_evf, he, hv, h1 j hj]
theorem EvP.callF {c : Call} {fo : Operand} {f : FuncId} {cap args : List AV} {Q : AV → AH → Prop} (hc : c.callee = .value fo) (hf : evf σ fo = .func f cap) (hx : T.xt.get f = none) (ha : c.args.toList.map (evf σ) ++ cap = args) (H : EvF T X f args h Q) : EvP T X (.call c) σ h Q := by
  refine EvP.enter (by simp only [kindOf, hc]) ?_ H
  subst ha
  simp only [feff, hc, hf, hx]
/-- What a function's end gives. -/
def atEnd0 (T : Tab) (rs : List ResultVar) (Q : AV → AH → Prop) : AExit → (Nat → AV) → AH → Prop
  | .exit _, _, _ => False
  | _, σ, h => ∃ vs, fresults T σ h rs = some vs ∧ Q (packRes vs) h
structure atEnd (T : Tab) (rs : List ResultVar) (Q : AV → AH → Prop) (ex : AExit) (σ : Nat → AV) (h : AH) : Prop where
  out : atEnd0 T rs Q ex σ h
theorem EvF.enter {f : FuncId} {fn : AFunc} {args : List AV} {Q : AV → AH → Prop} (hf : T.ft.get f = some fn) (hX : X f args h = none) (ha : Nat.ble args.length fn.ntmps = true) (H : EvC T X fn.ntmps fn.body (start 0 args) h (atEnd T fn.results Q)) : EvF T X f args h Q := by
  have ha := Nat.le_of_ble_eq_true ha
  obtain ⟨K, ex, e, h', h1, h2, h3⟩ := H
  replace h3 := h3.out
  cases ex with
  | exit i => exact absurd h3 (by simp [atEnd0])
  | normal =>
    obtain ⟨vs, h4, h5⟩ := h3
    refine ⟨K + 1, _, h', fun k hk => ?_, h2, h5⟩
    obtain ⟨j, rfl, hj⟩ := up hk
    obtain ⟨env1, a1, a2⟩ := h1 _ (bind_leaf args) j hj
    simp only [acall, hf, hX, if_pos ha, a2, fresults_eq, a1, h4, Option.map_some]
  | ret =>
    obtain ⟨vs, h4, h5⟩ := h3
    refine ⟨K + 1, _, h', fun k hk => ?_, h2, h5⟩
    obtain ⟨j, rfl, hj⟩ := up hk
    obtain ⟨env1, a1, a2⟩ := h1 _ (bind_leaf args) j hj
    simp only [acall, hf, hX, if_pos ha, a2, fresults_eq, a1, h4, Option.map_some]
theorem EvF.oracle {f : FuncId} {fn : AFunc} {args : List AV} {v : AV} {h' : AH} {Q : AV → AH → Prop} (hf : T.ft.get f = some fn) (hX : X f args h = some (v, h')) (hn : h.next ≤ h'.next) (H : Q v h') : EvF T X f args h Q := by
  refine ⟨1, v, h', fun k hk => ?_, hn, H⟩
  obtain ⟨j, rfl, hj⟩ := up hk
  simp only [acall, hf, hX]
section steps
variable {Q : AExit → (Nat → AV) → AH → Prop}
theorem at_normal {b : Code} (H : EvC T X n b σ h Q) : andThen T X n b Q .normal σ h := ⟨H⟩
theorem at_ret {b : Code} (H : Q .ret σ h) : andThen T X n b Q .ret σ h := ⟨H⟩
theorem at_exit {b : Code} {i : Nat} (H : Q (.exit i) σ h) : andThen T X n b Q (.exit i) σ h := ⟨H⟩
theorem be_normal {i : Nat} (H : Q .normal σ h) : behind i Q .normal σ h := ⟨H⟩
theorem be_ret {i : Nat} (H : Q .ret σ h) : behind i Q .ret σ h := ⟨H⟩
theorem be_same {i j : Nat} (hj : Nat.beq j i = true) (H : Q .normal σ h) : behind i Q (.exit j) σ h := ⟨by simp only [behind0, hj]; exact H⟩
theorem be_other {i j : Nat} (hj : Nat.beq j i = false) (H : Q (.exit j) σ h) : behind i Q (.exit j) σ h := ⟨by simp only [behind0, hj]; exact H⟩
theorem ro_normal {I : Nat → (Nat → AV) → AH → Prop} {m : Nat} (H : ∃ m', m' < m ∧ I m' σ h) : round I m Q .normal σ h := ⟨H⟩
theorem ro_ret {I : Nat → (Nat → AV) → AH → Prop} {m : Nat} (H : Q .ret σ h) : round I m Q .ret σ h := ⟨H⟩
theorem ro_exit {I : Nat → (Nat → AV) → AH → Prop} {m i : Nat} (H : Q (.exit i) σ h) : round I m Q (.exit i) σ h := ⟨H⟩
theorem end_normal {rs : List ResultVar} {Q : AV → AH → Prop} {vs : List AV} (h1 : fresults T σ h rs = some vs) (h2 : Q (packRes vs) h) : atEnd T rs Q .normal σ h := ⟨vs, h1, h2⟩
theorem end_ret {rs : List ResultVar} {Q : AV → AH → Prop} {vs : List AV} (h1 : fresults T σ h rs = some vs) (h2 : Q (packRes vs) h) : atEnd T rs Q .ret σ h := ⟨vs, h1, h2⟩
end steps
/-- One function without arguments that is known to give true. -/
def trueX (f0 : FuncId) : Oracle := fun f args h => match Nat.beq f f0, args with
  | true, [] => some (.bool true, h)
  | _, _ => none
theorem WRel.grow {T : Tab} {γ : Emb} {h : AH} {w0 w w' : World} (hw : WRel T γ h w0 w) (hb : Go.RowKit.Below w.heap.size w w') : WRel T γ h w0 w' where
  below := hw.below.trans (hb.mono hw.below.size)
  dom := hw.dom
  obj := fun id b s K z e => by
    obtain ⟨o, h1, h2, h3⟩ := hw.obj id b s K z e
    exact ⟨o, h1, by have := hb.size; omega, by rw [hb.block b h2]; exact h3⟩
  glob := hw.glob
  inj := hw.inj
theorem GlobOk.at {T : Tab} {γ : Emb} {h : AH} {w0 w : World} (hw : WRel T γ h w0 w) : GlobOk T w := fun g cs hg => by
  obtain ⟨h1, c, e, fz, h2, h3⟩ := hw.glob g cs hg
  exact ⟨by have := hw.below.size; omega, c, e, fz, by rw [hw.below.block g h1]; exact h2, h3⟩
theorem trueX_ok {P : Program} (hm : P.follows .mixedOrders = true) {gt : Tree (List AV)} {k : Nat} {f0 : FuncId} (hr : isTrue (acall (mkTab P gt) noOracle k f0 [] ⟨.leaf, 0⟩) = true) (w0 : World) : OracleOk P (mkTab P gt) (trueX f0) w0 := by
  intro f x args args' h h' v γ w _ hx hw hl
  unfold trueX at hx
  cases hb : Nat.beq f f0 with
  | false => rw [hb] at hx; cases hx
  | true =>
    rw [hb] at hx
    cases args with
    | cons _ _ => cases hx
    | nil =>
      cases hx
      obtain rfl := Nat.eq_of_beq_eq_true hb
      cases hl
      refine (runs_true hm hr .nil w (GlobOk.at hw)).mono fun e w' ⟨h1, h2⟩ => ?_
      exact ⟨_, γ, h1, Ext.refl _ _, Nat.le_refl _, hw.grow h2, .bool _⟩
theorem law_runs {P : Program} (hm : P.follows .mixedOrders = true) {gt : Tree (List AV)} {k : Nat} {f0 : FuncId} (hr : isTrue (acall (mkTab P gt) noOracle k f0 [] ⟨.leaf, 0⟩) = true) {f : FuncId} {args : List AV} {args' : List Value} {h : AH} {γ : Emb} {w : World}
    (hw : WRel (mkTab P gt) γ h w w) (hl : LRel γ args args') (H : EvF (mkTab P gt) (trueX f0) f args h (fun v _ => v = .bool true)) : Calls P f ⟨args'⟩ w (fun e w' => e = .returned (.bool true) ∧ Go.RowKit.Below w.heap.size w w') := by
  obtain ⟨K, v, h', h1, _, rfl⟩ := H
  refine (acall_sound (tabOk hm) (trueX_ok hm hr w) (h1 K (Nat.le_refl _)) hw hl).mono fun e w' ⟨v', γ', e1, _, _, h4, h5⟩ => ?_
  cases h5
  exact ⟨e1, h4.below⟩
end Go.AI
