/- What the abstract machine's values, objects and heaps stand for. -/
import Derived.Test.YtfjloafebkjadaaGreatDoorAIDef
import Derived.Below
import Derived.Laws.Append
import Derived.Laws.Rows
import Derived.Orders
/- What the abstract machine's values, objects and heaps stand for. -/
namespace Go.AI
open Go.RowKit (Below)

/-! ### Trees -/
theorem Tree.get_set {α : Type} : ∀ (k : Nat) (t : Tree α) (n : Nat) (x : Option α) (m : Nat), n < k → (Tree.set k t n x).get m = if m = n then x else t.get m := by
  intro k
  induction k with
  | zero => intro t n x m h; omega
  | succ k ih =>
    intro t n x m h
    by_cases hn : n = 0
    · subst hn
      cases t <;> simp only [Tree.set, Tree.get, if_true]
      · by_cases hm : m = 0
        · simp [hm]
        · simp only [hm, if_false]; split <;> rfl
      · by_cases hm : m = 0 <;> simp [hm]
    · by_cases ho : n % 2 = 1
      · have h1 : n / 2 < k := by omega
        cases t <;> simp only [Tree.set, Tree.get, hn, ho, if_true, if_false]
        · by_cases hm : m = 0
          · rw [if_pos hm, if_neg (by omega)]
          · rw [if_neg hm]
            by_cases hm2 : m % 2 = 1
            · rw [if_pos hm2, ih _ _ _ _ h1]
              by_cases e : m = n
              · rw [if_pos e, if_pos (by omega)]
              · rw [if_neg e, if_neg (by omega)]; rfl
            · rw [if_neg hm2, if_neg (by omega)]
        · by_cases hm : m = 0
          · rw [if_pos hm, if_neg (by omega), if_pos hm]
          · rw [if_neg hm, if_neg hm]
            by_cases hm2 : m % 2 = 1
            · rw [if_pos hm2, if_pos hm2, ih _ _ _ _ h1]
              by_cases e : m = n
              · rw [if_pos e, if_pos (by omega)]
              · rw [if_neg e, if_neg (by omega)]
            · rw [if_neg hm2, if_neg hm2, if_neg (by omega)]
      · have h1 : n / 2 - 1 < k := by omega
        cases t <;> simp only [Tree.set, Tree.get, hn, ho, if_false]
        · by_cases hm : m = 0
          · rw [if_pos hm, if_neg (by omega)]
          · rw [if_neg hm]
            by_cases hm2 : m % 2 = 1
            · rw [if_pos hm2, if_neg (by omega)]
            · rw [if_neg hm2, ih _ _ _ _ h1]
              by_cases e : m = n
              · rw [if_pos e, if_pos (by omega)]
              · rw [if_neg e, if_neg (by omega)]; rfl
        · by_cases hm : m = 0
          · rw [if_pos hm, if_neg (by omega), if_pos hm]
          · rw [if_neg hm, if_neg hm]
            by_cases hm2 : m % 2 = 1
            · rw [if_pos hm2, if_pos hm2, if_neg (by omega)]
            · rw [if_neg hm2, if_neg hm2, ih _ _ _ _ h1]
              by_cases e : m = n
              · rw [if_pos e, if_pos (by omega)]
              · rw [if_neg e, if_neg (by omega)]
theorem Tree.get_put {α : Type} (t : Tree α) (n : Nat) (x : α) (m : Nat) : (t.put n x).get m = if m = n then some x else t.get m := Tree.get_set (n + 1) t n (some x) m (by omega)
theorem Tree.get_put_same {α : Type} (t : Tree α) (n : Nat) (x : α) : (t.put n x).get n = some x := by simp [Tree.get_put]
theorem Tree.get_put_ne {α : Type} (t : Tree α) {n m : Nat} (x : α) (h : m ≠ n) : (t.put n x).get m = t.get m := by simp [Tree.get_put, h]

/-! ### Lists -/
theorem lget_eq {α : Type} : ∀ (l : List α) (i : Nat), lget l i = l[i]?
  | [], _ => by simp [lget]
  | _ :: _, 0 => by simp [lget]
  | _ :: xs, i + 1 => by simp [lget, lget_eq xs i]
theorem lset_eq {α : Type} : ∀ (l : List α) (i : Nat) (y : α), lset l i y = l.set i y
  | [], _, _ => by simp [lset]
  | _ :: _, 0, _ => by simp [lset]
  | _ :: xs, i + 1, y => by simp [lset, lset_eq xs i y]
theorem lsetMany_length {α : Type} : ∀ (vs l : List α) (i : Nat), (lsetMany l i vs).length = l.length
  | [], _, _ => rfl
  | v :: vs, l, i => by simp [lsetMany, lsetMany_length vs, lset_eq]
theorem lsetMany_get {α : Type} : ∀ (vs l : List α) (i : Nat), i + vs.length ≤ l.length → ∀ j, (lsetMany l i vs)[j]? = if i ≤ j ∧ j < i + vs.length then vs[j - i]? else l[j]?
  | [], l, i, _, j => by simp [lsetMany]; omega
  | v :: vs, l, i, h, j => by
    simp only [List.length_cons] at h
    rw [lsetMany, lsetMany_get vs (lset l i v) (i + 1) (by simp [lset_eq]; omega) j, lset_eq]
    by_cases h1 : i + 1 ≤ j ∧ j < i + 1 + vs.length
    · rw [if_pos h1, if_pos (by simp; omega)]
      have : j - i = (j - (i + 1)) + 1 := by omega
      rw [this, List.getElem?_cons_succ]
    · rw [if_neg h1]
      by_cases h2 : j = i
      · subst h2
        rw [if_pos (by simp)]
        simp [List.getElem?_set]; omega
      · rw [if_neg (by simp; omega), List.getElem?_set_ne (by omega)]
theorem rep_length {α : Type} : ∀ (n : Nat) (z : List α), (rep n z).length = n * z.length
  | 0, _ => by simp [rep]
  | n + 1, z => by simp [rep, rep_length n z, Nat.succ_mul]; omega
theorem sub_some {α : Type} {l : List α} {i n : Nat} {r : List α} (h : sub l i n = some r) : i + n ≤ l.length ∧ r = (l.drop i).take n ∧ r.length = n := by
  unfold sub at h
  split at h
  · rename_i h1; cases h; exact ⟨h1, rfl, by simp; omega⟩
  · cases h

/-! ### Values -/
abbrev Emb := Nat → Option (Nat × Nat × Nat × Nat)
def Emb.le (γ γ' : Emb) : Prop := ∀ id x, γ id = some x → γ' id = some x
theorem Emb.le_refl (γ : Emb) : γ.le γ := fun _ _ h => h
theorem Emb.le_trans {a b c : Emb} (h : a.le b) (k : b.le c) : a.le c := fun id x e => k id x (h id x e)

mutual
inductive VRel (γ : Emb) : AV → Value → Prop
  | undef (v : Value) : VRel γ .undef v
  | bool (b : Bool) : VRel γ (.bool b) (.bool b)
  | int (k : IntKind) (n : Int) : VRel γ (.int k n) (.int k n)
  | str (s : List UInt8) : VRel γ (.str s) (.string ⟨⟨s⟩⟩)
  | ptr {id off b s K z : Nat} (h : γ id = some (b, s, K, z)) : VRel γ (.ptr id off) (.pointer (some ⟨b, s + off, none⟩))
  | glob (g off : Nat) : VRel γ (.glob g off) (.pointer (some ⟨g, off, none⟩))
  | nilPtr : VRel γ .nilPtr (.pointer none)
  | slice {id off len cap b s K z : Nat} (h : γ id = some (b, s, K, z)) : VRel γ (.slice id off len cap true) (.slice (some ⟨b, s + off, none⟩) len cap)
  | grown {id off len c cap b s K z : Nat} (h : γ id = some (b, s, K, z)) (hc : off + cap * z = K) (hl : len ≤ cap) : VRel γ (.slice id off len c false) (.slice (some ⟨b, s + off, none⟩) len cap)
  | nilSlice : VRel γ .nilSlice (.slice none 0 0)
  | eslice (a : Addr) (c : Nat) : VRel γ .eslice (.slice (some a) 0 c)
  | map {r b s K z : Nat} (h : γ r = some (b, s, K, z)) : VRel γ (.map r) (.map (some b))
  | nilMap : VRel γ .nilMap (.map none)
  | func {f : FuncId} {cs : List AV} {cs' : List Value} (h : LRel γ cs cs') : VRel γ (.func f cs) (.func (.func f) ⟨[]⟩ ⟨cs'⟩)
  | meth {f : FuncId} {cs : List AV} {cs' : List Value} (h : LRel γ cs cs') : VRel γ (.meth f cs) (.func (.func f) ⟨cs'⟩ ⟨[]⟩)
  | nilFunc : VRel γ .nilFunc .nilFunc
  | iface {t : TypeId} {v : AV} {v' : Value} (h : VRel γ v v') : VRel γ (.iface t v) (.iface t v')
  | nilIface : VRel γ .nilIface .nilIface
  | agg {cs : List AV} {cs' : List Value} (h : LRel γ cs cs') : VRel γ (.agg cs) (.agg ⟨cs'⟩)
  | tuple {cs : List AV} {cs' : List Value} (h : LRel γ cs cs') : VRel γ (.tuple cs) (.tuple ⟨cs'⟩)
inductive LRel (γ : Emb) : List AV → List Value → Prop
  | nil : LRel γ [] []
  | cons {v : AV} {v' : Value} {vs : List AV} {vs' : List Value} (h : VRel γ v v') (t : LRel γ vs vs') : LRel γ (v :: vs) (v' :: vs')
end

mutual
theorem VRel.mono {γ γ' : Emb} (hg : γ.le γ') : ∀ {v : AV} {v' : Value}, VRel γ v v' → VRel γ' v v'
  | _, _, .undef v => .undef v
  | _, _, .bool b => .bool b
  | _, _, .int k n => .int k n
  | _, _, .str s => .str s
  | _, _, .ptr h => .ptr (hg _ _ h)
  | _, _, .glob g o => .glob g o
  | _, _, .nilPtr => .nilPtr
  | _, _, .slice h => .slice (hg _ _ h)
  | _, _, .grown h hc hl => .grown (hg _ _ h) hc hl
  | _, _, .nilSlice => .nilSlice
  | _, _, .eslice a c => .eslice a c
  | _, _, .map h => .map (hg _ _ h)
  | _, _, .nilMap => .nilMap
  | _, _, .func h => .func (LRel.mono hg h)
  | _, _, .meth h => .meth (LRel.mono hg h)
  | _, _, .nilFunc => .nilFunc
  | _, _, .iface h => .iface (VRel.mono hg h)
  | _, _, .nilIface => .nilIface
  | _, _, .agg h => .agg (LRel.mono hg h)
  | _, _, .tuple h => .tuple (LRel.mono hg h)
theorem LRel.mono {γ γ' : Emb} (hg : γ.le γ') : ∀ {v : List AV} {v' : List Value}, LRel γ v v' → LRel γ' v v'
  | _, _, .nil => .nil
  | _, _, .cons h t => .cons (VRel.mono hg h) (LRel.mono hg t)
end

theorem LRel.length {γ : Emb} : ∀ {l : List AV} {l' : List Value}, LRel γ l l' → l'.length = l.length
  | _, _, .nil => rfl
  | _, _, .cons _ t => by simp [LRel.length t]
theorem LRel.get {γ : Emb} : ∀ {l : List AV} {l' : List Value}, LRel γ l l' → ∀ {i : Nat} {v : AV}, l[i]? = some v → ∃ v', l'[i]? = some v' ∧ VRel γ v v'
  | _, _, .nil, i, v, h => by simp at h
  | _, _, .cons h t, 0, v, e => by simp at e; subst e; exact ⟨_, by simp, h⟩
  | _, _, .cons h t, i + 1, v, e => by simp at e; obtain ⟨v', h1, h2⟩ := LRel.get t e; exact ⟨v', by simpa using h1, h2⟩
theorem LRel.of_get {γ : Emb} : ∀ {l : List AV} {l' : List Value}, l'.length = l.length → (∀ (i : Nat) (v : AV), l[i]? = some v → ∃ v', l'[i]? = some v' ∧ VRel γ v v') → LRel γ l l'
  | [], [], _, _ => .nil
  | v :: vs, [], h, _ => by simp at h
  | [], v :: vs, h, _ => by simp at h
  | v :: vs, v' :: vs', h, g => by
    obtain ⟨u, h1, h2⟩ := g 0 v (by simp)
    simp at h1; subst h1
    exact .cons h2 (LRel.of_get (by simpa using h) fun i x hx => by
      obtain ⟨u, h3, h4⟩ := g (i + 1) x (by simpa using hx)
      exact ⟨u, by simpa using h3, h4⟩)
theorem LRel.append {γ : Emb} : ∀ {a b : List AV} {a' b' : List Value}, LRel γ a a' → LRel γ b b' → LRel γ (a ++ b) (a' ++ b')
  | _, _, _, _, .nil, h => h
  | _, _, _, _, .cons h t, k => .cons h (LRel.append t k)
theorem LRel.drop {γ : Emb} : ∀ {l : List AV} {l' : List Value} (n : Nat), LRel γ l l' → LRel γ (l.drop n) (l'.drop n)
  | _, _, 0, h => h
  | _, _, _ + 1, .nil => .nil
  | _, _, n + 1, .cons _ t => LRel.drop n t
theorem LRel.take {γ : Emb} : ∀ {l : List AV} {l' : List Value} (n : Nat), LRel γ l l' → LRel γ (l.take n) (l'.take n)
  | _, _, 0, _ => .nil
  | _, _, _ + 1, .nil => .nil
  | _, _, n + 1, .cons h t => .cons h (LRel.take n t)
theorem LRel.setMany {γ : Emb} : ∀ {vs l : List AV} {vs' l' : List Value} (i : Nat), LRel γ vs vs' → LRel γ l l' → LRel γ (lsetMany l i vs) (lsetMany l' i vs')
  | _, _, _, _, i, .nil, h => h
  | _, _, _, _, i, .cons hv t, h => LRel.setMany (i + 1) t (by
      rw [lset_eq, lset_eq]
      refine LRel.of_get (by simp [h.length]) fun j x hx => ?_
      by_cases e : i = j
      · subst e
        rw [List.getElem?_set] at hx ⊢
        simp only [if_true] at hx ⊢
        split at hx
        · rename_i hl
          cases hx
          rw [h.length, if_pos hl]
          exact ⟨_, rfl, hv⟩
        · cases hx
      · rw [List.getElem?_set_ne e] at hx ⊢
        exact h.get hx)
theorem LRel.rep {γ : Emb} {z : List AV} {z' : List Value} (h : LRel γ z z') : ∀ n, LRel γ (rep n z) (rep n z')
  | 0 => .nil
  | n + 1 => h.append (LRel.rep h n)
theorem VRel.cells {γ : Emb} {v : AV} {v' : Value} (h : VRel γ v v') (hu : v ≠ .undef) : LRel γ v.cells v'.cells.toList := by
  cases h with
  | undef v => exact absurd rfl hu
  | agg h => exact h
  | bool b => exact .cons (.bool b) .nil
  | int k n => exact .cons (.int k n) .nil
  | str s => exact .cons (.str s) .nil
  | ptr h => exact .cons (.ptr h) .nil
  | glob g o => exact .cons (.glob g o) .nil
  | nilPtr => exact .cons .nilPtr .nil
  | slice h => exact .cons (.slice h) .nil
  | grown h hc hl => exact .cons (.grown h hc hl) .nil
  | nilSlice => exact .cons .nilSlice .nil
  | eslice a c => exact .cons (.eslice a c) .nil
  | map h => exact .cons (.map h) .nil
  | nilMap => exact .cons .nilMap .nil
  | func h => exact .cons (.func h) .nil
  | meth h => exact .cons (.meth h) .nil
  | nilFunc => exact .cons .nilFunc .nil
  | iface h => exact .cons (.iface h) .nil
  | nilIface => exact .cons .nilIface .nil
  | tuple h => exact .cons (.tuple h) .nil
theorem VRel.oneCell {γ : Emb} {v : AV} {v' : Value} (h : VRel γ v v') (hs : scalar v = true) : v'.oneCell' = true := by
  cases h <;> simp_all [scalar, Value.oneCell']

mutual
theorem toAV_rel (γ : Emb) : ∀ v : Value, VRel γ (toAV v) v
  | .bool b => .bool b
  | .int k n => .int k n
  | .string ⟨⟨s⟩⟩ => .str s
  | .pointer none => .nilPtr
  | .pointer (some _) => .undef _
  | .slice none 0 0 => .nilSlice
  | .slice none 0 (_ + 1) => .undef _
  | .slice none (_ + 1) _ => .undef _
  | .slice (some _) _ _ => .undef _
  | .map none => .nilMap
  | .map (some _) => .undef _
  | .nilFunc => .nilFunc
  | .nilIface => .nilIface
  | .func (.func _) ⟨[]⟩ ⟨[]⟩ => .func .nil
  | .func (.func _) ⟨_ :: _⟩ _ => .undef _
  | .func (.func _) ⟨[]⟩ ⟨_ :: _⟩ => .undef _
  | .func (.method _) _ _ => .undef _
  | .func (.methodOf _ _) _ _ => .undef _
  | .func (.via _ _ _ _) _ _ => .undef _
  | .func (.yield _) _ _ => .undef _
  | .agg ⟨cs⟩ => .agg (toAVs_rel γ cs)
  | .float _ _ => .undef _
  | .complex _ _ _ => .undef _
  | .chan _ => .undef _
  | .iface _ _ => .undef _
  | .tuple _ => .undef _
theorem toAVs_rel (γ : Emb) : ∀ l : List Value, LRel γ (toAVs l) l
  | [] => .nil
  | v :: vs => .cons (toAV_rel γ v) (toAVs_rel γ vs)
end

def EnvRel (γ : Emb) (env : Env) (tmps : Array Value) : Prop := ∀ t, VRel γ (Env.at env t) (tmps.getD t undef)
theorem EnvRel.mono {γ γ' : Emb} {env : Env} {tmps : Array Value} (h : EnvRel γ env tmps) (hg : γ.le γ') : EnvRel γ' env tmps := fun t => (h t).mono hg
theorem aev_rel {γ : Emb} {env : Env} {a : Act} (h : EnvRel γ env a.tmps) (x : Operand) : VRel γ (aev env x) (a.eval x) := by
  cases x with
  | tmp t => exact h t
  | const v => exact toAV_rel γ v
  | global g => exact .glob g 0
  | func f => exact .func .nil
theorem undef_rel (γ : Emb) : VRel γ (.tuple []) undef := .tuple .nil
theorem Env.at_put (env : Env) (t : Nat) (v : AV) (u : Nat) : Env.at (env.put t v) u = if u = t then v else Env.at env u := by
  unfold Env.at; rw [Tree.get_put]; split <;> rfl
theorem put_rel {γ : Emb} {env : Env} {a : Act} {n : Nat} {env' : Env} {dst : Option Tmp} {v : AV} {v' : Value} (h : EnvRel γ env a.tmps) (hn : a.tmps.size = n) (hp : putDst n env dst v = some env') (hv : VRel γ v v') :
    EnvRel γ env' (a.put dst v').tmps := by
  cases dst with
  | none => simp only [putDst, Option.some.injEq] at hp; subst hp; exact h
  | some d =>
    simp only [putDst] at hp
    split at hp
    · rename_i hd
      cases hp
      intro t
      rw [Env.at_put]
      simp only [Act.put]
      by_cases e : t = d
      · subst e
        rw [if_pos rfl]
        have : (a.tmps.setIfInBounds t v').getD t undef = v' := by simp [Array.getD, hn, hd]
        rw [this]; exact hv
      · rw [if_neg e]
        have : (a.tmps.setIfInBounds d v').getD t undef = a.tmps.getD t undef := by
          simp only [Array.getD_eq_getD_getElem?]
          rw [Array.getElem?_setIfInBounds_ne (by omega)]
        rw [this]; exact h t
    · cases hp
theorem put_size (a : Act) (dst : Option Tmp) (v : Value) : (a.put dst v).tmps.size = a.tmps.size := by cases dst <;> simp [Act.put]
theorem put_defers (a : Act) (dst : Option Tmp) (v : Value) : (a.put dst v).defers = a.defers := by cases dst <;> rfl

/-! ### The world -/
inductive ERel (γ : Emb) : List AEntry → List MapEntry → Prop
  | nil : ERel γ [] []
  | cons {e : AEntry} {e' : MapEntry} {es : List AEntry} {es' : List MapEntry} (hk : VRel γ e.key e'.key) (hv : VRel γ e.val e'.val) (hb : e'.born = e.born) (t : ERel γ es es') : ERel γ (e :: es) (e' :: es')
theorem ERel.mono {γ γ' : Emb} (hg : γ.le γ') : ∀ {l : List AEntry} {l' : List MapEntry}, ERel γ l l' → ERel γ' l l'
  | _, _, .nil => .nil
  | _, _, .cons a b c t => .cons (a.mono hg) (b.mono hg) c (ERel.mono hg t)

/-- What a row of cells is a row of. -/
def OfType (ob : Option Obj) (e : TypeId) : Prop := ∀ c e' fz, ob = some (.cells c e' fz) → e' = e
/-- The object o of a block at s, with K cells of its own, z cells an element; B: the first block that may be written. -/
def ORel (T : Tab) (γ : Emb) (B : Nat) (ob : Option Obj) (b s K z : Nat) : AObj → Prop
  | .cells cs e ro => (z = szOf T e ∧ s % z = 0 ∧ OfType ob e) ∧ ∃ c e' fz, ob = some (.cells c e' fz) ∧ (∀ i v, cs[i]? = some v → ∃ v', c[s + i]? = some v' ∧ VRel γ v v') ∧ s + K ≤ c.size ∧ cs.length ≤ K ∧
      (ro = false → B ≤ b ∧ ∀ j, s ≤ j → j < s + K → ¬ (fz.1 ≤ j ∧ j < fz.2))
  | .map es c => B ≤ b ∧ ∃ es', ob = some (.map es' c) ∧ ERel γ es es'.toList
  | .siter l pos => B ≤ b ∧ s = 0 ∧ ob = some (.stringIter ⟨⟨l⟩⟩ pos)
  | .miter m since seen st => B ≤ b ∧ s = 0 ∧ ∃ m', ob = some (.mapIter m' since ⟨seen⟩ st) ∧ (match m with | none => m' = none | some r => ∃ b' s' K' z', γ r = some (b', s', K', z') ∧ m' = some b')
  | .dead => True
theorem ORel.mono {T : Tab} {γ γ' : Emb} (hg : γ.le γ') {B : Nat} {ob : Option Obj} {b s K z : Nat} {o : AObj} (h : ORel T γ B ob b s K z o) : ORel T γ' B ob b s K z o := by
  cases o with
  | cells cs e ro =>
    obtain ⟨h0, c, e', fz, h1, h2, h3⟩ := h
    exact ⟨h0, c, e', fz, h1, fun i v hv => (h2 i v hv).imp fun _ h => ⟨h.1, h.2.mono hg⟩, h3⟩
  | map es c =>
    obtain ⟨h0, es', h1, h2⟩ := h
    exact ⟨h0, es', h1, h2.mono hg⟩
  | siter l pos => exact h
  | miter m since seen st =>
    obtain ⟨h0, hs, m', h1, h2⟩ := h
    refine ⟨h0, hs, m', h1, ?_⟩
    cases m with
    | none => exact h2
    | some r => obtain ⟨b', s', K', z', h3, h4⟩ := h2; exact ⟨b', s', K', z', hg _ _ h3, h4⟩
  | dead => trivial

/-- The package-level variables that are known hold what they hold. -/
def GlobOk (T : Tab) (w : World) : Prop := ∀ (g : Nat) (cs : List AV), T.gt.get g = some cs → g < w.heap.size ∧ ∃ (c : Array Value) (e : TypeId) (fz : Nat × Nat), w.heap[g]? = some (.cells c e fz) ∧ cs.length ≤ c.size ∧ ∀ (i : Nat) (v : AV), cs[i]? = some v → ∃ v', c[i]? = some v' ∧ ∀ γ, VRel γ v v'
structure WRel (T : Tab) (γ : Emb) (h : AH) (w0 w : World) : Prop where
  below : Below w0.heap.size w0 w
  dom : ∀ id x, γ id = some x → id < h.next
  obj : ∀ id b s K z, γ id = some (b, s, K, z) → ∃ o, h.t.get id = some o ∧ b < w.heap.size ∧ ORel T γ w0.heap.size w.heap[b]? b s K z o
  glob : GlobOk T w0
  inj : ∀ id id' b s K z s' K' z', γ id = some (b, s, K, z) → γ id' = some (b, s', K', z') → id ≠ id' → w0.heap.size ≤ b → h.t.get id = some .dead ∨ h.t.get id' = some .dead

/-- The world may have drawn. -/
theorem WRel.same {T : Tab} {γ : Emb} {h : AH} {w0 w w' : World} (hw : WRel T γ h w0 w) (h1 : w'.heap = w.heap) (h2 : w'.os = w.os) (h3 : w'.tape = w.tape) (h4 : w'.output = w.output) : WRel T γ h w0 w' :=
  ⟨⟨h2.trans hw.below.os, h3.trans hw.below.tape, h4.trans hw.below.output, by rw [h1]; exact hw.below.size, fun k hk => by rw [h1]; exact hw.below.block k hk⟩,
    hw.dom, fun id b s K z e => by rw [h1]; exact hw.obj id b s K z e, hw.glob, hw.inj⟩
theorem WRel.drew {T : Tab} {γ : Emb} {h : AH} {w0 w : World} (hw : WRel T γ h w0 w) : WRel T γ h w0 w.drew := hw.same rfl rfl rfl rfl
/-- One block has been written: that of a live object. -/
theorem WRel.update {T : Tab} {γ : Emb} {h : AH} {w0 w w' : World} (hw : WRel T γ h w0 w) {id b s K z : Nat} {o o' : AObj} (hid : γ id = some (b, s, K, z)) (ho : h.t.get id = some o) (hd : o ≠ .dead) (hB : w0.heap.size ≤ b)
    (hsz : w'.heap.size = w.heap.size) (hk : ∀ k, k ≠ b → w'.heap[k]? = w.heap[k]?) (h2 : w'.os = w.os) (h3 : w'.tape = w.tape) (h4 : w'.output = w.output) (hr : ORel T γ w0.heap.size w'.heap[b]? b s K z o') : WRel T γ (h.upd id o') w0 w' := by
  refine ⟨hw.below.trans ⟨h2, h3, h4, by omega, fun k hk' => hk k (by omega)⟩, hw.dom, fun id' b' s' K' z' e => ?_, hw.glob, fun i j bb s1 K1 z1 s2 K2 z2 e1 e2 hne hbb => ?_⟩
  · simp only [AH.upd]
    by_cases e' : id' = id
    · subst e'
      rw [hid] at e; cases e
      obtain ⟨_, _, h5, _⟩ := hw.obj _ _ _ _ _ hid
      exact ⟨o', Tree.get_put_same .., by omega, hr⟩
    · rw [Tree.get_put_ne _ _ e']
      obtain ⟨x, h5, h6, h7⟩ := hw.obj _ _ _ _ _ e
      refine ⟨x, h5, by omega, ?_⟩
      by_cases eb : b' = b
      · subst eb
        rcases hw.inj _ _ _ _ _ _ _ _ _ e hid e' hB with h8 | h8
        · rw [h5] at h8; cases h8; trivial
        · rw [ho] at h8; cases h8; exact absurd rfl hd
      · rw [hk _ eb]; exact h7
  · simp only [AH.upd]
    have key : ∀ i j : Nat, i ≠ j → j ≠ id → ∀ s1 K1 z1 s2 K2 z2, γ i = some (bb, s1, K1, z1) → γ j = some (bb, s2, K2, z2) → i = id → h.t.get j = some .dead := by
      intro i j hij hj s1 K1 z1 s2 K2 z2 e1 e2 hi
      subst hi
      rcases hw.inj _ _ _ _ _ _ _ _ _ e1 e2 hij hbb with h8 | h8
      · rw [ho] at h8; cases h8; exact absurd rfl hd
      · exact h8
    by_cases ei : i = id
    · have hj : j ≠ id := fun e => hne (ei.trans e.symm)
      right; rw [Tree.get_put_ne _ _ hj]; exact key i j hne hj _ _ _ _ _ _ e1 e2 ei
    · by_cases ej : j = id
      · left; rw [Tree.get_put_ne _ _ ei]; exact key j i (Ne.symm hne) ei _ _ _ _ _ _ e2 e1 ej
      · rw [Tree.get_put_ne _ _ ei, Tree.get_put_ne _ _ ej]; exact hw.inj _ _ _ _ _ _ _ _ _ e1 e2 hne hbb
def Emb.add (γ : Emb) (id : Nat) (x : Nat × Nat × Nat × Nat) : Emb := fun i => if i = id then some x else γ i
theorem Emb.le_add {γ : Emb} {id : Nat} (x : Nat × Nat × Nat × Nat) (h : γ id = none) : γ.le (γ.add id x) := by
  intro i y e
  unfold Emb.add
  split
  · rename_i hi; subst hi; rw [h] at e; cases e
  · exact e
theorem WRel.fresh {T : Tab} {γ : Emb} {h : AH} {w0 w : World} (hw : WRel T γ h w0 w) {i : Nat} (hi : h.next ≤ i) : γ i = none := by
  cases e : γ i with
  | none => rfl
  | some x => have := hw.dom _ _ e; omega
/-- A ghost, or a new object, gets a block of its own. -/
theorem WRel.bind {T : Tab} {γ : Emb} {h : AH} {w0 w w' : World} (hw : WRel T γ h w0 w) {id s K z : Nat} {o : AObj} (hid : γ id = none) (hn : id < h.next) (ho : h.t.get id = some o)
    (hsz : w'.heap.size = w.heap.size + 1) (hk : ∀ k, k < w.heap.size → w'.heap[k]? = w.heap[k]?) (h2 : w'.os = w.os) (h3 : w'.tape = w.tape) (h4 : w'.output = w.output)
    (hr : ORel T (γ.add id (w.heap.size, s, K, z)) w0.heap.size w'.heap[w.heap.size]? w.heap.size s K z o) : WRel T (γ.add id (w.heap.size, s, K, z)) h w0 w' := by
  have hle := Emb.le_add (w.heap.size, s, K, z) hid
  refine ⟨hw.below.trans ⟨h2, h3, h4, by omega, fun k hk' => hk k (by have := hw.below.size; omega)⟩, fun i x e => ?_, fun i b' s' K' z' e => ?_, hw.glob, fun i j bb s1 K1 z1 s2 K2 z2 e1 e2 hne hbb => ?_⟩
  · unfold Emb.add at e
    split at e
    · rename_i hi; subst hi; exact hn
    · exact hw.dom _ _ e
  · by_cases ei : i = id
    · subst ei
      have : (w.heap.size, s, K, z) = (b', s', K', z') := by simpa [Emb.add] using e
      cases this
      exact ⟨o, ho, by omega, hr⟩
    · have e' : γ i = some (b', s', K', z') := by simpa [Emb.add, ei] using e
      obtain ⟨x, h5, h6, h7⟩ := hw.obj _ _ _ _ _ e'
      exact ⟨x, h5, by omega, by rw [hk _ h6]; exact h7.mono hle⟩
  · by_cases ei : i = id
    · have ej : j ≠ id := fun e => hne (ei.trans e.symm)
      subst ei
      have a1 : (w.heap.size, s, K, z) = (bb, s1, K1, z1) := by simpa [Emb.add] using e1
      have a2 : γ j = some (bb, s2, K2, z2) := by simpa [Emb.add, ej] using e2
      cases a1
      obtain ⟨_, _, h6, _⟩ := hw.obj _ _ _ _ _ a2
      omega
    · by_cases ej : j = id
      · subst ej
        have a1 : (w.heap.size, s, K, z) = (bb, s2, K2, z2) := by simpa [Emb.add] using e2
        have a2 : γ i = some (bb, s1, K1, z1) := by simpa [Emb.add, ei] using e1
        cases a1
        obtain ⟨_, _, h6, _⟩ := hw.obj _ _ _ _ _ a2
        omega
      · have a1 : γ i = some (bb, s1, K1, z1) := by simpa [Emb.add, ei] using e1
        have a2 : γ j = some (bb, s2, K2, z2) := by simpa [Emb.add, ej] using e2
        exact hw.inj _ _ _ _ _ _ _ _ _ a1 a2 hne hbb
/-- The heap has one object more, which stands for nothing yet. -/
theorem WRel.ghost {T : Tab} {γ : Emb} {h : AH} {w0 w : World} (hw : WRel T γ h w0 w) (o : AObj) : WRel T γ (h.new o).2 w0 w := by
  refine ⟨hw.below, fun i x e => by have := hw.dom _ _ e; simp only [AH.new]; omega, fun i b s K z e => ?_, hw.glob, fun i j b s K z s' K' z' e1 e2 hne hbb => ?_⟩
  · obtain ⟨x, h5, h6⟩ := hw.obj _ _ _ _ _ e
    have := hw.dom _ _ e
    exact ⟨x, by simp only [AH.new]; rw [Tree.get_put_ne _ _ (by omega)]; exact h5, h6⟩
  · have a1 := hw.dom _ _ e1
    have a2 := hw.dom _ _ e2
    simp only [AH.new]
    rw [Tree.get_put_ne _ _ (by omega), Tree.get_put_ne _ _ (by omega)]
    exact hw.inj _ _ _ _ _ _ _ _ _ e1 e2 hne hbb
theorem WRel.new {T : Tab} {γ : Emb} {h : AH} {w0 w w' : World} (hw : WRel T γ h w0 w) {s K z : Nat} {o : AObj}
    (hsz : w'.heap.size = w.heap.size + 1) (hk : ∀ k, k < w.heap.size → w'.heap[k]? = w.heap[k]?) (h2 : w'.os = w.os) (h3 : w'.tape = w.tape) (h4 : w'.output = w.output)
    (hr : ORel T (γ.add h.next (w.heap.size, s, K, z)) w0.heap.size w'.heap[w.heap.size]? w.heap.size s K z o) : WRel T (γ.add h.next (w.heap.size, s, K, z)) (h.new o).2 w0 w' :=
  (hw.ghost o).bind (hw.fresh (Nat.le_refl _)) (by simp [AH.new]) (by simp [AH.new, Tree.get_put_same]) hsz hk h2 h3 h4 hr
end Go.AI
