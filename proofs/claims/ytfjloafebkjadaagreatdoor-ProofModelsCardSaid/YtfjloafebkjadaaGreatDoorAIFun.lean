import Derived.Test.YtfjloafebkjadaaGreatDoorAIFrame
/- Rules for what the abstract machine answers, over code on values that are variables: the machine's variables as a function. -/
namespace Go.AI
def fquiet (T : Tab) (ρ : Operand → AV) (h : AH) : Op → Option AV
  | .move x => some (ρ x)
  | .assign x => some (ρ x)
  | .pick c a b => match ρ c with
    | .bool t => some (if t then ρ a else ρ b)
    | _ => none
  | .build t ps => abuild T t (ps.toList.map fun p => (p.1, ρ p.2))
  | .load t a => aload T h t (ρ a)
  | .nilCheck x => match ρ x with
    | .ptr i o => some (.ptr i o)
    | .func f cs => some (.func f cs)
    | .meth f cs => some (.meth f cs)
    | .iface t v => some (.iface t v)
    | _ => none
  | .binOp op t x y _ => abinOp T op (isConst x || isConst y) t (ρ x) (ρ y)
  | .unOp op _ x => aunOp op (ρ x)
  | .convert s d x => aconvert T h s d (ρ x)
  | .makeInterface t x => match T.tt.get t with
    | some i => match i.desc with | .interface _ => none | _ => some (.iface t (ρ x))
    | none => none
  | .makeFunc (.func f) first cap => if first.toList.length = 0 then some (.func f (cap.toList.map ρ)) else if cap.toList.length = 0 then some (.meth f (first.toList.map ρ)) else none
  | .slice t x lo hi mx => aslice T h t (ρ x) (lo.map ρ) (hi.map ρ) (mx.map ρ)
  | .fieldAddr s x f => afieldAddr T s (ρ x) f
  | .field t x f => afield T t (ρ x) f
  | .indexAddr t x i => aindexAddr T t (ρ x) (ρ i)
  | .index t x i => aindex T t (ρ x) (ρ i)
  | .lookup t x i ok => alookup T h t (ρ x) (ρ i) ok
  | .extract t i => aextract (ρ t) i
  | .call c => match c.callee with
    | .builtin .len => match c.argTypes.toList, c.args.toList with
      | t :: _, [x] => alen T h t (ρ x)
      | _, _ => none
    | .builtin .min => aminmax false (c.args.toList.map ρ)
    | .builtin .max => aminmax true (c.args.toList.map ρ)
    | .builtin .unsafeSliceData => match c.args.toList with
      | [x] => asliceData (ρ x)
      | _ => none
    | .builtin .cap => match c.argTypes.toList, c.args.toList with
      | t :: _, [x] => acap T t (ρ x)
      | _, _ => none
    | _ => none
  | _ => none

def ffresh (T : Tab) (ρ : Operand → AV) : Op → Option (AObj × Mk)
  | .alloc e => match T.tt.get e with
    | some i => some (.cells i.zero e false, .ptr)
    | none => none
  | .box e x => match T.tt.get e with
    | some _ => if known (ρ x) then some (.cells (ρ x).cells e false, .ptr) else none
    | none => none
  | .buildSlice t n ps => abuildSlice T t n (ps.toList.map fun p => (p.1, ρ p.2))
  | .makeMap t none => match T.tt.get t with
    | some _ => some (.map [] 0, .map)
    | none => none
  | .makeMap t (some x) => match descOf T t, ρ x with
    | .map _ _, .int _ _ => some (.map [] 0, .map)
    | _, _ => none
  | .makeSlice t l c => amakeSlice T t (ρ l) (ρ c)
  | .convert sr d x => match T.tt.get sr, descOf T d, ρ x with
    | some _, .slice e, .str s => if isByte T e ∧ szOf T e = 1 then some (.cells (s.map fun b => .int .u8 b.toNat) e false, .slice s.length 0 false) else none
    | _, _, _ => none
  | _ => none

def feff (T : Tab) (ρ : Operand → AV) (h : AH) : Op → Option Res
  | .store t a x => rh (astore T h t (ρ a) (ρ x))
  | .mapUpdate t m k x => rh (amapUpdate T h t (ρ m) (ρ k) (ρ x))
  | .insert t m k x => rh (amapUpdate T h t (ρ m) (ρ k) (ρ x))
  | .mapEntry t m k => rb (amapEntry T h t (ρ m) (ρ k))
  | .entryStore _ m s x => rh (aentryStore h (ρ m) (ρ s) (ρ x))
  | .next it isString => rb (anext h (ρ it) isString)
  | .range t x => rb ((arange T h t (ρ x)).map fun o => (.ptr h.next 0, (h.new o).2))
  | .call c => match c.callee with
    | .builtin .append => match c.argTypes.toList, c.args.toList with
      | t :: xt :: _, [s, x] => rb (aappend T h t xt (ρ s) (ρ x))
      | _, _ => none
    | .builtin .copy => match c.argTypes.toList, c.args.toList with
      | t :: _, [s, x] => rb (acopy T h t (ρ s) (ρ x))
      | _, _ => none
    | .builtin .delete => match c.argTypes.toList, c.args.toList with
      | t :: _, [m, k] => rh (adelete T h t (ρ m) (ρ k))
      | _, _ => none
    | .builtin .clear => match c.argTypes.toList, c.args.toList with
      | t :: _, [x] => rh (aclear T h t (ρ x))
      | _, _ => none
    | .builtin .unsafeString => match c.argTypes.toList, c.args.toList with
      | [t, _], [p, n] => rb (aunsafeString T h t (ρ p) (ρ n))
      | _, _ => none
    | .value f => match ρ f with
      | .func g cap => match T.xt.get g with
        | none => some (.enter g (c.args.toList.map ρ ++ cap))
        | some _ => match c.args.toList, cap with
          | [x], [] => some (.val (ρ x) h)
          | _, _ => none
      | .meth g first => match T.xt.get g with
        | none => some (.enter g (first ++ c.args.toList.map ρ))
        | some _ => none
      | _ => none
    | _ => none
  | _ => none

def evf (σ : Nat → AV) : Operand → AV
  | .tmp t => σ t
  | .const v => toAV v
  | .global g => .glob g 0
  | .func f => .func f []
theorem aev_evf (env : Env) : aev env = evf (Env.at env) := by funext x; cases x <;> rfl
theorem fquiet_eq (T : Tab) (env : Env) (h : AH) (o : Op) : aquiet T env h o = fquiet T (aev env) h o := by cases o <;> rfl
theorem ffresh_eq (T : Tab) (env : Env) (o : Op) : afresh T env o = ffresh T (aev env) o := by
  cases o
  case makeMap t x => cases x <;> rfl
  all_goals rfl
theorem feff_eq (T : Tab) (env : Env) (h : AH) (o : Op) : aeff T env h o = feff T (aev env) h o := by cases o <;> rfl
def upd (σ : Nat → AV) (d : Nat) (v : AV) : Nat → AV := fun u => match Nat.beq u d with | true => v | false => σ u
theorem at_upd (env : Env) (d : Nat) (v : AV) : Env.at (env.put d v) = upd (Env.at env) d v := by
  funext u
  rw [Env.at_put]
  unfold upd
  split
  · rename_i h; subst h; simp
  · rename_i h
    have : Nat.beq u d = false := by rw [← Bool.not_eq_true]; simpa using h
    rw [this]
theorem upd_self (σ : Nat → AV) {d : Nat} {v : AV} (h : σ d = v) : upd σ d v = σ := by
  funext u
  unfold upd
  split
  · rename_i e; have := Nat.eq_of_beq_eq_true e; subst this; exact h.symm
  · rfl
end Go.AI
