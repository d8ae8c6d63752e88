import Derived.LaidEqlPtr
import Derived.Test.YtfjloafebkjadaaGreatDoorAIOps2
import Derived.Laws.StructEq
import Derived.Laws.Strings
/- Operators. -/
namespace Go.AI
open Go.RowKit (Below)
variable {P : Program} {T : Tab} {γ : Emb}

def eqSlots (d : Nat) (e n : Nat) (xs ys : Array Value) : Nat → Nat → Sem Bool
  | 0, _ => pure true
  | k + 1, i => do
    let a ← part e xs (i * n)
    let b ← part e ys (i * n)
    let r ← Op.equalIn d e a b
    if (!r) = true then pure false else eqSlots d e n xs ys k (i + 1)
theorem run_equalIn_array (hT : TabOk P T) (w : World) (d : Nat) (t : TypeId) (len e : Nat) (xs ys : Array Value) (ht : P.underlying t = some (.array len e)) {ie : TInfo} (he : T.tt.get e = some ie) :
    (Op.equalIn (d + 1) t (.agg xs) (.agg ys)).run P w = (eqSlots d e ie.size xs ys len 0).run P w := by
  simp only [Op.equalIn, Sem.run_bind, run_underlying ht, Result.andThen_ok, r_sizeOf hT he, Std.Legacy.Range.forIn_eq_forIn_range']
  simp only [Std.Legacy.Range.size, Nat.sub_zero, Nat.add_sub_cancel, Nat.div_one]
  generalize 0 = i
  clear ht
  induction len generalizing w i with
  | zero => simp [eqSlots]
  | succ n ih =>
    simp only [List.range'_succ, List.forIn_cons, eqSlots, Sem.run_bind]
    generalize (part e xs (i * ie.size)).run P w = r1
    cases r1 with
    | ok a w1 =>
      simp only [Result.andThen_ok]
      generalize (part e ys (i * ie.size)).run P w1 = r2
      cases r2 with
      | ok b w2 =>
        simp only [Result.andThen_ok]
        generalize (Op.equalIn d e a b).run P w2 = r3
        cases r3 with
        | ok r w3 =>
          cases r
          · simp
          · simp only [Result.andThen_ok, Bool.not_true, Bool.false_eq_true, if_false, Sem.run_pure]
            exact ih w3 (i + 1)
        | halt x w3 => simp [Result.andThen]
      | halt x w2 => simp [Result.andThen]
    | halt x w1 => simp [Result.andThen]

theorem rel_bool {γ : Emb} {b : Bool} {v : Value} (h : VRel γ (.bool b) v) : v = .bool b := by cases h; rfl
theorem rel_int {γ : Emb} {k : IntKind} {n : Int} {v : Value} (h : VRel γ (.int k n) v) : v = .int k n := by cases h; rfl
theorem rel_str {γ : Emb} {s : List UInt8} {v : Value} (h : VRel γ (.str s) v) : v = .string ⟨⟨s⟩⟩ := by cases h; rfl
section eqs
variable (w : World) {d : Nat} {t : TypeId}
theorem eqn_ptr_l {e : TypeId} (h : P.underlying t = some (.pointer e)) (b : Option Addr) : (Op.equalIn (d + 1) t (.pointer none) (.pointer b)).run P w = .ok b.isNone w := by simp [Op.equalIn, run_underlying h]
theorem eqn_ptr_r {e : TypeId} (h : P.underlying t = some (.pointer e)) (a : Addr) : (Op.equalIn (d + 1) t (.pointer (some a)) (.pointer none)).run P w = .ok false w := by simp [Op.equalIn, run_underlying h]
theorem eqn_sl_l {e : TypeId} (h : P.underlying t = some (.slice e)) (m n : Nat) (b : Option Addr) (l c : Nat) : (Op.equalIn (d + 1) t (.slice none m n) (.slice b l c)).run P w = .ok b.isNone w := by simp [Op.equalIn, run_underlying h]
theorem eqn_sl_r {e : TypeId} (h : P.underlying t = some (.slice e)) (a : Addr) (m n l c : Nat) : (Op.equalIn (d + 1) t (.slice (some a) m n) (.slice none l c)).run P w = .ok false w := by simp [Op.equalIn, run_underlying h]
theorem eqn_map_l {k e : TypeId} (h : P.underlying t = some (.map k e)) (b : Option Nat) : (Op.equalIn (d + 1) t (.map none) (.map b)).run P w = .ok b.isNone w := by simp [Op.equalIn, run_underlying h]
theorem eqn_map_r {k e : TypeId} (h : P.underlying t = some (.map k e)) (b : Nat) : (Op.equalIn (d + 1) t (.map (some b)) (.map none)).run P w = .ok false w := by simp [Op.equalIn, run_underlying h]
theorem eqn_fn_0 {a b : Array TypeId} {v : Bool} (h : P.underlying t = some (.func a b v)) : (Op.equalIn (d + 1) t .nilFunc .nilFunc).run P w = .ok true w := by simp [Op.equalIn, run_underlying h]
theorem eqn_fn_l {a b : Array TypeId} {v : Bool} (h : P.underlying t = some (.func a b v)) (f : Fn) (x y : Array Value) : (Op.equalIn (d + 1) t .nilFunc (.func f x y)).run P w = .ok false w := by simp [Op.equalIn, run_underlying h]
theorem eqn_fn_r {a b : Array TypeId} {v : Bool} (h : P.underlying t = some (.func a b v)) (f : Fn) (x y : Array Value) : (Op.equalIn (d + 1) t (.func f x y) .nilFunc).run P w = .ok false w := by simp [Op.equalIn, run_underlying h]
theorem eqn_if_0 {m : Array (String × TypeId)} (h : P.underlying t = some (.interface m)) : (Op.equalIn (d + 1) t .nilIface .nilIface).run P w = .ok true w := by simp [Op.equalIn, run_underlying h]
theorem eqn_if_l {m : Array (String × TypeId)} (h : P.underlying t = some (.interface m)) (u : TypeId) (v : Value) : (Op.equalIn (d + 1) t .nilIface (.iface u v)).run P w = .ok false w := by simp [Op.equalIn, run_underlying h]
theorem eqn_if_r {m : Array (String × TypeId)} (h : P.underlying t = some (.interface m)) (u : TypeId) (v : Value) : (Op.equalIn (d + 1) t (.iface u v) .nilIface).run P w = .ok false w := by simp [Op.equalIn, run_underlying h]
end eqs
theorem toList_mk (a : List UInt8) : (⟨⟨a⟩⟩ : ByteArray).toList = a := by rw [ByteArray.toList_eq]
theorem flat_sound (w : World) {d : Nat} {t : TypeId} {td : TypeDesc} {x y : AV} {x' y' : Value} {b : Bool} (hu : P.underlying t = some td) (h : aeqFlat td x y = some b) (hx : VRel γ x x') (hy : VRel γ y y') :
    (Op.equalIn (d + 1) t x' y').run P w = .ok b w := by
  unfold aeqFlat at h
  split at h
  · cases hx; cases hy; cases h; exact run_equalIn_bool' w d t _ _ hu
  · cases hx; cases hy
    split at h
    · rename_i hk; subst hk; cases h; exact run_equalIn_int w d t _ _ _ _ hu
    · cases h
  · cases hx; cases hy; cases h; rw [run_equalIn_string w d t _ _ hu, toList_mk, toList_mk]
  · cases hx; cases hy; cases h; exact eqn_ptr_l w hu _
  · cases hx; cases hy; cases h; exact eqn_ptr_l w hu _
  · cases hx; cases hy; cases h; exact eqn_ptr_r w hu _
  · cases hx; cases hy; cases h; exact eqn_sl_l w hu _ _ _ _ _
  · cases hx; cases h; cases hy <;> exact eqn_sl_l w hu _ _ _ _ _
  · cases hx; cases hy; cases h; exact eqn_sl_l w hu _ _ _ _ _
  · cases hy; cases h; cases hx <;> exact eqn_sl_r w hu _ _ _ _ _
  · cases hx; cases hy; cases h; exact eqn_sl_r w hu _ _ _ _ _
  · cases hx; cases hy; cases h; exact eqn_map_l w hu _
  · cases hx; cases hy; cases h; exact eqn_map_l w hu _
  · cases hx; cases hy; cases h; exact eqn_map_r w hu _
  · cases hx; cases hy; cases h; exact eqn_fn_0 w hu
  · cases hx; cases hy; cases h; exact eqn_fn_l w hu _ _ _
  · cases hx; cases hy; cases h; exact eqn_fn_r w hu _ _ _
  · cases hx; cases hy; cases h; exact eqn_if_0 w hu
  · cases hx; cases hy; cases h; exact eqn_if_l w hu _ _
  · cases hx; cases hy; cases h; exact eqn_if_r w hu _ _
  · cases h
theorem bytes_beq (a b : List UInt8) : ((⟨⟨a⟩⟩ : ByteArray) == ⟨⟨b⟩⟩) = (a == b) := by
  show ((⟨a⟩ : Array UInt8) == ⟨b⟩) = (a == b)
  simp

theorem eqList_sound (hT : TabOk P T) (D : Nat) (eq : TypeId → AV → AV → Option Bool)
    (heq : ∀ (w : World) t x y x' y' b, eq t x y = some b → VRel γ x x' → VRel γ y y' → (Op.equalIn D t x' y').run P w = .ok b w) {xs ys : List AV} {xs' ys' : List Value} (hx : LRel γ xs xs') (hy : LRel γ ys ys') (w : World) :
    ∀ (fs : List Field) (b : Bool), aeqList T eq xs ys ((fs.filter fun f => f.name != "_").map fun f => (f.type, f.offset)) = some b → (Op.eqFields D ⟨xs'⟩ ⟨ys'⟩ fs).run P w = .ok b w
  | [], b, h => by simp only [List.filter_nil, List.map_nil, aeqList, Option.some.injEq] at h; subst h; simp [Op.eqFields]
  | f :: fs, b, h => by
    unfold Op.eqFields
    by_cases hn : f.name = "_"
    · rw [if_neg (by simpa using hn)]
      exact eqList_sound hT D eq heq hx hy w fs b (by simpa [List.filter_cons, hn] using h)
    · rw [if_pos hn]
      rw [List.filter_cons_of_pos (by simpa using hn), List.map_cons, aeqList] at h
      split at h
      · rename_i u v h1 h2
        obtain ⟨u', g1, g2⟩ := part_rel hT h1 hx w
        obtain ⟨v', g3, g4⟩ := part_rel hT h2 hy w
        simp only [Sem.run_bind, g1, g3, Result.andThen_ok]
        split at h
        · rename_i h3
          rw [heq w _ _ _ _ _ _ h3 g2 g4]
          simp only [Result.andThen_ok, Bool.not_true, Bool.false_eq_true, if_false]
          exact eqList_sound hT D eq heq hx hy w fs b h
        · rename_i h3
          rw [heq w _ _ _ _ _ _ h3 g2 g4]
          cases h
          simp
        · cases h
      · cases h
theorem eqSlots_sound (hT : TabOk P T) (D : Nat) (eq : TypeId → AV → AV → Option Bool) (e n : Nat)
    (heq : ∀ (w : World) t x y x' y' b, eq t x y = some b → VRel γ x x' → VRel γ y y' → (Op.equalIn D t x' y').run P w = .ok b w) {xs ys : List AV} {xs' ys' : List Value} (hx : LRel γ xs xs') (hy : LRel γ ys ys') (w : World) :
    ∀ (k i : Nat) (b : Bool), aeqList T eq xs ys (slots e n k i) = some b → (eqSlots D e n ⟨xs'⟩ ⟨ys'⟩ k i).run P w = .ok b w
  | 0, _, b, h => by simp only [slots, aeqList, Option.some.injEq] at h; subst h; simp [eqSlots]
  | k + 1, i, b, h => by
    unfold eqSlots
    rw [slots, aeqList] at h
    split at h
    · rename_i u v h1 h2
      obtain ⟨u', g1, g2⟩ := part_rel hT h1 hx w
      obtain ⟨v', g3, g4⟩ := part_rel hT h2 hy w
      simp only [Sem.run_bind, g1, g3, Result.andThen_ok]
      split at h
      · rename_i h3
        rw [heq w _ _ _ _ _ _ h3 g2 g4]
        simp only [Result.andThen_ok, Bool.not_true, Bool.false_eq_true, if_false]
        exact eqSlots_sound hT D eq e n heq hx hy w k (i + 1) b h
      · rename_i h3
        rw [heq w _ _ _ _ _ _ h3 g2 g4]
        cases h
        simp
      · cases h
    · cases h
theorem aeq_sound (hT : TabOk P T) : ∀ (d D : Nat), d ≤ D → ∀ (w : World) (t : TypeId) (x y : AV) (x' y' : Value) (b : Bool), aeq T d t x y = some b → VRel γ x x' → VRel γ y y' → (Op.equalIn D t x' y').run P w = .ok b w
  | 0, _, _, w, t, x, y, x', y', b, h, _, _ => by simp [aeq] at h
  | d + 1, 0, hD, _, _, _, _, _, _, _, _, _, _ => by omega
  | d + 1, D + 1, hD, w, t, x, y, x', y', b, h, hx, hy => by
    unfold aeq at h
    split at h
    · cases h
    · rename_i i hi
      have hu := (hT.ty t i hi).1
      split at h
      · rename_i xs ys
        cases hx with
        | agg hx =>
        cases hy with
        | agg hy =>
        split at h
        · cases h
        · rename_i hpl
          obtain ⟨_, _, _, _, _, _, _, _, _, _, _, hpe⟩ := hT.ty t i hi
          have hst := (hpe (by simpa using hpl)).2
          split at h
          · rename_i fs hd
            have hfo : P.fieldsOf t = fs := by simp [Program.fieldsOf, hu, hd]
            rw [run_equalIn_struct w D t _ _ (by rw [hfo, hu, hd]) hst, hfo]
            exact eqList_sound hT D (aeq T d) (fun w t x y x' y' b => aeq_sound hT d D (by omega) w t x y x' y' b) hx hy w _ _ h
          · rename_i len e hd
            split at h
            · rename_i ie he
              rw [run_equalIn_array hT w D t len e _ _ (by rw [hu, hd]) he]
              exact eqSlots_sound hT D (aeq T d) e ie.size (fun w t x y x' y' b => aeq_sound hT d D (by omega) w t x y x' y' b) hx hy w _ _ _ h
            · cases h
          · cases h
      · exact flat_sound w hu h hx hy

theorem rel_nilIface {x : AV} (h : VRel γ x .nilIface) : x = .undef ∨ x = .nilIface := by cases h <;> simp
theorem rel_agg {x : AV} {cs : Array Value} (h : VRel γ x (.agg cs)) : x = .undef ∨ ∃ l, x = .agg l := by cases h <;> simp
theorem guard_ok (w : World) {op : BinOp} {t : TypeId} {xo yo : Operand} {x y : Value} (hn : x = .nilIface → y = .nilIface → isConst xo = true ∨ isConst yo = true) (ha : ∀ a b, x = .agg a → y = .agg b → P.eqGuardType P.depth t = false) :
    (eqGuard op t xo yo x y).run P w = .ok () w := by
  by_cases hx : x = .nilIface ∧ y = .nilIface
  · obtain ⟨rfl, rfl⟩ := hx
    unfold eqGuard
    have := hn rfl rfl
    cases op <;> first
      | rfl
      | (cases xo <;> cases yo <;> simp_all [isConst])
  · by_cases hag : ∃ a b, x = .agg a ∧ y = .agg b
    · obtain ⟨a, b, rfl, rfl⟩ := hag
      exact run_eqGuard_agg w op t xo yo a b (ha a b rfl rfl)
    · unfold eqGuard
      cases op <;> first
        | rfl
        | (simp only [Bool.not_true, Bool.false_eq_true, if_false]
           split
           · exact absurd ⟨rfl, rfl⟩ hx
           · exact absurd ⟨_, _, rfl, rfl⟩ hag
           · rfl)
theorem eqTop_sound (hT : TabOk P T) {op : BinOp} {xo yo : Operand} {t : TypeId} {x y : AV} {x' y' : Value} {b : Bool} (h : aeqTop T (isConst xo || isConst yo) t x y = some b) (hx : VRel γ x x') (hy : VRel γ y y') (w : World) :
    (eqGuard op t xo yo x' y').run P w = .ok () w ∧ (Op.equal t x' y').run P w = .ok b w := by
  rcases Classical.em (∃ i o j p, x = .ptr i o ∧ y = .ptr j p) with ⟨i, o, j, p, rfl, rfl⟩ | hne
  · simp only [aeqTop] at h
    split at h
    · rename_i hij
      obtain ⟨rfl, rfl⟩ := hij
      split at h
      · rename_i te hd
        split at h
        · rename_i hte
          obtain ⟨it, hit⟩ := Option.isSome_iff_exists.1 hte
          cases h
          cases hx with
          | ptr h1 =>
            cases hy with
            | ptr h2 =>
              rw [h1] at h2; cases h2
              obtain ⟨_, info, _, hi, _⟩ := hT.ty te it hit
              have hu := r_desc hT hd (by simp) w
              have h : ∀ d : Nat, ∀ a : Addr, (Op.equalIn (d + 1) t (.pointer (some a)) (.pointer (some a))).run P w = .ok true w := fun d a => by
                simp [Op.equalIn, hu, Go.sizeOf, typeInfo, hi, run_sameAddr_same]
              refine ⟨guard_ok w (by simp) (by simp), ?_⟩
              simp [Op.equal, Op.maxDepth, h 9999]
        · cases h
      · cases h
    · cases h
  have he : aeq T 9 t x y = some b ∧ (x = .nilIface → y = .nilIface → isConst xo = true ∨ isConst yo = true) ∧ x ≠ .undef ∧ y ≠ .undef := by
    unfold aeqTop at h
    split at h
    · split at h
      · rename_i hc
        exact ⟨h, fun _ _ => by simpa using hc, by simp, by simp⟩
      · cases h
    · cases h
    · cases h
    · exact (hne ⟨_, _, _, _, rfl, rfl⟩).elim
    · rename_i h1 h2 h3 _
      exact ⟨h, fun e1 e2 => (h3 e1 e2).elim, h1, h2⟩
  obtain ⟨he, h1, h2, h3⟩ := he
  refine ⟨guard_ok w ?_ ?_, aeq_sound hT 9 10000 (by decide) w t x y x' y' b he hx hy⟩
  · rintro rfl rfl
    exact h1 ((rel_nilIface hx).resolve_left h2) ((rel_nilIface hy).resolve_left h3)
  · rintro a c rfl rfl
    obtain ⟨l, rfl⟩ := (rel_agg hx).resolve_left h2
    obtain ⟨m, rfl⟩ := (rel_agg hy).resolve_left h3
    unfold aeq at he
    split at he
    · cases he
    · rename_i i hi
      dsimp only at he
      split at he
      · cases he
      · rename_i hpl
        obtain ⟨_, _, _, _, _, _, _, _, _, _, _, hpe⟩ := hT.ty t i hi
        exact (hpe (by simpa using hpl)).1
theorem bytesLess_eq : ∀ a b : List UInt8, Op.bytesLess a b = bytesLess a b
  | [], [] => rfl
  | _ :: _, [] => rfl
  | [], _ :: _ => rfl
  | a :: x, b :: y => by simp [Op.bytesLess, bytesLess, bytesLess_eq x y]
theorem str_sound (w : World) {op : BinOp} {t : TypeId} {a b : List UInt8} {v : AV} (h : astr op a b = some v) : ∃ v', (binOp op t (.string ⟨⟨a⟩⟩) (.string ⟨⟨b⟩⟩)).run P w = .ok v' w ∧ VRel γ v v' := by
  have e : binOp op t (.string ⟨⟨a⟩⟩) (.string ⟨⟨b⟩⟩) = Op.stringOp op ⟨⟨a⟩⟩ ⟨⟨b⟩⟩ := by cases op <;> rfl
  rw [e]
  unfold astr at h
  unfold Op.stringOp
  simp only [toList_mk, bytesLess_eq]
  split at h <;> (try (cases h; done)) <;> (try (cases h; exact ⟨_, rfl, .bool _⟩))
  split at h
  · rename_i hl
    cases h
    have hsz : (⟨⟨a⟩⟩ : ByteArray).size = a.length ∧ (⟨⟨b⟩⟩ : ByteArray).size = b.length := ⟨rfl, rfl⟩
    have hmax : IntKind.i64.max = 9223372036854775807 := by decide
    rw [if_neg (by rw [hsz.1, hsz.2, hmax]; omega)]
    refine ⟨_, rfl, ?_⟩
    have : (⟨⟨a⟩⟩ : ByteArray) ++ ⟨⟨b⟩⟩ = ⟨⟨a ++ b⟩⟩ := by
      apply ByteArray.ext; simp [ByteArray.data_append]
    rw [this]; exact .str _
  · cases h
theorem bin_sound (w : World) {op : BinOp} {k : IntKind} {t : TypeId} {a b : Int} {v : AV} (h : abin op k a b = some v) : (binOp op t (.int k a) (.int k b)).run P w = .ok (match v with | .int k n => .int k n | .bool b => .bool b | _ => undef) w ∧ (∀ γ : Emb, VRel γ v (match v with | .int k n => .int k n | .bool b => .bool b | _ => undef)) := by
  unfold abin at h
  cases op <;> dsimp only at h <;> first
    | (cases h; done)
    | (cases h; exact ⟨by simp [binOp, Op.intArith, Op.intCmp, Op.intBits], fun _ => by constructor⟩)
    | (split at h
       · cases h
       · rename_i hb
         cases h; exact ⟨by simp [binOp, Op.intDiv, hb], fun _ => by constructor⟩)
theorem shift_sound (w : World) {shl : Bool} {k k' : IntKind} {t : TypeId} {a b : Int} {v : AV} (h : ashift shl k a b = some v) : ∃ n, v = .int k n ∧ (binOp (if shl then .shl else .shr) t (.int k a) (.int k' b)).run P w = .ok (.int k n) w := by
  unfold ashift at h
  split at h
  · cases h
  · rename_i hb
    cases shl <;> (cases h; exact ⟨_, rfl, by simp [binOp, Op.shift, hb]⟩)
def pair : Value → Value → Bool
  | .int .., .int .. => true
  | .float .., .float .. => true
  | .complex .., .complex .. => true
  | .string _, .string _ => true
  | _, _ => false
theorem binOp_eql {t : TypeId} {x y : Value} (h : pair x y = false) : binOp .eql t x y = (do pure (.bool (← Op.equal t x y))) := by
  cases x <;> cases y <;> first
    | rfl
    | (simp [pair] at h)
theorem binOp_neq {t : TypeId} {x y : Value} (h : pair x y = false) : binOp .neq t x y = (do pure (.bool (!(← Op.equal t x y)))) := by
  cases x <;> cases y <;> first
    | rfl
    | (simp [pair] at h)
theorem pair_false {x y : AV} {x' y' : Value} (hx : VRel γ x x') (hy : VRel γ y y') (h0 : x ≠ .undef) (h1 : y ≠ .undef) (h2 : ∀ k a k' b, x = .int k a → y = .int k' b → False) (h3 : ∀ a b, x = .str a → y = .str b → False) : pair x' y' = false := by
  unfold pair
  split
  · cases hx with
    | undef => exact absurd rfl h0
    | int k n => cases hy with
      | undef => exact absurd rfl h1
      | int k' m => exact (h2 _ _ _ _ rfl rfl).elim
  · cases hx; exact absurd rfl h0
  · cases hx; exact absurd rfl h0
  · cases hx with
    | undef => exact absurd rfl h0
    | str s => cases hy with
      | undef => exact absurd rfl h1
      | str s => exact (h3 _ _ rfl rfl).elim
  · rfl
theorem eqTop_known {c : Bool} {t : TypeId} {x y : AV} {b : Bool} (h : aeqTop T c t x y = some b) : x ≠ .undef ∧ y ≠ .undef := by
  unfold aeqTop at h
  split at h
  · exact ⟨by simp, by simp⟩
  · cases h
  · cases h
  · exact ⟨by simp, by simp⟩
  · rename_i h1 h2 _ _; exact ⟨h1, h2⟩
theorem binOp_sound (hT : TabOk P T) (w : World) {op : BinOp} {xo yo : Operand} {t : TypeId} {x y v : AV} {x' y' : Value} (h : abinOp T op (isConst xo || isConst yo) t x y = some v) (hx : VRel γ x x') (hy : VRel γ y y') :
    ∃ v', (do eqGuard op t xo yo x' y'; binOp op t x' y' : Sem Value).run P w = .ok v' w ∧ VRel γ v v' := by
  unfold abinOp at h
  split at h
  · cases hx; cases hy
    rw [Sem.run_bind, guard_ok w (by simp) (by simp), Result.andThen_ok]
    split at h
    · obtain ⟨n, rfl, h2⟩ := shift_sound (P := P) (t := t) w h
      exact ⟨_, h2, .int _ _⟩
    · obtain ⟨n, rfl, h2⟩ := shift_sound (P := P) (t := t) w h
      exact ⟨_, h2, .int _ _⟩
    · split at h
      · rename_i hk; subst hk
        obtain ⟨h1, h2⟩ := bin_sound (P := P) (t := t) w h
        exact ⟨_, h1, h2 γ⟩
      · cases h
  · cases hx; cases hy
    rw [Sem.run_bind, guard_ok w (by simp) (by simp), Result.andThen_ok]
    exact str_sound w h
  · rename_i h1 h2
    split at h
    · rw [Option.map_eq_some_iff] at h
      obtain ⟨b, h3, rfl⟩ := h
      obtain ⟨g1, g2⟩ := eqTop_sound hT h3 hx hy w (op := .eql)
      obtain ⟨k1, k2⟩ := eqTop_known h3
      rw [Sem.run_bind, g1, Result.andThen_ok, binOp_eql (pair_false hx hy k1 k2 (fun k a k' b e1 e2 => h1 _ _ _ _ e1 e2) (fun a b e1 e2 => h2 _ _ e1 e2)), Sem.run_bind, g2]
      exact ⟨_, rfl, .bool _⟩
    · rw [Option.map_eq_some_iff] at h
      obtain ⟨b, h3, rfl⟩ := h
      obtain ⟨g1, g2⟩ := eqTop_sound hT h3 hx hy w (op := .neq)
      obtain ⟨k1, k2⟩ := eqTop_known h3
      rw [Sem.run_bind, g1, Result.andThen_ok, binOp_neq (pair_false hx hy k1 k2 (fun k a k' b e1 e2 => h1 _ _ _ _ e1 e2) (fun a b e1 e2 => h2 _ _ e1 e2)), Sem.run_bind, g2]
      exact ⟨_, rfl, .bool _⟩
    · cases h
theorem unOp_sound (w : World) {op : UnOp} {x v : AV} {x' : Value} (h : aunOp op x = some v) (hx : VRel γ x x') : ∃ v', (Op.unary op x').run P w = .ok v' w ∧ VRel γ v v' := by
  unfold aunOp at h
  split at h
  · cases hx
    cases h
    exact ⟨_, by simp [Op.unary, Op.intArith], .int _ _⟩
  · cases hx
    cases h
    exact ⟨_, by simp [Op.unary, Op.intBits], .int _ _⟩
  · cases hx
    cases h
    exact ⟨_, by simp [Op.unary], .bool _⟩
  · cases h
end Go.AI
