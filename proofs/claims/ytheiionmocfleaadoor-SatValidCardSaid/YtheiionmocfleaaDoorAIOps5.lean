import Derived.Test.YtheiionmocfleaaDoorAIOps4
/- The rest of what leaves memory alone; all of it together. -/
namespace Go.AI
open Go.RowKit (Below)
variable {P : Program} {T : Tab} {γ : Emb} {h : AH} {w0 w : World}

theorem indexAddr_sound (hT : TabOk P T) (w : World) {t : TypeId} {x ix v : AV} {x' ix' : Value} (hs : aindexAddr T t x ix = some v) (hx : VRel γ x x') (hi : VRel γ ix ix') : ∃ v', (Instr.indexAt t x' ix').run P w = .ok v' w ∧ VRel γ v v' := by
  unfold aindexAddr at hs
  unfold Instr.indexAt
  split at hs
  · rename_i kk i len e id off hd
    cases hi
    cases hx with
    | ptr hg =>
    split at hs
    · rename_i ie he
      split at hs
      · rename_i hr
        cases hs
        simp only [Sem.run_bind, asIntOf, Sem.run_pure, Result.andThen_ok, r_desc hT hd (by simp), Instr.sureAddr]
        rw [if_pos hr]
        simp only [Sem.run_bind, r_sizeOf hT he, Result.andThen_ok, Sem.run_pure, add_none]
        exact ⟨_, rfl, by rw [Nat.add_assoc]; exact .ptr hg⟩
      · cases hs
    · cases hs
  · rename_i kk i e id off len cc ex hd
    cases hi
    split at hs
    · rename_i ie he
      split at hs
      · rename_i hr
        cases hs
        cases hx <;>
        · rename_i hg
          simp only [Sem.run_bind, asIntOf, Sem.run_pure, Result.andThen_ok, r_desc hT hd (by simp)]
          rw [if_pos hr]
          simp only [Sem.run_bind, r_sizeOf hT he, Result.andThen_ok, Sem.run_pure, add_none]
          exact ⟨_, rfl, by rw [Nat.add_assoc]; exact .ptr (by assumption)⟩
      · cases hs
    · cases hs
  · rename_i kk i len e g off hd
    cases hi
    cases hx
    split at hs
    · rename_i ie he
      split at hs
      · rename_i hr
        cases hs
        simp only [Sem.run_bind, asIntOf, Sem.run_pure, Result.andThen_ok, r_desc hT hd (by simp), Instr.sureAddr]
        rw [if_pos hr]
        simp only [Sem.run_bind, r_sizeOf hT he, Result.andThen_ok, Sem.run_pure, add_none]
        exact ⟨_, rfl, .glob _ _⟩
      · cases hs
    · cases hs
  · cases hs
theorem index_sound (hT : TabOk P T) (w : World) {t : TypeId} {x ix v : AV} {x' ix' : Value} (hs : aindex T t x ix = some v) (hx : VRel γ x x') (hi : VRel γ ix ix') : ∃ v', (Instr.index t x' ix').run P w = .ok v' w ∧ VRel γ v v' := by
  unfold aindex at hs
  unfold Instr.index
  split at hs
  · rename_i kk i len e cs hd
    cases hi
    cases hx with
    | agg hl =>
    split at hs
    · rename_i ie he
      split at hs
      · rename_i hr
        simp only [Sem.run_bind, asIntOf, Sem.run_pure, Result.andThen_ok, r_desc hT hd (by simp)]
        rw [if_pos hr]
        simp only [Sem.run_bind, r_sizeOf hT he, Result.andThen_ok]
        exact part_rel hT hs hl w
      · cases hs
    · cases hs
  · rename_i kk i l hd
    cases hi
    cases hx
    split at hs
    · rename_i hr
      rw [Option.map_eq_some_iff] at hs
      obtain ⟨b, h1, rfl⟩ := hs
      rw [lget_eq] at h1
      simp only [Sem.run_bind, asIntOf, Sem.run_pure, Result.andThen_ok, r_desc hT hd (by simp)]
      rw [if_pos hr]
      have : (⟨⟨l⟩⟩ : ByteArray)[i.toNat]? = some b := by
        obtain ⟨hlt, e⟩ := List.getElem?_eq_some_iff.1 h1
        have hsz : (⟨⟨l⟩⟩ : ByteArray).size = l.length := rfl
        rw [getElem?_pos (⟨⟨l⟩⟩ : ByteArray) i.toNat (by rw [hsz]; exact hlt)]
        congr 1
      rw [this]
      exact ⟨_, rfl, .int _ _⟩
    · cases hs
  · cases hs
theorem fieldAddr_sound (hT : TabOk P T) (w : World) {s : TypeId} {x v : AV} {x' : Value} {f : Nat} (hs : afieldAddr T s x f = some v) (hx : VRel γ x x') : ∃ v', (Instr.fieldAt s x' f).run P w = .ok v' w ∧ VRel γ v v' := by
  unfold afieldAddr at hs
  unfold Instr.fieldAt
  split at hs
  · rename_i fs id off hd
    cases hx with
    | ptr hg =>
    split at hs
    · rename_i fl hf
      split at hs
      · rename_i i hi
        split at hs
        · cases hs
        · rename_i hz
          cases hs
          rw [lget_eq, Array.getElem?_toList] at hf
          simp only [Sem.run_bind, r_desc hT hd (by simp), Result.andThen_ok, hf, Instr.sureAddr, Sem.run_pure, fieldPlace, r_sizeOf hT hi]
          rw [if_neg hz]
          simp only [Sem.run_pure, Result.andThen_ok, add_none]
          exact ⟨_, rfl, by rw [Nat.add_assoc]; exact .ptr hg⟩
      · cases hs
    · cases hs
  · cases hs
theorem field_sound (hT : TabOk P T) (w : World) {s : TypeId} {x v : AV} {x' : Value} {f : Nat} (hs : afield T s x f = some v) (hx : VRel γ x x') : ∃ v', (Instr.field s x' f).run P w = .ok v' w ∧ VRel γ v v' := by
  unfold afield at hs
  unfold Instr.field
  split at hs
  · rename_i fs cs hd
    cases hx with
    | agg hl =>
    split at hs
    · rename_i fl hf
      rw [lget_eq, Array.getElem?_toList] at hf
      simp only [Sem.run_bind, r_desc hT hd (by simp), Result.andThen_ok, hf, asAgg, Sem.run_pure]
      exact part_rel hT hs hl w
    · cases hs
  · cases hs

/-! ### Maps -/
theorem samekey_sound {d : TypeDesc} {k e : AV} {k' e' : Value} {b : Bool} (h : samekey d k e = some b) (hk : VRel γ k k') (he : VRel γ e e') : Instr.sameNow d k' e' = some b := by
  unfold samekey at h
  split at h
  · cases hk; cases he
    split at h
    · rename_i hkk; subst hkk; cases h; simp [Instr.sameNow]
    · cases h
  · cases hk; cases he; cases h
    simp only [Instr.sameNow]
    show some ((⟨_⟩ : Array UInt8) == ⟨_⟩) = _
    simp
  · cases hk; cases he; cases h; rfl
  · cases h
def FRel (γ : Emb) : Option (Nat × AV) → Option (Nat × Value) → Prop
  | none, none => True
  | some (i, v), some (j, v') => i = j ∧ VRel γ v v'
  | _, _ => False
theorem findkey_sound {d : TypeDesc} {k : AV} {k' : Value} (hk : VRel γ k k') : ∀ {es : List AEntry} {es' : List MapEntry} {i : Nat} {r : Option (Nat × AV)}, ERel γ es es' → findkey d k es i = some r → ∃ r', Instr.findNow d k' es' i = some r' ∧ FRel γ r r'
  | [], _, i, r, .nil, h => by simp only [findkey, Option.some.injEq] at h; subst h; exact ⟨none, rfl, trivial⟩
  | e :: es, _, i, r, .cons h1 h2 h3 t, h => by
    unfold findkey at h
    unfold Instr.findNow
    split at h
    · rename_i hs
      cases h
      rw [samekey_sound hs hk h1]
      exact ⟨_, rfl, rfl, h2⟩
    · rename_i hs
      rw [samekey_sound hs hk h1]
      exact findkey_sound hk t h
    · cases h
structure Keyed (P : Program) (T : Tab) (γ : Emb) (t kt et : TypeId) (kd : TypeDesc) (z : AV) (k' : Value) (w : World) : Prop where
  map : (underlying t).run P w = .ok (.map kt et) w
  key : (underlying kt).run P w = .ok kd w
  zero : ∃ z', (zeroValue et).run P w = .ok z' w ∧ VRel γ z z'
  check : ∀ b, (Instr.checkKey b 10000 kt k').run P w = .ok () w
theorem keyed_sound (hT : TabOk P T) {t : TypeId} {k z : AV} {kd : TypeDesc} {k' : Value} (hk : keyed T t k = some (kd, z)) (w : World) : ∃ kt et, Keyed P T γ t kt et kd z k' w := by
  unfold keyed at hk
  split at hk
  · rename_i kt et hd
    split at hk
    · rename_i ei he
      split at hk
      · rename_i hp
        obtain ⟨zv, z1, _, z2, _⟩ := r_zero hT he w
        have hz : ∃ z', (zeroValue et).run P w = .ok z' w ∧ VRel γ ei.zeroV z' := ⟨zv, z1, by rw [z2]; exact toAV_rel γ zv⟩
        refine ⟨kt, et, ?_⟩
        have hkk : ∃ d, descOf T kt = d ∧ d = kd ∧ z = ei.zeroV ∧ ((∃ q, d = .int q) ∨ d = .string ∨ d = .bool) := by
          split at hk <;> cases hk <;> (rename_i hd'; exact ⟨_, hd', rfl, rfl, by simp⟩)
        obtain ⟨d, hd', rfl, rfl, hc⟩ := hkk
        have hne : d ≠ .invalid := by rcases hc with ⟨q, rfl⟩ | rfl | rfl <;> simp
        have hu := r_desc hT hd' hne
        refine ⟨r_desc hT hd (by simp) w, hu w, hz, fun b => ?_⟩
        have : Instr.checkKey b 10000 kt k' = Instr.checkKey b (9999 + 1) kt k' := rfl
        rw [this, Instr.checkKey]
        simp only [Sem.run_bind, hu w, Result.andThen_ok]
        rcases hc with ⟨q, rfl⟩ | rfl | rfl <;> rfl
      · cases hk
    · cases hk
  · cases hk
theorem obj_map (hw : WRel T γ h w0 w) {r b s K z c : Nat} {es : List AEntry} (he : entriesOf h r = some (es, c)) (hg : γ r = some (b, s, K, z)) : h.t.get r = some (.map es c) ∧ w0.heap.size ≤ b ∧ ∃ es', w.heap[b]? = some (.map es' c) ∧ ERel γ es es'.toList := by
  obtain ⟨o, h1, h2, h3⟩ := hw.obj _ _ _ _ _ hg
  unfold entriesOf at he
  rw [h1] at he
  split at he
  · rename_i heq; cases heq; cases he; exact ⟨h1, h3⟩
  · cases he
theorem run_getObj_map' {w : World} {b : Nat} {es : Array MapEntry} {c : Nat} (h : w.heap[b]? = some (.map es c)) : (getObj b).run P w = .ok (.map es c) w := by simp [getObj, Sem.run, h]
theorem run_findKey' {kt : TypeId} {kd : TypeDesc} {k' : Value} {l : List MapEntry} {r : Option (Nat × Value)} (hu : (underlying kt).run P w = .ok kd w) (hf : Instr.findNow kd k' l 0 = some r) : (Instr.findKey kt k' l).run P w = .ok r w := by
  simp [Instr.findKey, hu, hf]
theorem lookup_run {t kt et : TypeId} {kd : TypeDesc} {z : AV} {k' z' m' : Value} {es' : Array MapEntry} {r : Option (Nat × Value)} {ok : Bool} (Q : Keyed P T γ t kt et kd z k' w) (z1 : (zeroValue et).run P w = .ok z' w)
    (hm : (m' = .map none ∧ es' = #[]) ∨ ∃ b c, m' = .map (some b) ∧ w.heap[b]? = some (.map es' c)) (hf : Instr.findNow kd k' es'.toList 0 = some r) :
    (Instr.lookup t m' k' ok).run P w = .ok (if ok then .tuple #[(match r with | some x => x.2 | none => z'), .bool r.isSome] else (match r with | some x => x.2 | none => z')) w := by
  have hfk := run_findKey' (P := P) (w := w) Q.key hf
  unfold Instr.lookup
  rcases hm with ⟨rfl, rfl⟩ | ⟨b, c, rfl, hb⟩
  · simp only [Sem.run_bind, Q.map, Result.andThen_ok, Sem.run_pure, Q.check, hfk]
    cases r with
    | none => simp only [Sem.run_bind, z1, Result.andThen_ok, Sem.run_pure]; cases ok <;> rfl
    | some x => simp only [Sem.run_bind, Result.andThen_ok, Sem.run_pure]; cases ok <;> rfl
  · simp only [Sem.run_bind, Q.map, Result.andThen_ok, Sem.run_pure, run_getObj_map' hb, Q.check, hfk]
    cases r with
    | none => simp only [Sem.run_bind, z1, Result.andThen_ok, Sem.run_pure]; cases ok <;> rfl
    | some x => simp only [Sem.run_bind, Result.andThen_ok, Sem.run_pure]; cases ok <;> rfl
theorem lookup_sound (hT : TabOk P T) (hw : WRel T γ h w0 w) {t : TypeId} {m k v : AV} {m' k' : Value} {ok : Bool} (hs : alookup T h t m k ok = some v) (hm : VRel γ m m') (hk : VRel γ k k') : ∃ v', (Instr.lookup t m' k' ok).run P w = .ok v' w ∧ VRel γ v v' := by
  unfold alookup at hs
  split at hs
  · cases hs
  · rename_i kd z hkd
    obtain ⟨kt, et, Q⟩ := keyed_sound hT (γ := γ) (k' := k') hkd w
    obtain ⟨z', z1, z2⟩ := Q.zero
    split at hs
    · cases hs
    · rename_i es he
      have hes : ∃ es' : Array MapEntry, ERel γ es es'.toList ∧ ((m' = .map none ∧ es' = #[]) ∨ ∃ b c, m' = .map (some b) ∧ w.heap[b]? = some (.map es' c)) := by
        cases hm with
        | nilMap => cases he; exact ⟨#[], .nil, .inl ⟨rfl, rfl⟩⟩
        | map hg =>
          dsimp only at he
          rw [Option.map_eq_some_iff] at he
          obtain ⟨⟨es0, c⟩, h1, rfl⟩ := he
          obtain ⟨_, _, es', h2, h3⟩ := obj_map hw h1 hg
          exact ⟨es', h3, .inr ⟨_, _, rfl, h2⟩⟩
        | _ => cases he
      obtain ⟨es', h1, h2⟩ := hes
      split at hs
      · rename_i i u hf
        obtain ⟨r', g1, g2⟩ := findkey_sound hk h1 hf
        refine ⟨_, lookup_run Q z1 h2 g1, ?_⟩
        cases r' with
        | none => exact g2.elim
        | some x =>
          obtain ⟨_, g3⟩ := g2
          cases hs
          cases ok
          · exact g3
          · exact .tuple (.cons g3 (.cons (.bool _) .nil))
      · rename_i hf
        obtain ⟨r', g1, g2⟩ := findkey_sound hk h1 hf
        refine ⟨_, lookup_run Q z1 h2 g1, ?_⟩
        cases r' with
        | some x => exact g2.elim
        | none =>
          cases hs
          cases ok
          · exact z2
          · exact .tuple (.cons z2 (.cons (.bool _) .nil))
      · cases hs

/-! ### len, min, max -/
theorem ERel.length {γ : Emb} : ∀ {l : List AEntry} {l' : List MapEntry}, ERel γ l l' → l'.length = l.length
  | _, _, .nil => rfl
  | _, _, .cons _ _ _ t => by simp [ERel.length t]
theorem len_sound (hT : TabOk P T) (hw : WRel T γ h w0 w) {t ty : TypeId} {ts : Array TypeId} (ht : ts[0]? = some t) {x v : AV} {x' : Value} (hs : alen T h t x = some v) (hx : VRel γ x x') : ∃ v', (Builtin.len_ ts ty #[x']).run P w = .ok v' w ∧ VRel γ v v' := by
  unfold alen at hs
  unfold Builtin.len_
  have h0 : (#[x'] : Array Value)[0]? = some x' := rfl
  simp only [ht, h0, Sem.run_bind]
  split at hs
  · rename_i l hd
    cases hx; cases hs
    simp only [r_desc hT hd (by simp), Result.andThen_ok]
    exact ⟨_, rfl, .int _ _⟩
  · rename_i n e hd
    cases hs
    simp only [r_desc hT hd (by simp), Result.andThen_ok]
    cases x' <;> exact ⟨_, rfl, .int _ _⟩
  · rename_i arr hd
    split at hs
    · rename_i n e ha
      cases hs
      simp only [r_desc hT hd (by simp), Result.andThen_ok]
      refine ⟨_, ?_, .int _ _⟩
      cases x' <;> (simp only [Sem.run_bind, r_desc hT ha (by simp), Result.andThen_ok]; rfl)
    · cases hs
  · rename_i e id off n c ex hd
    cases hs
    simp only [r_desc hT hd (by simp), Result.andThen_ok]
    cases hx <;> exact ⟨_, rfl, .int _ _⟩
  · rename_i e hd
    cases hx; cases hs
    simp only [r_desc hT hd (by simp), Result.andThen_ok]
    exact ⟨_, rfl, .int _ _⟩
  · rename_i e hd
    cases hx; cases hs
    simp only [r_desc hT hd (by simp), Result.andThen_ok]
    exact ⟨_, rfl, .int _ _⟩
  · rename_i k e hd
    cases hx; cases hs
    simp only [r_desc hT hd (by simp), Result.andThen_ok]
    exact ⟨_, rfl, .int _ _⟩
  · rename_i k e r hd
    cases hx with
    | map hg =>
    split at hs
    · rename_i es c he
      cases hs
      obtain ⟨_, _, es', h2, h3⟩ := obj_map hw he hg
      simp only [r_desc hT hd (by simp), Result.andThen_ok, Sem.run_bind, run_getObj_map' h2]
      exact ⟨_, rfl, by rw [← h3.length]; exact .int _ _⟩
    · cases hs
  · cases hs
theorem min_sound (w : World) : ∀ {l : List AV} {l' : List Value} {x : AV} {x' : Value} {v : AV}, LRel γ l l' → VRel γ x x' → minmax false l x = some v → ∃ v', (l'.foldlM Builtin.min2 x').run P w = .ok v' w ∧ VRel γ v v'
  | [], _, x, x', v, .nil, hx, h => by simp only [minmax, Option.some.injEq] at h; subst h; exact ⟨x', rfl, hx⟩
  | y :: l, _, x, x', v, .cons hy t, hx, h => by
    unfold minmax at h
    split at h
    · rename_i heq; cases heq
    · rename_i k y' rest k' x0 heq
      cases heq; cases hy; cases hx
      rw [List.foldlM_cons, Sem.run_bind]
      have : (Builtin.min2 (.int k' x0) (.int k y')).run P w = .ok (.int k' (if y' < x0 then y' else x0)) w := rfl
      rw [this, Result.andThen_ok]
      simp only [Bool.false_eq_true, if_false] at h
      exact min_sound w t (.int _ _) h
    · cases h
theorem max_sound (w : World) : ∀ {l : List AV} {l' : List Value} {x : AV} {x' : Value} {v : AV}, LRel γ l l' → VRel γ x x' → minmax true l x = some v → ∃ v', (l'.foldlM Builtin.max2 x').run P w = .ok v' w ∧ VRel γ v v'
  | [], _, x, x', v, .nil, hx, h => by simp only [minmax, Option.some.injEq] at h; subst h; exact ⟨x', rfl, hx⟩
  | y :: l, _, x, x', v, .cons hy t, hx, h => by
    unfold minmax at h
    split at h
    · rename_i heq; cases heq
    · rename_i k y' rest k' x0 heq
      cases heq; cases hy; cases hx
      rw [List.foldlM_cons, Sem.run_bind]
      have : (Builtin.max2 (.int k' x0) (.int k y')).run P w = .ok (.int k' (if x0 < y' then y' else x0)) w := rfl
      rw [this, Result.andThen_ok]
      simp only [if_true] at h
      exact max_sound w t (.int _ _) h
    · cases h
end Go.AI
