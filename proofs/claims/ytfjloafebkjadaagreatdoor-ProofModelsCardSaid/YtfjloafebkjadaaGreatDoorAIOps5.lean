import Derived.Test.YtfjloafebkjadaaGreatDoorAIOps4
/- The rest of what leaves memory alone; all of it together. -/
namespace Go.AI
open Go.RowKit (Below)
variable {P : Program} {T : Tab} {γ : Emb} {h : AH} {w0 w : World}

theorem indexAddr_sound (hT : TabOk P T) (w : World) {t : TypeId} {x ix v : AV} {x' ix' : Value} (hs : aindexAddr T t x ix = some v) (hx : VRel γ x x') (hi : VRel γ ix ix') : ∃ v', (Instr.indexAt t x' ix').run P w = .ok v' w ∧ VRel γ v v' := by
  unfold aindexAddr at hs
  unfold Instr.indexAt
  split at hs
  · rename_i kk i len e id off hd
    cases hi
    cases hx with
    | ptr hg =>
    split at hs
    · rename_i ie he
      split at hs
      · rename_i hr
        cases hs
        simp only [Sem.run_bind, asIntOf, Sem.run_pure, Result.andThen_ok, r_desc hT hd (by simp), Instr.sureAddr]
        rw [if_pos hr]
        simp only [Sem.run_bind, r_sizeOf hT he, Result.andThen_ok, Sem.run_pure, add_none]
        exact ⟨_, rfl, by rw [Nat.add_assoc]; exact .ptr hg⟩
      · cases hs
    · cases hs
  · rename_i kk i e id off len cc ex hd
    cases hi
    split at hs
    · rename_i ie he
      split at hs
      · rename_i hr
        cases hs
        cases hx <;>
        · rename_i hg
          simp only [Sem.run_bind, asIntOf, Sem.run_pure, Result.andThen_ok, r_desc hT hd (by simp)]
          rw [if_pos hr]
          simp only [Sem.run_bind, r_sizeOf hT he, Result.andThen_ok, Sem.run_pure, add_none]
          exact ⟨_, rfl, by rw [Nat.add_assoc]; exact .ptr (by assumption)⟩
      · cases hs
    · cases hs
  · rename_i kk i len e g off hd
    cases hi
    cases hx
    split at hs
    · rename_i ie he
      split at hs
      · rename_i hr
        cases hs
        simp only [Sem.run_bind, asIntOf, Sem.run_pure, Result.andThen_ok, r_desc hT hd (by simp), Instr.sureAddr]
        rw [if_pos hr]
        simp only [Sem.run_bind, r_sizeOf hT he, Result.andThen_ok, Sem.run_pure, add_none]
        exact ⟨_, rfl, .glob _ _⟩
      · cases hs
    · cases hs
  · cases hs
theorem index_sound (hT : TabOk P T) (w : World) {t : TypeId} {x ix v : AV} {x' ix' : Value} (hs : aindex T t x ix = some v) (hx : VRel γ x x') (hi : VRel γ ix ix') : ∃ v', (Instr.index t x' ix').run P w = .ok v' w ∧ VRel γ v v' := by
  unfold aindex at hs
  unfold Instr.index
  split at hs
  · rename_i kk i len e cs hd
    cases hi
    cases hx with
    | agg hl =>
    split at hs
    · rename_i ie he
      split at hs
      · rename_i hr
        simp only [Sem.run_bind, asIntOf, Sem.run_pure, Result.andThen_ok, r_desc hT hd (by simp)]
        rw [if_pos hr]
        simp only [Sem.run_bind, r_sizeOf hT he, Result.andThen_ok]
        exact part_rel hT hs hl w
      · cases hs
    · cases hs
  · rename_i kk i l hd
    cases hi
    cases hx
    split at hs
    · rename_i hr
      rw [Option.map_eq_some_iff] at hs
      obtain ⟨b, h1, rfl⟩ := hs
      rw [lget_eq] at h1
      simp only [Sem.run_bind, asIntOf, Sem.run_pure, Result.andThen_ok, r_desc hT hd (by simp)]
      rw [if_pos hr]
      have : (⟨⟨l⟩⟩ : ByteArray)[i.toNat]? = some b := by
        obtain ⟨hlt, e⟩ := List.getElem?_eq_some_iff.1 h1
        have hsz : (⟨⟨l⟩⟩ : ByteArray).size = l.length := rfl
        rw [getElem?_pos (⟨⟨l⟩⟩ : ByteArray) i.toNat (by rw [hsz]; exact hlt)]
        congr 1
      rw [this]
      exact ⟨_, rfl, .int _ _⟩
    · cases hs
  · cases hs
theorem fieldAddr_sound (hT : TabOk P T) (w : World) {s : TypeId} {x v : AV} {x' : Value} {f : Nat} (hs : afieldAddr T s x f = some v) (hx : VRel γ x x') : ∃ v', (Instr.fieldAt s x' f).run P w = .ok v' w ∧ VRel γ v v' := by
  unfold afieldAddr at hs
  unfold Instr.fieldAt
  split at hs
  · rename_i fs id off hd
    cases hx with
    | ptr hg =>
    split at hs
    · rename_i fl hf
      split at hs
      · rename_i i hi
        split at hs
        · cases hs
        · rename_i hz
          cases hs
          rw [lget_eq, Array.getElem?_toList] at hf
          simp only [Sem.run_bind, r_desc hT hd (by simp), Result.andThen_ok, hf, Instr.sureAddr, Sem.run_pure, fieldPlace, r_sizeOf hT hi]
          rw [if_neg hz]
          simp only [Sem.run_pure, Result.andThen_ok, add_none]
          exact ⟨_, rfl, by rw [Nat.add_assoc]; exact .ptr hg⟩
      · cases hs
    · cases hs
  · cases hs
theorem field_sound (hT : TabOk P T) (w : World) {s : TypeId} {x v : AV} {x' : Value} {f : Nat} (hs : afield T s x f = some v) (hx : VRel γ x x') : ∃ v', (Instr.field s x' f).run P w = .ok v' w ∧ VRel γ v v' := by
  unfold afield at hs
  unfold Instr.field
  split at hs
  · rename_i fs cs hd
    cases hx with
    | agg hl =>
    split at hs
    · rename_i fl hf
      rw [lget_eq, Array.getElem?_toList] at hf
      simp only [Sem.run_bind, r_desc hT hd (by simp), Result.andThen_ok, hf, asAgg, Sem.run_pure]
      exact part_rel hT hs hl w
    · cases hs
  · cases hs

/-! ### Maps -/
theorem samekey_sound {d : TypeId × TypeDesc} {k e : AV} {k' e' : Value} {b : Bool} (hp : ∀ n x, d.2 ≠ .array n x) (h : samekey T d k e = some b) (hk : VRel γ k k') (he : VRel γ e e') : Instr.sameNow d.2 k' e' = some b := by
  unfold samekey at h
  split at h
  · rename_i hd; rw [hd]
    cases hk; cases he
    split at h
    · rename_i hkk; subst hkk; cases h; simp [Instr.sameNow]
    · cases h
  · rename_i hd; rw [hd]
    cases hk; cases he; cases h
    simp only [Instr.sameNow]
    show some ((⟨_⟩ : Array UInt8) == ⟨_⟩) = _
    simp
  · rename_i hd; rw [hd]
    cases hk; cases he; cases h; rfl
  · rename_i hd; exact absurd hd (hp _ _)
  · cases h
def FRel (γ : Emb) : Option (Nat × AV) → Option (Nat × Value) → Prop
  | none, none => True
  | some (i, v), some (j, v') => i = j ∧ VRel γ v v'
  | _, _ => False
theorem findkey_now {d : TypeId × TypeDesc} {k : AV} {k' : Value} (hp : ∀ n x, d.2 ≠ .array n x) (hk : VRel γ k k') : ∀ {es : List AEntry} {es' : List MapEntry} {i : Nat} {r : Option (Nat × AV)}, ERel γ es es' → findkey T d k es i = some r → ∃ r', Instr.findNow d.2 k' es' i = some r' ∧ FRel γ r r'
  | [], _, i, r, .nil, h => by simp only [findkey, Option.some.injEq] at h; subst h; exact ⟨none, rfl, trivial⟩
  | e :: es, _, i, r, .cons h1 h2 h3 t, h => by
    unfold findkey at h
    unfold Instr.findNow
    split at h
    · rename_i hs
      cases h
      rw [samekey_sound hp hs hk h1]
      exact ⟨_, rfl, rfl, h2⟩
    · rename_i hs
      rw [samekey_sound hp hs hk h1]
      exact findkey_now hp hk t h
    · cases h
theorem samekey_ask (hT : TabOk P T) (w : World) {d : TypeId × TypeDesc} {n x : Nat} (hd : d.2 = .array n x) {k e : AV} {k' e' : Value} {b : Bool} (h : samekey T d k e = some b) (hk : VRel γ k k') (he : VRel γ e e') : (Op.equal d.1 k' e').run P w = .ok b w := by
  unfold samekey at h
  rw [hd] at h
  split at h <;> (try (rename_i hq; cases hq; done))
  · refine aeq_sound hT 9 _ (by decide) w _ _ _ _ _ _ ?_ hk he
    split at h
    · rename_i hq
      split at h
      · cases h; exact hq
      · cases h
    · exact h
  · cases h
theorem findkey_ask (hT : TabOk P T) (w : World) {d : TypeId × TypeDesc} {n x : Nat} (hd : d.2 = .array n x) {k : AV} {k' : Value} (hk : VRel γ k k') : ∀ {es : List AEntry} {es' : List MapEntry} {i : Nat} {r : Option (Nat × AV)}, ERel γ es es' → findkey T d k es i = some r → ∃ r', (Instr.findAsking d.1 k' es' i).run P w = .ok r' w ∧ FRel γ r r'
  | [], _, i, r, .nil, h => by simp only [findkey, Option.some.injEq] at h; subst h; exact ⟨none, rfl, trivial⟩
  | e :: es, _, i, r, .cons h1 h2 h3 t, h => by
    unfold findkey at h
    unfold Instr.findAsking
    simp only [Sem.run_bind]
    split at h
    · rename_i hs
      cases h
      rw [samekey_ask hT w hd hs hk h1]
      exact ⟨_, rfl, rfl, h2⟩
    · rename_i hs
      rw [samekey_ask hT w hd hs hk h1]
      simp only [Result.andThen_ok, Bool.false_eq_true, if_false]
      exact findkey_ask hT w hd hk t h
    · cases h
theorem findkey_sound (hT : TabOk P T) (w : World) {d : TypeId × TypeDesc} (hu : (underlying d.1).run P w = .ok d.2 w) {k : AV} {k' : Value} (hk : VRel γ k k') {es : List AEntry} {es' : List MapEntry} {r : Option (Nat × AV)} (hE : ERel γ es es') (h : findkey T d k es 0 = some r) :
    ∃ r', (Instr.findKey d.1 k' es').run P w = .ok r' w ∧ FRel γ r r' := by
  unfold Instr.findKey
  simp only [Sem.run_bind, hu, Result.andThen_ok]
  by_cases hp : ∀ n x, d.2 ≠ .array n x
  · obtain ⟨r', h1, h2⟩ := findkey_now hp hk hE h
    rw [h1]; exact ⟨r', rfl, h2⟩
  · have : ∃ n x, d.2 = .array n x := Classical.byContradiction fun hn => hp fun n x e => hn ⟨n, x, e⟩
    obtain ⟨n, x, hd⟩ := this
    obtain ⟨r', h1, h2⟩ := findkey_ask hT w hd hk hE h
    cases hE with
    | nil =>
      simp only [findkey, Option.some.injEq] at h; subst h
      exact ⟨none, rfl, trivial⟩
    | cons a b c t =>
      have hnone : ∀ (m : MapEntry) ms, Instr.findNow d.2 k' (m :: ms) 0 = none := fun m ms => by
        rw [Instr.findNow, hd]; rfl
      rw [hnone]; exact ⟨r', h1, h2⟩
structure Keyed (P : Program) (T : Tab) (γ : Emb) (t kt et : TypeId) (kd : TypeDesc) (z : AV) (k' : Value) (w : World) : Prop where
  map : (underlying t).run P w = .ok (.map kt et) w
  key : (underlying kt).run P w = .ok kd w
  zero : ∃ z', (zeroValue et).run P w = .ok z' w ∧ VRel γ z z'
  check : ∀ b, (Instr.checkKey b 10000 kt k').run P w = .ok () w
theorem checkSlots (hT : TabOk P T) (w : World) {e : TypeId} {ie : TInfo} (he : T.tt.get e = some ie) {q : IntKind} (hq : ie.desc = .int q) {cs : List AV} {cs' : List Value} (hl : LRel γ cs cs') (b : Bool) : ∀ n i, (slots e ie.size n i).all (fun s => (apart T s.1 cs s.2).isSome) = true →
    (forIn (m := Sem) (List.range' i n) PUnit.unit fun i _ => do
      let s ← sizeOf e
      let p ← part e ⟨cs'⟩ (i * s)
      Instr.checkKey b 9999 e p
      pure (ForInStep.yield PUnit.unit)).run P w = .ok PUnit.unit w
  | 0, i, _ => by simp
  | n + 1, i, h => by
    simp only [slots, List.all_cons, Bool.and_eq_true] at h
    obtain ⟨u, hu⟩ := Option.isSome_iff_exists.1 h.1
    obtain ⟨u', g1, _⟩ := part_rel hT hu hl w
    have hie := r_underlying hT he w
    have : Instr.checkKey b 9999 e u' = Instr.checkKey b (9998 + 1) e u' := rfl
    simp only [List.range'_succ, List.forIn_cons, Sem.run_bind, r_sizeOf hT he, Result.andThen_ok, g1]
    rw [this, Instr.checkKey]
    simp only [Sem.run_bind, hie, Result.andThen_ok, hq, Sem.run_pure]
    exact checkSlots hT w he hq hl b n (i + 1) h.2
theorem keyed_sound (hT : TabOk P T) {t : TypeId} {k z : AV} {kd : TypeId × TypeDesc} {k' : Value} (hk : keyed T t k = some (kd, z)) (hkr : VRel γ k k') (w : World) : ∃ et, Keyed P T γ t kd.1 et kd.2 z k' w := by
  unfold keyed at hk
  split at hk
  · rename_i kt et hd
    split at hk
    · rename_i ei he
      obtain ⟨zv, z1, _, z2, _⟩ := r_zero hT he w
      have hz : ∃ z', (zeroValue et).run P w = .ok z' w ∧ VRel γ ei.zeroV z' := ⟨zv, z1, by rw [z2]; exact toAV_rel γ zv⟩
      refine ⟨et, ?_⟩
      split at hk
      · rename_i hp
        have hkk : ∃ d, descOf T kt = d ∧ kd = (kt, d) ∧ z = ei.zeroV ∧ ((∃ q, d = .int q) ∨ d = .string ∨ d = .bool) := by
          split at hk <;> cases hk <;> (rename_i hd'; exact ⟨_, hd', rfl, rfl, by simp⟩)
        obtain ⟨d, hd', rfl, rfl, hc⟩ := hkk
        have hne : d ≠ .invalid := by rcases hc with ⟨q, rfl⟩ | rfl | rfl <;> simp
        have hu := r_desc hT hd' hne
        refine ⟨r_desc hT hd (by simp) w, hu w, hz, fun b => ?_⟩
        have : Instr.checkKey b 10000 kt k' = Instr.checkKey b (9999 + 1) kt k' := rfl
        rw [this, Instr.checkKey]
        simp only [Sem.run_bind, hu w, Result.andThen_ok]
        rcases hc with ⟨q, rfl⟩ | rfl | rfl <;> rfl
      · split at hk
        · rename_i n e cs hd' _
          split at hk
          · rename_i ie hie
            split at hk
            · rename_i q hq
              split at hk
              · rename_i hall
                cases hk
                cases hkr with
                | agg hl =>
                have hu := r_desc hT hd' (by simp)
                refine ⟨r_desc hT hd (by simp) w, hu w, hz, fun b => ?_⟩
                have : ∀ v, Instr.checkKey b 10000 kt v = Instr.checkKey b (9999 + 1) kt v := fun _ => rfl
                rw [this, Instr.checkKey]
                simp only [Sem.run_bind, hu w, Result.andThen_ok, Std.Legacy.Range.forIn_eq_forIn_range', Std.Legacy.Range.size, Nat.sub_zero, Nat.add_sub_cancel, Nat.div_one]
                rw [checkSlots hT w hie hq hl b n 0 hall]; rfl
              · cases hk
            · cases hk
          · cases hk
        · cases hk
    · cases hk
  · cases hk
theorem obj_map (hw : WRel T γ h w0 w) {r b s K z c : Nat} {es : List AEntry} (he : entriesOf h r = some (es, c)) (hg : γ r = some (b, s, K, z)) : h.t.get r = some (.map es c) ∧ w0.heap.size ≤ b ∧ ∃ es', w.heap[b]? = some (.map es' c) ∧ ERel γ es es'.toList := by
  obtain ⟨o, h1, h2, h3⟩ := hw.obj _ _ _ _ _ hg
  unfold entriesOf at he
  rw [h1] at he
  split at he
  · rename_i heq; cases heq; cases he; exact ⟨h1, h3⟩
  · cases he
theorem run_getObj_map' {w : World} {b : Nat} {es : Array MapEntry} {c : Nat} (h : w.heap[b]? = some (.map es c)) : (getObj b).run P w = .ok (.map es c) w := by simp [getObj, Sem.run, h]
theorem lookup_run {t kt et : TypeId} {kd : TypeDesc} {z : AV} {k' z' m' : Value} {es' : Array MapEntry} {r : Option (Nat × Value)} {ok : Bool} (Q : Keyed P T γ t kt et kd z k' w) (z1 : (zeroValue et).run P w = .ok z' w)
    (hm : (m' = .map none ∧ es' = #[]) ∨ ∃ b c, m' = .map (some b) ∧ w.heap[b]? = some (.map es' c)) (hfk : (Instr.findKey kt k' es'.toList).run P w = .ok r w) :
    (Instr.lookup t m' k' ok).run P w = .ok (if ok then .tuple #[(match r with | some x => x.2 | none => z'), .bool r.isSome] else (match r with | some x => x.2 | none => z')) w := by
  unfold Instr.lookup
  rcases hm with ⟨rfl, rfl⟩ | ⟨b, c, rfl, hb⟩
  · simp only [Sem.run_bind, Q.map, Result.andThen_ok, Sem.run_pure, Q.check, hfk]
    cases r with
    | none => simp only [Sem.run_bind, z1, Result.andThen_ok, Sem.run_pure]; cases ok <;> rfl
    | some x => simp only [Sem.run_bind, Result.andThen_ok, Sem.run_pure]; cases ok <;> rfl
  · simp only [Sem.run_bind, Q.map, Result.andThen_ok, Sem.run_pure, run_getObj_map' hb, Q.check, hfk]
    cases r with
    | none => simp only [Sem.run_bind, z1, Result.andThen_ok, Sem.run_pure]; cases ok <;> rfl
    | some x => simp only [Sem.run_bind, Result.andThen_ok, Sem.run_pure]; cases ok <;> rfl
theorem lookup_sound (hT : TabOk P T) (hw : WRel T γ h w0 w) {t : TypeId} {m k v : AV} {m' k' : Value} {ok : Bool} (hs : alookup T h t m k ok = some v) (hm : VRel γ m m') (hk : VRel γ k k') : ∃ v', (Instr.lookup t m' k' ok).run P w = .ok v' w ∧ VRel γ v v' := by
  unfold alookup at hs
  split at hs
  · cases hs
  · rename_i kd z hkd
    obtain ⟨et, Q⟩ := keyed_sound hT (γ := γ) (k' := k') hkd hk w
    obtain ⟨z', z1, z2⟩ := Q.zero
    split at hs
    · cases hs
    · rename_i es he
      have hes : ∃ es' : Array MapEntry, ERel γ es es'.toList ∧ ((m' = .map none ∧ es' = #[]) ∨ ∃ b c, m' = .map (some b) ∧ w.heap[b]? = some (.map es' c)) := by
        cases hm with
        | nilMap => cases he; exact ⟨#[], .nil, .inl ⟨rfl, rfl⟩⟩
        | map hg =>
          dsimp only at he
          rw [Option.map_eq_some_iff] at he
          obtain ⟨⟨es0, c⟩, h1, rfl⟩ := he
          obtain ⟨_, _, es', h2, h3⟩ := obj_map hw h1 hg
          exact ⟨es', h3, .inr ⟨_, _, rfl, h2⟩⟩
        | _ => cases he
      obtain ⟨es', h1, h2⟩ := hes
      split at hs
      · rename_i i u hf
        obtain ⟨r', g1, g2⟩ := findkey_sound hT w Q.key hk h1 hf
        refine ⟨_, lookup_run Q z1 h2 g1, ?_⟩
        cases r' with
        | none => exact g2.elim
        | some x =>
          obtain ⟨_, g3⟩ := g2
          cases hs
          cases ok
          · exact g3
          · exact .tuple (.cons g3 (.cons (.bool _) .nil))
      · rename_i hf
        obtain ⟨r', g1, g2⟩ := findkey_sound hT w Q.key hk h1 hf
        refine ⟨_, lookup_run Q z1 h2 g1, ?_⟩
        cases r' with
        | some x => exact g2.elim
        | none =>
          cases hs
          cases ok
          · exact z2
          · exact .tuple (.cons z2 (.cons (.bool _) .nil))
      · cases hs

/-! ### len, min, max -/
theorem ERel.length {γ : Emb} : ∀ {l : List AEntry} {l' : List MapEntry}, ERel γ l l' → l'.length = l.length
  | _, _, .nil => rfl
  | _, _, .cons _ _ _ t => by simp [ERel.length t]
theorem cap_sound (hT : TabOk P T) (w : World) {t ty : TypeId} {ts : Array TypeId} (ht : ts[0]? = some t) {x v : AV} {x' : Value} (hs : acap T t x = some v) (hx : VRel γ x x') : ∃ v', (Builtin.cap_ ts ty #[x']).run P w = .ok v' w ∧ VRel γ v v' := by
  unfold acap at hs
  unfold Builtin.cap_
  have h0 : (#[x'] : Array Value)[0]? = some x' := rfl
  simp only [ht, h0, Sem.run_bind]
  split at hs
  · rename_i hd
    cases hs
    simp only [r_desc hT hd (by simp), Result.andThen_ok]
    cases hx; exact ⟨_, rfl, .int _ _⟩
  · rename_i hd
    cases hs
    simp only [r_desc hT hd (by simp), Result.andThen_ok]
    cases hx; exact ⟨_, rfl, .int _ _⟩
  · cases hs
theorem len_sound (hT : TabOk P T) (hw : WRel T γ h w0 w) {t ty : TypeId} {ts : Array TypeId} (ht : ts[0]? = some t) {x v : AV} {x' : Value} (hs : alen T h t x = some v) (hx : VRel γ x x') : ∃ v', (Builtin.len_ ts ty #[x']).run P w = .ok v' w ∧ VRel γ v v' := by
  unfold alen at hs
  unfold Builtin.len_
  have h0 : (#[x'] : Array Value)[0]? = some x' := rfl
  simp only [ht, h0, Sem.run_bind]
  split at hs
  · rename_i l hd
    cases hx; cases hs
    simp only [r_desc hT hd (by simp), Result.andThen_ok]
    exact ⟨_, rfl, .int _ _⟩
  · rename_i n e hd
    cases hs
    simp only [r_desc hT hd (by simp), Result.andThen_ok]
    cases x' <;> exact ⟨_, rfl, .int _ _⟩
  · rename_i arr hd
    split at hs
    · rename_i n e ha
      cases hs
      simp only [r_desc hT hd (by simp), Result.andThen_ok]
      refine ⟨_, ?_, .int _ _⟩
      cases x' <;> (simp only [Sem.run_bind, r_desc hT ha (by simp), Result.andThen_ok]; rfl)
    · cases hs
  · rename_i e id off n c ex hd
    cases hs
    simp only [r_desc hT hd (by simp), Result.andThen_ok]
    cases hx <;> exact ⟨_, rfl, .int _ _⟩
  · rename_i e hd
    cases hx; cases hs
    simp only [r_desc hT hd (by simp), Result.andThen_ok]
    exact ⟨_, rfl, .int _ _⟩
  · rename_i e hd
    cases hx; cases hs
    simp only [r_desc hT hd (by simp), Result.andThen_ok]
    exact ⟨_, rfl, .int _ _⟩
  · rename_i k e hd
    cases hx; cases hs
    simp only [r_desc hT hd (by simp), Result.andThen_ok]
    exact ⟨_, rfl, .int _ _⟩
  · rename_i k e r hd
    cases hx with
    | map hg =>
    split at hs
    · rename_i es c he
      cases hs
      obtain ⟨_, _, es', h2, h3⟩ := obj_map hw he hg
      simp only [r_desc hT hd (by simp), Result.andThen_ok, Sem.run_bind, run_getObj_map' h2]
      exact ⟨_, rfl, by rw [← h3.length]; exact .int _ _⟩
    · cases hs
  · cases hs
theorem min_sound (w : World) : ∀ {l : List AV} {l' : List Value} {x : AV} {x' : Value} {v : AV}, LRel γ l l' → VRel γ x x' → minmax false l x = some v → ∃ v', (l'.foldlM Builtin.min2 x').run P w = .ok v' w ∧ VRel γ v v'
  | [], _, x, x', v, .nil, hx, h => by simp only [minmax, Option.some.injEq] at h; subst h; exact ⟨x', rfl, hx⟩
  | y :: l, _, x, x', v, .cons hy t, hx, h => by
    unfold minmax at h
    split at h
    · rename_i heq; cases heq
    · rename_i k y' rest k' x0 heq
      cases heq; cases hy; cases hx
      rw [List.foldlM_cons, Sem.run_bind]
      have : (Builtin.min2 (.int k' x0) (.int k y')).run P w = .ok (.int k' (if y' < x0 then y' else x0)) w := rfl
      rw [this, Result.andThen_ok]
      simp only [Bool.false_eq_true, if_false] at h
      exact min_sound w t (.int _ _) h
    · cases h
theorem max_sound (w : World) : ∀ {l : List AV} {l' : List Value} {x : AV} {x' : Value} {v : AV}, LRel γ l l' → VRel γ x x' → minmax true l x = some v → ∃ v', (l'.foldlM Builtin.max2 x').run P w = .ok v' w ∧ VRel γ v v'
  | [], _, x, x', v, .nil, hx, h => by simp only [minmax, Option.some.injEq] at h; subst h; exact ⟨x', rfl, hx⟩
  | y :: l, _, x, x', v, .cons hy t, hx, h => by
    unfold minmax at h
    split at h
    · rename_i heq; cases heq
    · rename_i k y' rest k' x0 heq
      cases heq; cases hy; cases hx
      rw [List.foldlM_cons, Sem.run_bind]
      have : (Builtin.max2 (.int k' x0) (.int k y')).run P w = .ok (.int k' (if x0 < y' then y' else x0)) w := rfl
      rw [this, Result.andThen_ok]
      simp only [if_true] at h
      exact max_sound w t (.int _ _) h
    · cases h
end Go.AI
