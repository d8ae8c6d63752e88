import Derived.Lib.Builder
import Derived.Lib.UnsafeStr
import Derived.Test.YtfjloafebkjadaaGreatDoorAIOps3
import Derived.MapKept
/- The other operations that leave memory alone. -/
namespace Go.AI
open Go.RowKit (Below)
variable {P : Program} {T : Tab} {γ : Emb} {h : AH} {w0 w : World}

def byteStep (c : Value) (s : ByteArray) : Sem (ForInStep ByteArray) :=
  match c with
  | .int .u8 n => pure (.yield (s.push (UInt8.ofNat n.toNat)))
  | _ => stuck "bytesToString: byte expected"
theorem push_mk (s : ByteArray) (b : UInt8) : (s.push b).data.toList = s.data.toList ++ [b] := by
  obtain ⟨⟨l⟩⟩ := s; simp [ByteArray.push]
theorem toBytes_some : ∀ {l : List AV} {r : List UInt8}, toBytes l = some r → ∀ {L : List Value}, LRel γ l L → ∀ (s : ByteArray),
    (forIn L s byteStep).run P w = .ok (⟨⟨s.data.toList ++ r⟩⟩ : ByteArray) w
  | [], r, h, _, .nil, s => by
    simp only [toBytes, Option.some.injEq] at h; subst h
    simp
  | v :: l, r, h, _, .cons hv t, s => by
    unfold toBytes at h
    split at h
    · rename_i heq; cases heq
    · rename_i n rest heq
      cases heq
      rw [Option.map_eq_some_iff] at h
      obtain ⟨r', h1, rfl⟩ := h
      cases hv
      rw [List.forIn_cons, Sem.run_bind]
      have : (byteStep (.int .u8 n) s).run P w = .ok (.yield (s.push (UInt8.ofNat n.toNat))) w := rfl
      rw [this, Result.andThen_ok]
      dsimp only
      rw [toBytes_some h1 t, push_mk]
      simp
    · cases h
theorem isByte_desc {e : TypeId} (h : isByte T e = true) : descOf T e = .int .u8 := by
  unfold isByte at h
  split at h
  · assumption
  · cases h
theorem bytes_sound (hw : WRel T γ h w0 w) {x v : AV} {x' : Value} (hc : abytes h x = some v) (hx : VRel γ x x') : ∃ v', (Conv.bytesToString x').run P w = .ok v' w ∧ VRel γ v v' := by
  have core : ∀ {id off len b s K z c' : Nat}, γ id = some (b, s, K, z) → abytes h (.slice id off len 0 true) = some v → ∃ v', (Conv.bytesToString (.slice (some ⟨b, s + off, none⟩) len c')).run P w = .ok v' w ∧ VRel γ v v' := by
    intro id off len b s K z c' hg hc
    unfold abytes at hc
    dsimp only at hc
    split at hc
    · rename_i cs hcs
      split at hc
      · rename_i l hl
        rw [Option.map_eq_some_iff] at hc
        obtain ⟨r, h1, rfl⟩ := hc
        obtain ⟨L, h2, h3, h4⟩ := stretch hw hcs hg hl
        unfold Conv.bytesToString
        simp only [Sem.run_bind]
        rw [← h3, run_loadCells_list _ _ L h4]
        simp only [Result.andThen_ok]
        rw [← Array.forIn_toList]
        refine ⟨.string ⟨⟨r⟩⟩, ?_, .str _⟩
        have e2 : ∀ f : Value → ByteArray → Sem (ForInStep ByteArray), (∀ c s, f c s = byteStep c s) → (forIn L.toArray.toList ByteArray.empty f).run P w = .ok (⟨⟨r⟩⟩ : ByteArray) w := by
          intro f hf
          have : f = byteStep := funext fun c => funext fun s => hf c s
          rw [this]
          exact toBytes_some h1 h2 ByteArray.empty
        rw [e2 _ (by intro c s; cases c with
          | int k n => cases k <;> rfl
          | _ => rfl)]
        rfl
      · cases hc
    · cases hc
  cases hx with
  | nilSlice => cases hc; exact ⟨_, rfl, .str _⟩
  | eslice a c =>
    cases hc
    unfold Conv.bytesToString
    simp only [Sem.run_bind]
    have := run_loadCells_list (P := P) w a [] (by simp)
    simp only [List.length_nil] at this
    rw [this]
    exact ⟨_, rfl, .str _⟩
  | slice hg => exact core hg hc
  | grown hg _ _ => exact core hg hc
  | _ => cases hc
theorem liesAt_self {e : TypeId} {count off n : Nat} (hc : P.cellsOf e ≠ 0) (h0 : off % P.cellsOf e = 0) (hn : off / P.cellsOf e + n ≤ count) : liesAt P P.depth e count off e n = true := by
  have hd : P.depth = (2 * (P.types.size + Made.depth) + 1) + 1 := rfl
  rw [hd]
  simp only [liesAt, Bool.or_eq_true]
  left
  rw [hd]
  simp [rowAt, hc, hn, h0, sameLayout]
theorem shape_of {w : World} {b : Nat} {c : Array Value} {e : TypeId} {fz : Nat × Nat} (h : w.heap[b]? = some (.cells c e fz)) : w.shape? b = some (e, c.size) := by simp [World.shape?, h]
theorem unsafe_sound (hT : TabOk P T) (hw : WRel T γ h w0 w) {s d t : TypeId} {id off : Nat} {v : AV} {x' : Value} (hs : P.underlying s = some (.pointer t)) (hd : P.underlying d = some .unsafePointer) (hc : aunsafe T h t id off = some v) (hx : VRel γ (.ptr id off) x') :
    (convert s d x').run P w = .ok x' w ∧ VRel γ v x' := by
  unfold aunsafe at hc
  split at hc
  · rename_i it cs e ro ht ho
    split at hc
    · rename_i hcond
      cases hc
      cases hx with
      | ptr hg =>
        obtain ⟨_, info, _, hi, hsz, _⟩ := hT.ty t it ht
        obtain ⟨c, e', fz, h1, _, h3, h4⟩ := obj_cells hw (cs := cs) (by unfold cellsOf; rw [ho]) hg
        exact ⟨Go.Lib.run_to_unsafe w _ hs hd hi (by rw [hsz]; exact hcond.1) (shape_of h1) (by dsimp only; omega), .ptr hg⟩
    · cases hc
  · cases hc
theorem fromUnsafe_sound (hT : TabOk P T) (hw : WRel T γ h w0 w) {s d u : TypeId} {id off : Nat} {v : AV} {x' : Value} (hs : P.underlying s = some .unsafePointer) (hd : P.underlying d = some (.pointer u)) (hc : afromUnsafe T h u id off = some v) (hx : VRel γ (.ptr id off) x') :
    (convert s d x').run P w = .ok x' w ∧ VRel γ v x' := by
  unfold afromUnsafe at hc
  split at hc
  · rename_i iu cs e ro hu ho
    split at hc
    · rename_i hcond
      obtain ⟨he, hz, hm, hlen⟩ := hcond
      obtain rfl := Nat.eq_of_beq_eq_true he
      cases hc
      cases hx with
      | ptr hg =>
        rename_i b sh K z
        obtain ⟨_, info, _, hi, hsz, _⟩ := hT.ty u iu hu
        obtain ⟨c, e', fz, h1, _, h3, h4⟩ := obj_cells hw (cs := cs) (by unfold cellsOf; rw [ho]) hg
        obtain ⟨t1, t2, t3⟩ := obj_type hw ho hg
        obtain rfl := t3.same h1
        have hcell : P.cellsOf e' = iu.size := by simp [Program.cellsOf, hi, hsz]
        have hzz : z = iu.size := by rw [t1, szOf_eq hu]
        refine ⟨Go.Lib.run_from_unsafe w _ hs hd hi (shape_of h1) (liesAt_self (by rw [hcell]; exact hz) ?_ ?_), .ptr hg⟩
        · rw [hcell]; dsimp only; rw [Nat.add_mod, hm, ← hzz, t2]; simp
        · rw [hcell]; dsimp only
          have hpos : 0 < iu.size := by omega
          rw [← Nat.add_div_right _ hpos]
          exact Nat.div_le_div_right (by omega)
    · cases hc
  · cases hc
theorem convert_sound (hT : TabOk P T) (hw : WRel T γ h w0 w) {s d : TypeId} {x v : AV} {x' : Value} (hc : aconvert T h s d x = some v) (hx : VRel γ x x') : ∃ v', (convert s d x').run P w = .ok v' w ∧ VRel γ v v' := by
  unfold aconvert at hc
  unfold convert
  split at hc
  · cases hc
  · rename_i si hs
    simp only [Sem.run_bind, r_underlying hT hs, Result.andThen_ok]
    split at hc
    · rename_i k kk n hd
      cases hx; cases hc
      simp only [r_desc hT hd (by simp), Result.andThen_ok]
      cases si.desc <;> exact ⟨_, rfl, .int _ _⟩
    · rename_i l hd
      cases hx; cases hc
      simp only [r_desc hT hd (by simp), Result.andThen_ok]
      cases si.desc <;> exact ⟨_, rfl, .str _⟩
    · rename_i hd _
      simp only [r_desc hT hd (by simp), Result.andThen_ok]
      split at hc
      · rename_i e he
        rw [he]
        split at hc
        · rename_i hb
          obtain ⟨v', g1, g2⟩ := bytes_sound (P := P) hw hc hx
          refine ⟨v', ?_, g2⟩
          have hu := r_desc hT (isByte_desc hb) (by simp) w
          cases hx <;> first
            | (cases hc; done)
            | (simp only [Sem.run_bind, hu, Result.andThen_ok]; exact g1)
        · cases hc
      · cases hc
    · rename_i id off hd
      split at hc
      · rename_i t ht
        obtain ⟨j, hj, hjd⟩ := descOf_some hd (by simp)
        have h1 := (hT.ty s si hs).1
        have h2 := (hT.ty d j hj).1
        rw [ht] at h1; rw [hjd] at h2
        have := unsafe_sound hT hw h1 h2 hc hx
        rw [ht]
        exact ⟨x', by have e := this.1; unfold convert at e; simp only [Sem.run_bind, run_underlying h1, Result.andThen_ok] at e; exact e, this.2⟩
      · cases hc
    · rename_i u id off hd
      split at hc
      · rename_i ht
        obtain ⟨j, hj, hjd⟩ := descOf_some hd (by simp)
        have h1 := (hT.ty s si hs).1
        have h2 := (hT.ty d j hj).1
        rw [ht] at h1; rw [hjd] at h2
        have := fromUnsafe_sound hT hw h1 h2 hc hx
        rw [ht]
        exact ⟨x', by have e := this.1; unfold convert at e; simp only [Sem.run_bind, run_underlying h1, Result.andThen_ok] at e; exact e, this.2⟩
      · cases hc
    · cases hc

/-! ### Addresses and parts -/
theorem bound_sound (w : World) {y n : Nat} {v : AV} {v' : Value} {c : BoundsCode} (hb : bound y v = some n) (hv : VRel γ v v') : (Instr.sliceBound v' y c).run P w = .ok n w ∧ n ≤ y := by
  unfold bound at hb
  split at hb
  · rename_i k i
    cases hv
    split at hb
    · rename_i hi
      cases hb
      refine ⟨?_, by omega⟩
      simp [Instr.sliceBound, asIntOf, hi]
    · cases hb
  · cases hb
def ORelO (γ : Emb) : Option AV → Option Value → Prop
  | none, none => True
  | some v, some v' => VRel γ v v'
  | _, _ => False
theorem wid (w : World) {y y' n : Nat} {v : AV} {v' : Value} {c : BoundsCode} (hy : y ≤ y') (hb : bound y v = some n) (hv : VRel γ v v') : (Instr.sliceBound v' y' c).run P w = .ok n w := by
  refine (bound_sound w (γ := γ) (v := v) ?_ hv).1
  unfold bound at hb ⊢
  split at hb
  · rename_i k i
    split at hb
    · rename_i hi; rw [if_pos (by omega)]; exact hb
    · cases hb
  · cases hb
theorem low_run (w : World) {lo : Option AV} {lo' : Option Value} {q n m : Nat} {c : BoundsCode} (h1 : ORelO γ lo lo') (e : optBound q 0 lo = some n) :
    (match lo' with | some v => (do let l ← Instr.sliceBound v q c; pure (l, q, m) : Sem (Nat × Nat × Nat)) | none => (do let l ← pure 0; pure (l, q, m))).run P w = .ok (n, q, m) w ∧ n ≤ q := by
  cases lo with
  | none => cases lo' with
    | some _ => exact h1.elim
    | none => cases e; exact ⟨rfl, Nat.zero_le _⟩
  | some v => cases lo' with
    | none => exact h1.elim
    | some v' =>
      obtain ⟨g1, g2⟩ := bound_sound (P := P) (c := c) w e h1
      refine ⟨?_, g2⟩
      simp only [Sem.run_bind, g1, Result.andThen_ok]; rfl
/-- The bounds are what the model computes; 'cap' may be less than the model's where no max is given and what is read lies within. -/
theorem bounds_sound (w : World) {sl : Bool} {len cap cap' l hi m : Nat} {lo hg mx : Option AV} {lo' hg' mx' : Option Value} (hb : bounds len cap lo hg mx = some (l, hi, m)) (h1 : ORelO γ lo lo') (h2 : ORelO γ hg hg') (h3 : ORelO γ mx mx') (hc : cap ≤ cap') :
    (Instr.sliceBounds sl len cap' lo' hg' mx').run P w = .ok (l, hi, if mx.isSome then m else cap') w ∧ (mx.isSome = false → m = cap) ∧ m ≤ cap ∧ (len ≤ cap → hi ≤ m) ∧ l ≤ hi := by
  unfold bounds at hb
  unfold Instr.sliceBounds
  split at hb
  · cases hb
  · rename_i hn
    split at hb
    · cases hb
    · rename_i mm em
      split at hb
      · cases hb
      · rename_i q e0
        split at hb
        · cases hb
        · rename_i n e
          cases hb
          cases mx with
          | none =>
            cases mx' with
            | some _ => exact h3.elim
            | none =>
              cases em
              cases hg with
              | none =>
                cases hg' with
                | some _ => exact h2.elim
                | none =>
                  cases e0
                  obtain ⟨g1, g2⟩ := low_run (P := P) (m := cap') (c := .sliceB) w h1 e
                  exact ⟨by simp; simp at g1; exact g1, fun _ => rfl, Nat.le_refl _, fun h => h, g2⟩
              | some x =>
                cases hg' with
                | none => exact h2.elim
                | some x' =>
                  have q1 := wid (P := P) (c := if sl = true then BoundsCode.sliceAcap else .sliceAlen) w hc e0 h2
                  have q2 := (bound_sound (P := P) (c := .sliceB) w e0 h2).2
                  obtain ⟨g1, g2⟩ := low_run (P := P) (m := cap') (c := .sliceB) w h1 e
                  exact ⟨by simp [q1]; simp at g1; exact g1, fun _ => rfl, Nat.le_refl _, fun _ => q2, g2⟩
          | some y =>
            cases mx' with
            | none => exact h3.elim
            | some y' =>
              have m1 := wid (P := P) (c := if sl = true then BoundsCode.slice3Acap else .slice3Alen) w hc em h3
              have m2 := (bound_sound (P := P) (c := .sliceB) w em h3).2
              cases hg with
              | none => simp at hn
              | some x =>
                cases hg' with
                | none => exact h2.elim
                | some x' =>
                  have q1 := bound_sound (P := P) (c := .slice3B) w e0 h2
                  obtain ⟨g1, g2⟩ := low_run (P := P) (m := m) (c := .slice3C) w h1 e
                  exact ⟨by simp [m1, q1.1]; simp at g1; exact g1, fun h => by simp at h, m2, fun _ => q1.2, g2⟩

theorem cut_sound {id off sz b s K z : Nat} (hg : γ id = some (b, s, K, z)) {l hi m : Nat} {v : AV} (hc : cut id off sz (some (l, hi, m)) = some v) :
    VRel γ v (.slice (some (if m = l then (⟨b, s + off, none⟩ : Addr) else (⟨b, s + off, none⟩ : Addr).add (l * sz))) (hi - l) (m - l)) := by
  cases hc
  by_cases h : m = l
  · rw [if_pos h, if_pos h]; exact .slice hg
  · rw [if_neg h, if_neg h, add_none, Nat.add_assoc]; exact .slice hg
theorem cut_sound' {id off sz b s K z : Nat} (hg : γ id = some (b, s, K, z)) {l hi m : Nat} {v : AV} (hc : cut id off sz (some (l, hi, m)) = some v) :
    VRel γ v (.slice (if m = l then some (⟨b, s + off, none⟩ : Addr) else (some (⟨b, s + off, none⟩ : Addr)).map (·.add (l * sz))) (hi - l) (m - l)) := by
  have := cut_sound hg hc
  by_cases h : m = l
  · rw [if_pos h]; rw [if_pos h] at this; exact this
  · rw [if_neg h]; rw [if_neg h] at this; exact this
theorem cut_some {id off sz : Nat} {o : Option (Nat × Nat × Nat)} {v : AV} (h : cut id off sz o = some v) : ∃ l hi m, o = some (l, hi, m) := by
  cases o with
  | none => cases h
  | some x => exact ⟨x.1, x.2.1, x.2.2, rfl⟩
theorem slice_sound (hT : TabOk P T) (hw : WRel T γ h w0 w) {t : TypeId} {x v : AV} {x' : Value} {lo hg mx : Option AV} {lo' hg' mx' : Option Value} (hs : aslice T h t x lo hg mx = some v) (hx : VRel γ x x')
    (h1 : ORelO γ lo lo') (h2 : ORelO γ hg hg') (h3 : ORelO γ mx mx') : ∃ v', (Instr.sliceAt t x' lo' hg' mx').run P w = .ok v' w ∧ VRel γ v v' := by
  unfold aslice at hs
  unfold Instr.sliceAt
  split at hs
  · rename_i n e id off hd
    cases hx with
    | ptr hgm =>
    split at hs
    · rename_i ie he
      obtain ⟨l, hi, m, hb⟩ := cut_some hs
      rw [hb] at hs
      obtain ⟨g1, g2, g3, g4, g5⟩ := bounds_sound (P := P) (sl := false) w hb h1 h2 h3 (Nat.le_refl _)
      simp only [Sem.run_bind, r_desc hT hd (by simp), Result.andThen_ok, Instr.sureAddr, Sem.run_pure, g1, r_sizeOf hT he]
      have hm : (if mx.isSome = true then m else n) = m := by
        cases hmx : mx.isSome
        · simp [g2 hmx]
        · simp
      rw [hm]
      exact ⟨_, rfl, cut_sound hgm hs⟩
    · cases hs
  · rename_i arr id off hd
    cases hx with
    | ptr hgm =>
    split at hs
    · rename_i n e ha
      split at hs
      · rename_i ie he
        obtain ⟨l, hi, m, hb⟩ := cut_some hs
        rw [hb] at hs
        obtain ⟨g1, g2, g3, g4, g5⟩ := bounds_sound (P := P) (sl := false) w hb h1 h2 h3 (Nat.le_refl _)
        simp only [Sem.run_bind, r_desc hT hd (by simp), r_desc hT ha (by simp), Result.andThen_ok, Instr.slice, asAddr, Sem.run_pure, g1, r_sizeOf hT he]
        have hm : (if mx.isSome = true then m else n) = m := by
          cases hmx : mx.isSome
          · simp [g2 hmx]
          · simp
        rw [hm]
        exact ⟨_, rfl, cut_sound hgm hs⟩
      · cases hs
    · cases hs
  · rename_i l0 hd
    cases hx
    split at hs
    · cases hs
    · split at hs
      · rename_i l hi m hb
        cases hs
        cases mx' with
        | some _ => exact h3.elim
        | none =>
          obtain ⟨g1, g2, g3, g4, g5⟩ := bounds_sound (P := P) (sl := false) w hb h1 h2 (mx := none) (mx' := none) trivial (Nat.le_refl _)
          have hsz : (⟨⟨l0⟩⟩ : ByteArray).size = l0.length := rfl
          simp only [Sem.run_bind, r_desc hT hd (by simp), Result.andThen_ok, Instr.slice, Option.isSome_none, Bool.false_eq_true, if_false, hsz, g1, Sem.run_pure]
          refine ⟨_, rfl, ?_⟩
          have : (⟨⟨l0⟩⟩ : ByteArray).extract l hi = ⟨⟨(l0.take hi).drop l⟩⟩ := by
            apply ByteArray.ext
            apply Array.toList_inj.1
            simp [ByteArray.data_extract, List.extract_eq_take_drop, List.drop_take]
          rw [this]; exact .str _
      · cases hs
  · rename_i e hd
    cases hx
    split at hs
    · rename_i ie q he hb
      cases hs
      obtain ⟨l, hi, m⟩ := q
      obtain ⟨g1, g2, g3, g4, g5⟩ := bounds_sound (P := P) (sl := true) w hb h1 h2 h3 (Nat.le_refl _)
      have hm : (if mx.isSome = true then m else 0) = 0 := by split <;> omega
      have hhi : hi = 0 := by have := g4 (Nat.le_refl _); omega
      have hl : l = 0 := by omega
      subst hhi; subst hl
      rw [hm] at g1
      simp only [Sem.run_bind, r_desc hT hd (by simp), Result.andThen_ok, Instr.slice, g1, r_sizeOf hT he, Sem.run_pure]
      exact ⟨_, rfl, .nilSlice⟩
    · cases hs
  · rename_i e id off len cap hd
    cases hx with
    | slice hgm =>
    split at hs
    · rename_i ie he
      obtain ⟨l, hi, m, hb⟩ := cut_some hs
      rw [hb] at hs
      obtain ⟨g1, g2, g3, g4, g5⟩ := bounds_sound (P := P) (sl := true) w hb h1 h2 h3 (Nat.le_refl _)
      have hm : (if mx.isSome = true then m else cap) = m := by
        cases hmx : mx.isSome
        · simp [g2 hmx]
        · simp
      rw [hm] at g1
      simp only [Sem.run_bind, r_desc hT hd (by simp), Result.andThen_ok, Instr.slice, g1, r_sizeOf hT he, Sem.run_pure]
      exact ⟨_, rfl, cut_sound' hgm hs⟩
    · cases hs
  · rename_i e id off len c0 hd
    cases hx with
    | grown hgm hc hl =>
    rename_i cap b s K z
    split at hs
    · rename_i ie cs el he ho
      split at hs
      · cases hs
      · rename_i hcond
        dsimp only at hs
        obtain ⟨_, hz, _, c, e', fz, _, _, _, hK, _⟩ := obj_own hw ho hgm
        have hsz : 0 < ie.size := by omega
        have hz' : z = ie.size := by omega
        have hoff : off ≤ cs.length := by omega
        subst hz'
        have hkn : (cs.length - off) / ie.size ≤ cap := by
          have : cs.length - off ≤ cap * ie.size := by omega
          calc (cs.length - off) / ie.size ≤ (cap * ie.size) / ie.size := Nat.div_le_div_right this
            _ = cap := Nat.mul_div_cancel _ hsz
        split at hs
        · rename_i l hi m hb
          split at hs
          · cases hs
          · rename_i hknown
            obtain ⟨g1, g2, g3, g4, g5⟩ := bounds_sound (P := P) (sl := true) w hb h1 h2 h3 hkn
            simp only [Sem.run_bind, r_desc hT hd (by simp), Result.andThen_ok, Instr.slice, g1, r_sizeOf hT he, Sem.run_pure]
            split at hs
            · cases hs
              rename_i mv
              refine ⟨_, rfl, ?_⟩
              exact cut_sound' (off := off) (sz := ie.size) hgm (l := l) (hi := hi) (m := m) rfl
            · simp only [Option.isSome_none, Bool.false_eq_true, if_false]
              split at hs
              · rename_i hlk
                cases hs
                refine ⟨_, rfl, ?_⟩
                have : hi - l = 0 := by omega
                rw [this]
                split <;> exact .eslice _ _
              · rename_i hlk
                cases hs
                refine ⟨_, rfl, ?_⟩
                have hmul : (cap - l) * ie.size + l * ie.size = cap * ie.size := by rw [← Nat.add_mul]; congr 1; omega
                have := VRel.grown (γ := γ) (off := off + l * ie.size) (len := hi - l) (c := 0) (cap := cap - l) hgm (by omega) (by omega)
                split
                · rename_i hcl
                  have hl0 : l = 0 := by omega
                  subst hl0
                  simpa using this
                · simp only [Option.map_some, add_none]
                  rw [Nat.add_assoc]; exact this
        · cases hs
    · cases hs
  · rename_i e hd
    cases hx
    rename_i a c
    split at hs
    · rename_i ie q he hb
      cases hs
      obtain ⟨l, hi, m⟩ := q
      cases mx' with
      | some _ => exact h3.elim
      | none =>
        obtain ⟨g1, g2, g3, g4, g5⟩ := bounds_sound (P := P) (sl := true) (cap' := c) w hb h1 h2 (mx := none) (mx' := none) trivial (Nat.zero_le _)
        have hhi : hi = 0 := by have := g4 (Nat.le_refl _); omega
        have hl : l = 0 := by omega
        subst hhi; subst hl
        simp only [Option.isSome_none, Bool.false_eq_true, if_false] at g1
        simp only [Sem.run_bind, r_desc hT hd (by simp), Result.andThen_ok, Instr.slice, g1, r_sizeOf hT he, Sem.run_pure]
        refine ⟨_, rfl, ?_⟩
        split <;> exact .eslice _ _
    · cases hs
  · cases hs
end Go.AI
