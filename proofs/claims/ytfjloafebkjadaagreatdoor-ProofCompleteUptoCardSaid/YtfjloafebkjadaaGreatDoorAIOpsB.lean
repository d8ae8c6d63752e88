/- Each operation that makes or writes stands for the model's. -/
import Derived.Test.YtfjloafebkjadaaGreatDoorAIOpsA
import Derived.IntWalk
import Derived.Laws.Externs
/- Operations that make an object. -/
namespace Go.AI
open Go.RowKit (Below)
variable {P : Program} {T : Tab} {γ : Emb} {h : AH} {w0 w : World}

/-- The world has one block more. -/
structure OneMore (w w' : World) (o : Obj) : Prop where
  size : w'.heap.size = w.heap.size + 1
  old : ∀ k, k < w.heap.size → w'.heap[k]? = w.heap[k]?
  new : w'.heap[w.heap.size]? = some o
  os : w'.os = w.os
  tape : w'.tape = w.tape
  output : w'.output = w.output
theorem oneMore_alloc (w : World) (o : Obj) : OneMore w { w with heap := w.heap.push o } o :=
  ⟨by simp, fun k hk => by simp [Array.getElem?_push]; omega, by simp, rfl, rfl, rfl⟩
theorem lrel_cells {l : List AV} {a : Array Value} (h : LRel γ l a.toList) (i : Nat) (v : AV) (hi : l[i]? = some v) : ∃ v', a[i]? = some v' ∧ VRel γ v v' := by
  obtain ⟨v', h1, h2⟩ := h.get hi
  exact ⟨v', by rw [← h1]; simp, h2⟩
theorem lrel_size {l : List AV} {a : Array Value} (h : LRel γ l a.toList) : a.size = l.length := by rw [← h.length]; simp
theorem orel_new {B b : Nat} {e : TypeId} {l : List AV} {a : Array Value} (hl : LRel γ l a.toList) (hB : B ≤ b) : ORel T γ B (some (.cells a e)) b 0 l.length (szOf T e) (.cells l e false) := by
  refine ⟨⟨rfl, Nat.zero_mod _, ofType_cells⟩, a, e, (0, 0), rfl, fun i v hi => ?_, by rw [lrel_size hl]; omega, Nat.le_refl _, fun _ => ⟨hB, fun j _ _ => by omega⟩⟩
  rw [Nat.zero_add]; exact lrel_cells hl i v hi
theorem zeros_get {z : List AV} {z' : Array Value} (hz : LRel γ z z'.toList) : ∀ (n i : Nat) (v : AV), (rep n z)[i]? = some v → VRel γ v (z'[i % z'.size]!)
  | 0, i, v, h => by simp [rep] at h
  | n + 1, i, v, h => by
    rw [rep, List.getElem?_append] at h
    have hs := lrel_size hz
    split at h
    · rename_i hi
      obtain ⟨v', h1, h2⟩ := lrel_cells hz i v h
      rw [hs, Nat.mod_eq_of_lt hi]
      rw [getElem!_def, h1]; exact h2
    · rename_i hi
      have h0 : 0 < z.length := by
        rcases Nat.eq_zero_or_pos z.length with h0 | h0
        · have h2 := List.getElem?_eq_some_iff.1 h
          obtain ⟨h2, _⟩ := h2
          rw [rep_length, h0, Nat.mul_zero] at h2
          omega
        · exact h0
      have := zeros_get hz n (i - z.length) v h
      rw [hs] at this ⊢
      rwa [← Nat.mod_eq_sub_mod (by omega)] at this
theorem zeros_rel {z : List AV} {z' : Array Value} (hz : LRel γ z z'.toList) (n : Nat) : LRel γ (rep n z) ((Array.range (n * z.length)).map (fun i => z'[i % z'.size]!)).toList := by
  refine LRel.of_get (by simp [rep_length]) fun i v hi => ?_
  have hlt : i < n * z.length := by
    obtain ⟨h1, _⟩ := List.getElem?_eq_some_iff.1 hi
    rwa [rep_length] at h1
  exact ⟨z'[i % z'.size]!, by simp [hlt], zeros_get hz n i v hi⟩
/-- What a fresh operation does. -/
def FreshOk (P : Program) (T : Tab) (γ : Emb) (B : Nat) (w : World) (s : Sem Next) (o : AObj) (mk : Mk) : Prop :=
  ∃ v' w' ob K z, s.run P w = .ok (.value v') w' ∧ OneMore w w' ob ∧ ∀ γ' : Emb, γ.le γ' → (∀ id, γ' id = some (w.heap.size, 0, K, z) → VRel γ' (mk.av id) v') ∧ ORel T γ' B (some ob) w.heap.size 0 K z o
theorem fresh_row {B : Nat} (hB : B ≤ w.heap.size) {e : TypeId} {l : List AV} {a : Array Value} (hl : LRel γ l a.toList) : FreshOk P T γ B w (do pure (.value (.pointer (some (← newRow e a))))) (.cells l e false) .ptr :=
  ⟨_, _, _, l.length, szOf T e, by simp [newRow], oneMore_alloc w (.cells a e), fun γ' hg => ⟨fun id hid => .ptr hid, orel_new (hl.mono hg) hB⟩⟩
theorem fresh_slice {B : Nat} (hB : B ≤ w.heap.size) {e : TypeId} {l : List AV} {a : Array Value} (hl : LRel γ l a.toList) (n c : Nat) : FreshOk P T γ B w (do pure (.value (.slice (some (← newRow e a)) n c))) (.cells l e false) (.slice n c true) :=
  ⟨_, _, _, l.length, szOf T e, by simp [newRow], oneMore_alloc w (.cells a e), fun γ' hg => ⟨fun id hid => .slice hid, orel_new (hl.mono hg) hB⟩⟩
theorem FreshOk.of_run {B : Nat} {s s' : Sem Next} {o : AObj} {mk : Mk} (h : FreshOk P T γ B w s o mk) (he : s'.run P w = s.run P w) : FreshOk P T γ B w s' o mk := by
  obtain ⟨v', w', ob, K, z, h1, h2⟩ := h
  exact ⟨v', w', ob, K, z, he.trans h1, h2⟩
theorem wrap_id {n : Int} (h0 : 0 ≤ n) (h1 : n ≤ 2 ^ 40) : IntKind.i64.wrap n = n := IntWalk.i64_in n (by omega)
theorem bytes_fresh (hT : TabOk P T) {B : Nat} {sr d e : TypeId} {si : TInfo} {l : List UInt8} {v : Value} (hs : T.tt.get sr = some si) (hd : descOf T d = .slice e) (hb : isByte T e = true) (hz : szOf T e = 1) (hB : B ≤ w.heap.size) (hv : v = .string ⟨⟨l⟩⟩) :
    FreshOk P T γ B w (do pure (.value (← convert sr d v))) (.cells (l.map fun b => .int .u8 b.toNat) e false) (.slice l.length 0 false) := by
  subst hv
  have hsz : (⟨⟨l⟩⟩ : ByteArray).size = l.length := rfl
  obtain ⟨cap, hcap, hle⟩ : ∃ cap, cap = (Question.appendCap l.length 0 e).cut (w.tape w.drawn (.appendCap l.length 0 e)) ∧ l.length ≤ cap := ⟨_, rfl, by simp [Question.cut]⟩
  have hrun : (convert sr d (.string ⟨⟨l⟩⟩)).run P w = (Conv.stringToBytes e ⟨⟨l⟩⟩).run P w := by
    unfold convert
    simp only [Sem.run_bind, r_underlying hT hs, r_desc hT hd (by simp), Result.andThen_ok]
    cases si.desc <;> simp only [r_desc hT (isByte_desc hb) (by simp), Result.andThen_ok]
  let C : Array Value := ((⟨⟨l⟩⟩ : ByteArray).data.map fun b => Value.int .u8 b.toNat) ++ Array.replicate (cap - l.length) (.int .u8 0)
  have hC : C.size = cap := by simp [C]; omega
  refine ⟨.slice (some ⟨w.heap.size, 0, none⟩) l.length cap, ((w.drew).alloc (.cells C e)).freeze ⟨w.heap.size, C.size, none⟩ 1, .cells C e (C.size, C.size + 1), cap, 1, ?_, ?_, fun γ' hg => ⟨fun id hid => ?_, ?_⟩⟩
  · simp only [Sem.run_bind, hrun, Conv.stringToBytes, hsz]
    simp only [run_choose, Question.forced, Bool.false_eq_true, if_false, Result.andThen_ok, ← hcap, newRow, Sem.run_bind, run_newObj, Sem.run_pure, markStringish, run_shape]
    simp only [World.shape?, Array.getElem?_push_size, run_freeze, Result.andThen_ok]
    rfl
  · have e1 : ∀ W : World, ∀ a : Addr, (W.freeze a 1).heap.size = W.heap.size := fun W a => by simp only [World.freeze]; rw [if_neg (by omega)]; simp
    refine ⟨by rw [e1]; simp, fun k hk => ?_, ?_, rfl, rfl, rfl⟩
    · simp only [World.freeze, World.alloc, World.drew]
      rw [if_neg (by omega), Array.getElem?_modify, if_neg (by omega), Array.getElem?_push, if_neg (by omega)]
    · simp only [World.freeze, World.alloc, World.drew]
      rw [if_neg (by omega), Array.getElem?_modify, if_pos rfl, Array.getElem?_push_size]
      simp
  · have := VRel.grown (γ := γ') (off := 0) (len := l.length) (c := 0) (cap := cap) hid (by omega) hle
    rw [Nat.add_zero] at this
    exact this
  · refine ⟨⟨hz.symm, Nat.zero_mod _, ofType_cells⟩, C, e, (C.size, C.size + 1), rfl, fun i v hi => ?_, by omega, by simp; omega, fun _ => ⟨hB, fun j _ hj => by omega⟩⟩
    rw [List.getElem?_map, Option.map_eq_some_iff] at hi
    obtain ⟨b, h1, rfl⟩ := hi
    obtain ⟨hlt, _⟩ := List.getElem?_eq_some_iff.1 h1
    refine ⟨_, ?_, .int _ _⟩
    rw [Nat.zero_add]
    simp only [C]
    rw [Array.getElem?_append_left (by simpa using hlt)]
    simp [h1]
theorem fresh_sound (hT : TabOk P T) (hw : WRel T γ h w0 w) {env : Env} {ρ : Operand → Value} {o : Oper} (hρ : ∀ x ∈ o.op.operands.toList, VRel γ (aev env x) (ρ x)) {b : AObj} {mk : Mk} (hv : afresh T env o.op = some (b, mk)) :
    FreshOk P T γ w0.heap.size w (execOp ρ o) b mk := by
  have hB : w0.heap.size ≤ w.heap.size := hw.below.size
  unfold execOp
  cases ho : o.op <;> rw [ho] at hv hρ <;> simp only [afresh] at hv <;> (try (cases hv; done))
  case alloc e =>
    split at hv
    · rename_i i hi
      cases hv
      obtain ⟨z, h1, h2, h3, h4⟩ := r_zero hT hi w
      have hl : LRel γ i.zero z.cells.toList := by rw [h2]; exact (toAV_rel γ z).cells h4
      exact (fresh_row hB hl).of_run (by simp [Instr.alloc, h1, newVar])
    · cases hv
  case box e x =>
    split at hv
    · rename_i i hi
      split at hv
      · rename_i hk
        cases hv
        have hl : LRel γ (aev env x).cells (ρ x).cells.toList := (hρ x (by simp [Op.operands])).cells (known_ne hk)
        exact (fresh_row hB hl).of_run (by simp [Instr.box, newVar])
      · cases hv
    · cases hv
  case buildSlice t n ps =>
    unfold abuildSlice at hv
    split at hv
    · rename_i e hd
      split at hv
      · rename_i ei he
        split at hv
        · rename_i hc
          split at hv
          · rename_i cs hf
            cases hv
            obtain ⟨z, h1, h2, h3, h4⟩ := r_zero hT he w
            have hz : LRel γ ei.zero z.cells.toList := by rw [h2]; exact (toAV_rel γ z).cells h4
            have hp : PRel γ (ps.toList.map fun p => (p.1, aev env p.2)) (ps.map fun p => (p.1, ρ p.2)).toList := by
              rw [toArray_map]
              exact prel_map fun x hx => hρ x (by simpa [Op.operands] using hx)
            have hz0 : ∀ z' : Array Value, (n * ei.size = 0 ∨ z' = z.cells) → LRel γ (rep n ei.zero) ((Array.range (n * ei.size)).map (fun i => z'[i % z'.size]!)).toList := by
              intro z' hz'
              rcases hz' with h0 | rfl
              · have : rep n ei.zero = [] := List.length_eq_zero_iff.1 (by rw [rep_length, hc.2]; exact h0)
                rw [this, h0]; simp; exact .nil
              · have := zeros_rel hz n
                rwa [hc.2] at this
            by_cases h0 : n * ei.size = 0
            · obtain ⟨r', g1, g2⟩ := fill_rel (γ := γ) (place' := fun i => some (i * ei.size, ei.size)) (fun i => rfl) hp (hz0 #[] (.inl h0)) hf
              refine (fresh_slice hB g2 n n).of_run ?_
              simp only [Instr.buildSlice, Sem.run_bind, r_desc hT hd (by simp), Result.andThen_ok, r_sizeOf hT he]
              rw [if_neg (by omega), if_pos h0]
              simp only [Sem.run_pure, Result.andThen_ok, Sem.run_bind]
              rw [h0] at g1 ⊢
              erw [g1]
              simp [newRow]
            · obtain ⟨r', g1, g2⟩ := fill_rel (γ := γ) (place' := fun i => some (i * ei.size, ei.size)) (fun i => rfl) hp (hz0 z.cells (.inr rfl)) hf
              refine (fresh_slice hB g2 n n).of_run ?_
              simp only [Instr.buildSlice, Sem.run_bind, r_desc hT hd (by simp), Result.andThen_ok, r_sizeOf hT he]
              rw [if_neg (by omega), if_neg h0]
              simp only [Sem.run_pure, Result.andThen_ok, Sem.run_bind, h1]
              erw [g1]
              simp [newRow]
          · cases hv
        · cases hv
      · cases hv
    · cases hv
  case makeMap t r =>
    have core : FreshOk P T γ w0.heap.size w (do pure (.value (.map (some (← newObj (.map #[] 0)))))) (.map [] 0) .map :=
      ⟨_, _, _, 0, 0, by simp, oneMore_alloc w _, fun γ' hg => ⟨fun id hid => .map hid, hB, #[], rfl, .nil⟩⟩
    cases r with
    | none =>
      simp only at hv
      split at hv
      · cases hv
        exact core.of_run (by simp [Instr.makeMap])
      · cases hv
    | some x =>
      simp only at hv
      split at hv
      · rename_i k e kk n hd hx
        cases hv
        have hx' := hρ x (by simp [Op.operands])
        rw [hx] at hx'
        have := rel_int hx'
        refine core.of_run ?_
        simp [Instr.makeMap, this, r_desc hT hd (by simp), asInt, asIntOf]
      · cases hv
  case makeSlice t l c =>
    unfold amakeSlice at hv
    split at hv
    · rename_i e kl l0 kc c0 hd hl hc
      split at hv
      · rename_i ei he
        split at hv
        · rename_i hcond
          obtain ⟨c1, c2, c3, c4, c5⟩ := hcond
          cases hv
          have hl' := hρ l (by simp [Op.operands])
          have hc' := hρ c (by simp [Op.operands])
          rw [hl] at hl'; rw [hc] at hc'
          have el := rel_int hl'
          have ec := rel_int hc'
          obtain ⟨info, z, h1, h2, h3, h4, h5, h6, h7, h8⟩ := r_info hT he w
          have hz : LRel γ ei.zero z.cells.toList := by rw [h6]; exact (toAV_rel γ z).cells h8
          have hzv : (zeroValue e).run P w = .ok z w := by simp [zeroValue, h1, h5]
          have wl := wrap_id c1 (by omega)
          have wc := wrap_id (Int.le_trans c1 c2) c3
          have hmb : (maxBytes : Int) = 70368744177664 := by decide
          have hbc : ((info.bytes : Int) * c0 : Int) = c0 * ei.bytes := by rw [h4, Int.mul_comm]
          have hbl : ((info.bytes : Int) * l0 : Int) ≤ 70368744177664 := by
            have : (info.bytes : Int) * l0 ≤ info.bytes * c0 := Int.mul_le_mul_of_nonneg_left c2 (by omega)
            omega
          have t1 : ¬ ((decide (c0 < 0) || decide ((info.bytes : Int) * c0 > 2 ^ 48) || decide (l0 < 0) || decide (l0 > c0)) = true) := by
            simp; omega
          by_cases h0 : c0.toNat * ei.size = 0
          · have hrep : rep c0.toNat ei.zero = [] := List.length_eq_zero_iff.1 (by rw [rep_length, c5]; exact h0)
            have hlr : LRel γ (rep c0.toNat ei.zero) ((Array.range (c0.toNat * ei.size)).map (fun i => (#[] : Array Value)[i % (#[] : Array Value).size]!)).toList := by
              rw [hrep, h0]; simp; exact .nil
            refine (fresh_slice hB hlr l0.toNat c0.toNat).of_run ?_
            simp only [Instr.makeSlice, Sem.run_bind, r_desc hT hd (by simp), Result.andThen_ok, el, ec, asInt, asIntOf, Sem.run_pure, h1, wl, wc]
            rw [if_neg t1]
            simp only [Sem.run_bind, run_askRoom, Result.andThen_ok, r_sizeOf hT he]
            rw [if_pos h0]
            simp [newRow]
          · have hlr := zeros_rel hz c0.toNat
            rw [c5] at hlr
            refine (fresh_slice hB hlr l0.toNat c0.toNat).of_run ?_
            simp only [Instr.makeSlice, Sem.run_bind, r_desc hT hd (by simp), Result.andThen_ok, el, ec, asInt, asIntOf, Sem.run_pure, h1, wl, wc]
            rw [if_neg t1]
            simp only [Sem.run_bind, run_askRoom, Result.andThen_ok, r_sizeOf hT he]
            rw [if_neg h0]
            simp [hzv, newRow]
        · cases hv
      · cases hv
    · cases hv
  case convert s d x =>
    split at hv
    · rename_i si e l hsr hd hx
      split at hv
      · rename_i hc
        cases hv
        have hx' := hρ x (by simp [Op.operands])
        rw [hx] at hx'
        exact bytes_fresh hT hsr hd hc.1 hc.2 hB (rel_str hx')
      · cases hv
    · cases hv
end Go.AI
/- Operations that act: maps and iterators. -/
namespace Go.AI
open Go.RowKit (Below)
variable {P : Program} {T : Tab} {γ : Emb} {h : AH} {w0 w : World}

/-- Up to n nothing has been bound anew. -/
def Ext (n : Nat) (γ γ' : Emb) : Prop := ∀ id, id < n → γ' id = γ id
theorem Ext.refl (n : Nat) (γ : Emb) : Ext n γ γ := fun _ _ => rfl
theorem Ext.trans {n m : Nat} {a b c : Emb} (h : Ext n a b) (k : Ext m b c) (hnm : n ≤ m) : Ext n a c := fun id hid => (k id (by omega)).trans (h id hid)
theorem Ext.le (hw : WRel T γ h w0 w) {γ' : Emb} (he : Ext h.next γ γ') : γ.le γ' := fun id x e => by rw [he id (hw.dom _ _ e)]; exact e
/-- What an operation that acts, or a call, comes to. -/
def Out (P : Program) (T : Tab) (γ : Emb) (h : AH) (w0 w : World) (s : Sem Next) (v : AV) (h' : AH) : Prop :=
  ∃ nx v' w' γ', s.run P w = .ok nx w' ∧ (nx = .value v' ∨ (nx = .skip ∧ v' = undef)) ∧ Ext h.next γ γ' ∧ h.next ≤ h'.next ∧ WRel T γ' h' w0 w' ∧ VRel γ' v v'

def setW (w : World) (b : Nat) (o : Obj) : World := { w with heap := w.heap.setIfInBounds b o }
theorem setObj_run {b : Nat} {o o' : Obj} (hb : w.heap[b]? = some o) (hc : ∀ c e f, o ≠ .cells c e f) : (setObj b o').run P w = .ok () (setW w b o') := by
  simp only [setObj, Sem.run, hb]
  cases o <;> first
    | rfl
    | exact absurd rfl (hc _ _ _)
theorem WRel.setW (hw : WRel T γ h w0 w) {id b s K z : Nat} {o o' : AObj} {ob : Obj} (hg : γ id = some (b, s, K, z)) (ho : h.t.get id = some o) (hd : o ≠ .dead) (hB : w0.heap.size ≤ b) (hr : ORel T γ w0.heap.size (some ob) b s K z o') : WRel T γ (h.upd id o') w0 (setW w b ob) := by
  obtain ⟨_, _, hlt, _⟩ := hw.obj _ _ _ _ _ hg
  refine hw.update hg ho hd hB (by simp [AI.setW]) (fun k hk => ?_) rfl rfl rfl ?_
  · simp only [AI.setW]; rw [Array.getElem?_setIfInBounds_ne (by omega)]
  · have : (AI.setW w b ob).heap[b]? = some ob := by simp [AI.setW, hlt]
    rw [this]; exact hr

theorem ERel.get {γ : Emb} : ∀ {l : List AEntry} {l' : List MapEntry}, ERel γ l l' → ∀ {i : Nat} {e : AEntry}, l[i]? = some e → ∃ e', l'[i]? = some e' ∧ VRel γ e.key e'.key ∧ VRel γ e.val e'.val ∧ e'.born = e.born
  | _, _, .nil, i, e, h => by simp at h
  | _, _, .cons a b c t, 0, e, h => by simp at h; subst h; exact ⟨_, by simp, a, b, c⟩
  | _, _, .cons a b c t, i + 1, e, h => by
    simp at h
    obtain ⟨e', h1, h2⟩ := ERel.get t h
    exact ⟨e', by simpa using h1, h2⟩
theorem ERel.append {γ : Emb} : ∀ {l m : List AEntry} {l' m' : List MapEntry}, ERel γ l l' → ERel γ m m' → ERel γ (l ++ m) (l' ++ m')
  | _, _, _, _, .nil, h => h
  | _, _, _, _, .cons a b c t, h => .cons a b c (ERel.append t h)
theorem ERel.modify {γ : Emb} {f : AEntry → AEntry} {f' : MapEntry → MapEntry} (hf : ∀ e e', VRel γ e.key e'.key → VRel γ e.val e'.val → e'.born = e.born → VRel γ (f e).key (f' e').key ∧ VRel γ (f e).val (f' e').val ∧ (f' e').born = (f e).born) :
    ∀ {l : List AEntry} {l' : List MapEntry} (i : Nat), ERel γ l l' → ERel γ (modEntry f l i) (l'.modify i f')
  | _, _, i, .nil => by simp [modEntry]; exact .nil
  | _, _, 0, .cons a b c t => by
    obtain ⟨h1, h2, h3⟩ := hf _ _ a b c
    exact .cons h1 h2 h3 t
  | _, _, i + 1, .cons a b c t => .cons a b c (ERel.modify hf i t)
theorem ERel.eraseIdx {γ : Emb} : ∀ {l : List AEntry} {l' : List MapEntry} (i : Nat), ERel γ l l' → ERel γ (l.eraseIdx i) (l'.eraseIdx i)
  | _, _, _, .nil => .nil
  | _, _, 0, .cons _ _ _ t => t
  | _, _, i + 1, .cons a b c t => .cons a b c (ERel.eraseIdx i t)
theorem findkey_at {d : TypeId × TypeDesc} {k : AV} : ∀ {es : List AEntry} {i0 i : Nat} {v : AV}, findkey T d k es i0 = some (some (i, v)) → ∃ e, i0 ≤ i ∧ es[i - i0]? = some e ∧ samekey T d k e.key = some true ∧ e.val = v
  | [], i0, i, v, h => by simp [findkey] at h
  | e :: es, i0, i, v, h => by
    unfold findkey at h
    split at h
    · rename_i hs; cases h; exact ⟨e, Nat.le_refl _, by simp, hs, rfl⟩
    · obtain ⟨e', h1, h2, h3, h4⟩ := findkey_at h
      refine ⟨e', by omega, ?_, h3, h4⟩
      have : i - i0 = (i - (i0 + 1)) + 1 := by omega
      rw [this, List.getElem?_cons_succ]; exact h2
    · cases h
theorem sameInts_eq : ∀ {a b : List AV} {a' b' : List Value}, sameInts a b = true → LRel γ a a' → LRel γ b b' → b' = a' ∧ ∀ n, (b'.zip a').all (fun (x, y) => Instr.sameBits n x y) = true
  | [], [], _, _, _, .nil, .nil => ⟨rfl, fun _ => rfl⟩
  | .int k x :: xs, .int k' y :: ys, _, _, h, .cons hx tx, .cons hy ty => by
    simp only [sameInts, Bool.and_eq_true, decide_eq_true_eq, beq_iff_eq] at h
    obtain ⟨⟨rfl, rfl⟩, h3⟩ := h
    cases hx; cases hy
    obtain ⟨h4, h5⟩ := sameInts_eq h3 tx ty
    refine ⟨by rw [h4], fun n => ?_⟩
    simp only [List.zip_cons_cons, List.all_cons, h5 n, Bool.and_true]
    cases n <;> simp [Instr.sameBits]
theorem samekey_eq {d : TypeId × TypeDesc} {k e : AV} {k' e' : Value} (h : samekey T d k e = some true) (hk : VRel γ k k') (he : VRel γ e e') : e' = k' ∧ Instr.sameBits 10000 e' k' = true := by
  unfold samekey at h
  split at h
  · cases hk; cases he
    split at h
    · rename_i hkk; subst hkk
      simp only [Option.some.injEq, beq_iff_eq] at h; subst h
      exact ⟨rfl, by simp [Instr.sameBits]⟩
    · cases h
  · cases hk; cases he
    simp only [Option.some.injEq, beq_iff_eq] at h; subst h
    exact ⟨rfl, by simp [Instr.sameBits, bytes_beq]⟩
  · cases hk; cases he
    simp only [Option.some.injEq, beq_iff_eq] at h; subst h
    exact ⟨rfl, by simp [Instr.sameBits]⟩
  · cases hk with
    | agg hk =>
    cases he with
    | agg he =>
    split at h
    · split at h
      · rename_i hs
        obtain ⟨h1, h2⟩ := sameInts_eq hs hk he
        refine ⟨by rw [h1], ?_⟩
        have : ∀ a b : Array Value, Instr.sameBits 10000 (.agg a) (.agg b) = (a.size == b.size && (a.toList.zip b.toList).all fun (x, y) => Instr.sameBits 9999 x y) := fun _ _ => rfl
        rw [this, h2 9999, h1]; simp
      · cases h
    · rename_i hne; exact absurd h hne
  · cases h
theorem keyStays {n : Nat} {old new : Value} (h : Instr.sameBits n old new = true) (hn : n = 10000) : (Instr.keyThatStays old new).run P w = .ok new w := by
  subst hn
  unfold Instr.keyThatStays
  rw [if_pos h]; rfl
theorem mapUpdate_sound (hT : TabOk P T) (hw : WRel T γ h w0 w) {t : TypeId} {m k v : AV} {m' k' v' : Value} {h' : AH} (hs : amapUpdate T h t m k v = some h') (hm : VRel γ m m') (hk : VRel γ k k') (hv : VRel γ v v') :
    ∃ w', (Instr.mapUpdate t m' k' v').run P w = .ok () w' ∧ h'.next = h.next ∧ WRel T γ h' w0 w' := by
  unfold amapUpdate at hs
  split at hs
  · rename_i r kd z hkd
    obtain ⟨et, Q⟩ := keyed_sound hT (γ := γ) (k' := k') hkd hk w
    cases hm with
    | map hg =>
    split at hs
    · rename_i es c he
      obtain ⟨ho, hB, es', h2, h3⟩ := obj_map hw he hg
      unfold Instr.mapUpdate
      simp only [Sem.run_bind, Q.map, Result.andThen_ok, run_getObj_map' h2, Q.check]
      split at hs
      · rename_i i u hf
        cases hs
        obtain ⟨r', g1, g2⟩ := findkey_sound hT w Q.key hk h3 hf
        rw [g1]
        cases r' with
        | none => exact g2.elim
        | some x =>
          obtain ⟨j, u'⟩ := x
          obtain ⟨rfl, g3⟩ := g2
          obtain ⟨e, _, k1, k2, _⟩ := findkey_at hf
          rw [Nat.sub_zero] at k1
          obtain ⟨e', k3, k4, _, _⟩ := h3.get k1
          obtain ⟨k5, k6⟩ := samekey_eq k2 hk k4
          have k3' : es'[i]? = some e' := by rw [← k3]; simp
          simp only [Result.andThen_ok, Sem.run_bind, k3', Option.map_some, Option.getD_some]
          rw [keyStays k6 rfl]
          simp only [Result.andThen_ok]
          rw [setObj_run h2 (by simp)]
          refine ⟨_, rfl, rfl, hw.setW hg ho (by simp) hB ⟨hB, _, rfl, ?_⟩⟩
          rw [Array.toList_modify]
          refine ERel.modify ?_ i h3
          intro e e' a b c
          exact ⟨hk, hv, c⟩
      · rename_i hf
        cases hs
        obtain ⟨r', g1, g2⟩ := findkey_sound hT w Q.key hk h3 hf
        rw [g1]
        cases r' with
        | some x => exact g2.elim
        | none =>
          simp only [Result.andThen_ok]
          rw [setObj_run h2 (by simp)]
          refine ⟨_, rfl, rfl, hw.setW hg ho (by simp) hB ⟨hB, _, rfl, ?_⟩⟩
          rw [Array.toList_push]
          exact h3.append (.cons hk hv rfl .nil)
      · cases hs
    · cases hs
  · cases hs
theorem mapEntry_sound (hT : TabOk P T) (hw : WRel T γ h w0 w) {t : TypeId} {m k v : AV} {m' k' : Value} {h' : AH} (hs : amapEntry T h t m k = some (v, h')) (hm : VRel γ m m') (hk : VRel γ k k') :
    ∃ v' w', (Instr.mapEntry t m' k').run P w = .ok v' w' ∧ h'.next = h.next ∧ WRel T γ h' w0 w' ∧ VRel γ v v' := by
  unfold amapEntry at hs
  split at hs
  · rename_i r kd z hkd
    obtain ⟨et, Q⟩ := keyed_sound hT (γ := γ) (k' := k') hkd hk w
    obtain ⟨z', z1, z2⟩ := Q.zero
    cases hm with
    | map hg =>
    split at hs
    · rename_i es c he
      obtain ⟨ho, hB, es', h2, h3⟩ := obj_map hw he hg
      unfold Instr.mapEntry
      simp only [Sem.run_bind, Q.map, Result.andThen_ok, run_getObj_map' h2, Q.check]
      split at hs
      · rename_i i u hf
        obtain ⟨e, _, k1, k2, k7⟩ := findkey_at hf
        rw [Nat.sub_zero] at k1
        rw [lget_eq, k1] at hs
        cases hs
        obtain ⟨r', g1, g2⟩ := findkey_sound hT w Q.key hk h3 hf
        rw [g1]
        cases r' with
        | none => exact g2.elim
        | some x =>
          obtain ⟨j, u'⟩ := x
          obtain ⟨rfl, g3⟩ := g2
          obtain ⟨e', k3, k4, _, k8⟩ := h3.get k1
          obtain ⟨k5, k6⟩ := samekey_eq k2 hk k4
          have k3' : es'[i]? = some e' := by rw [← k3]; simp
          simp only [Result.andThen_ok, Sem.run_bind, k3', Option.map_some, Option.getD_some]
          rw [keyStays k6 rfl]
          simp only [Result.andThen_ok]
          rw [setObj_run h2 (by simp)]
          refine ⟨_, _, rfl, rfl, hw.setW hg ho (by simp) hB ⟨hB, _, rfl, ?_⟩, ?_⟩
          · rw [Array.toList_modify]
            refine ERel.modify ?_ i h3
            intro e e' a b c
            exact ⟨hk, b, c⟩
          · rw [k8]; exact .tuple (.cons g3 (.cons (.int _ _) .nil))
      · rename_i hf
        cases hs
        obtain ⟨r', g1, g2⟩ := findkey_sound hT w Q.key hk h3 hf
        rw [g1]
        cases r' with
        | some x => exact g2.elim
        | none =>
          simp only [Result.andThen_ok, Sem.run_bind, z1]
          rw [setObj_run h2 (by simp)]
          refine ⟨_, _, rfl, rfl, hw.setW hg ho (by simp) hB ⟨hB, _, rfl, ?_⟩, .tuple (.cons z2 (.cons (.int _ _) .nil))⟩
          rw [Array.toList_push]
          exact h3.append (.cons hk z2 rfl .nil)
      · cases hs
    · cases hs
  · cases hs
theorem findBorn_eq {γ : Emb} (b : Int) : ∀ {l : List AEntry} {l' : List MapEntry}, ERel γ l l' → ∀ i, (findBorn b l i).map (· - i) = l'.findIdx? (fun e => (e.born : Int) == b) ∧ (∀ j, findBorn b l i = some j → i ≤ j)
  | _, _, .nil, i => by simp [findBorn]
  | _, _, .cons (e := e) (e' := e') (es := es) (es' := es') a c d t, i => by
    have ih := findBorn_eq b t (i + 1)
    unfold findBorn
    rw [List.findIdx?_cons, d]
    split
    · simp
    · refine ⟨?_, fun j hj => by have := ih.2 j hj; omega⟩
      rw [← ih.1]
      cases hf : findBorn b es (i + 1) with
      | none => rfl
      | some j => have := ih.2 j hf; simp; omega
theorem entryStore_sound (hw : WRel T γ h w0 w) {t : TypeId} {m s v : AV} {m' s' v' : Value} {h' : AH} (hs : aentryStore h m s v = some h') (hm : VRel γ m m') (hb : VRel γ s s') (hv : VRel γ v v') :
    ∃ w', (Instr.entryStore t m' s' v').run P w = .ok () w' ∧ h'.next = h.next ∧ WRel T γ h' w0 w' := by
  unfold aentryStore at hs
  split at hs
  · rename_i r kk b
    cases hb
    cases hm with
    | map hg =>
    split at hs
    · rename_i es c he
      obtain ⟨ho, hB, es', h2, h3⟩ := obj_map hw he hg
      split at hs
      · rename_i i hf
        cases hs
        have := (findBorn_eq b h3 0).1
        rw [hf] at this
        simp only [Option.map_some, Nat.sub_zero] at this
        have hidx : es'.findIdx? (fun e => (e.born : Int) == b) = some i := by rw [this, ← List.findIdx?_toArray]
        unfold Instr.entryStore
        simp only [Sem.run_bind, run_getObj_map' h2, Result.andThen_ok, asInt, asIntOf, Sem.run_pure, hidx]
        rw [setObj_run h2 (by simp)]
        refine ⟨_, rfl, rfl, hw.setW hg ho (by simp) hB ⟨hB, _, rfl, ?_⟩⟩
        rw [Array.toList_modify]
        refine ERel.modify ?_ i h3
        intro e e' a b c
        exact ⟨a, hv, c⟩
      · cases hs
    · cases hs
  · cases hs
end Go.AI
/- append, copy, clear, delete, next. -/
namespace Go.AI
open Go.RowKit (Below)
variable {P : Program} {T : Tab} {γ : Emb} {h : AH} {w0 w : World}

theorem lenOf_sound (w : World) {x : AV} {x' : Value} {n : Nat} (hn : alenOf x = some n) (hx : VRel γ x x') : (Builtin.lenOf x').run P w = .ok n w := by
  unfold alenOf at hn
  split at hn <;> cases hn <;> cases hx <;> rfl
theorem first_sound (hw : WRel T γ h w0 w) {x : AV} {x' : Value} {size n : Nat} {new : List AV} (hf : afirst h size n x = some new) (hx : VRel γ x x') :
    ∃ L : List Value, LRel γ new L ∧ ∀ w1 : World, (∀ a, w1.cell? a = w.cell? a) → (Builtin.firstCells size n x').run P w1 = .ok L.toArray w1 := by
  have core : ∀ {id off len c b s K z : Nat}, γ id = some (b, s, K, z) → (match cellsOf h id with | some cs => sub cs off (n * size) | none => none) = some new →
      ∃ L : List Value, LRel γ new L ∧ ∀ w1 : World, (∀ a, w1.cell? a = w.cell? a) → (Builtin.firstCells size n (.slice (some ⟨b, s + off, none⟩) len c)).run P w1 = .ok L.toArray w1 := by
    intro id off len c b s K z hg hc
    split at hc
    · rename_i cs hcs
      obtain ⟨L, h1, h2, h3⟩ := stretch hw hcs hg hc
      exact ⟨L, h1, fun w1 he => run_firstCells_some w1 size n _ len c L h2 (fun j v hj => by rw [he]; exact h3 j v hj)⟩
    · cases hc
  unfold afirst at hf
  split at hf
  · cases hx with
    | slice hg => exact core hg hf
    | grown hg _ _ => exact core hg hf
  · cases hx
    split at hf
    · cases hf; exact ⟨[], .nil, fun w1 _ => by simp [Builtin.firstCells]⟩
    · cases hf
  · cases hx
    rename_i a c
    split at hf
    · rename_i hn0; subst hn0
      cases hf; exact ⟨[], .nil, fun w1 _ => run_firstCells_some w1 size 0 a 0 c [] (by simp) (by simp)⟩
    · cases hf
  · rename_i l
    cases hx
    split at hf
    · rename_i hn
      cases hf
      refine ⟨(l.take n).map fun b => .int .u8 b.toNat, ?_, fun w1 _ => ?_⟩
      · exact LRel.of_get (by simp) fun i v hi => by
          rw [List.getElem?_map, Option.map_eq_some_iff] at hi
          obtain ⟨b, h1, rfl⟩ := hi
          exact ⟨_, by rw [List.getElem?_map, h1]; rfl, .int _ _⟩
      · simp only [Builtin.firstCells, Sem.run_pure]
        congr 1
        apply Array.toList_inj.1
        simp [ByteArray.data_extract, List.extract_eq_take_drop]
    · cases hf
  · cases hf
section
variable {ts : Array TypeId} {t xt e ty : TypeId} {d : TypeDesc} {size n sLen sCap : Nat} {x : Value} {base : Option Addr} {L : List Value}
theorem append_fits (h0 : ts[0]? = some t) (h1 : ts[1]? = some xt) (ht : (underlying t).run P w = .ok (.slice e) w) (hx : (underlying xt).run P w = .ok d w) (hd : ∀ k, d ≠ .int k)
    (hsz : (Go.sizeOf e).run P w = .ok size w) (hn : (Builtin.lenOf x).run P w = .ok n w) (hf : (Builtin.firstCells size n x).run P w = .ok L.toArray w) (hfit : sLen + n ≤ sCap) :
    (Builtin.append_ ts ty #[.slice base sLen sCap, x]).run P w = ((match base with | some a => storeCells (a.add (sLen * size)) L | none => pure () : Sem Unit).run P w).andThen fun _ w' => .ok (.slice base (sLen + n) sCap) w' := by
  unfold Builtin.append_
  have a0 : (#[.slice base sLen sCap, x] : Array Value)[0]? = some (.slice base sLen sCap) := rfl
  have a1 : (#[.slice base sLen sCap, x] : Array Value)[1]? = some x := rfl
  simp only [h0, h1, a0, a1, Sem.run_bind, ht, hx, Result.andThen_ok, hsz, Sem.run_pure, Bool.false_eq_true, if_false, hn, Bool.not_false, if_true]
  rw [if_pos hfit]
  simp only [Sem.run_bind, hf, Result.andThen_ok]
  cases base with
  | none => rfl
  | some a => simp
theorem append_grows (h0 : ts[0]? = some t) (h1 : ts[1]? = some xt) (ht : (underlying t).run P w = .ok (.slice e) w) (hx : (underlying xt).run P w = .ok d w) (hd : ∀ k, d ≠ .int k)
    (hsz : (Go.sizeOf e).run P w = .ok size w) (hn : (Builtin.lenOf x).run P w = .ok n w) {olds : List Value} (hfo : (Builtin.firstCells size sLen (.slice base sLen sCap)).run P w.drew = .ok olds.toArray w.drew)
    (hf : (Builtin.firstCells size n x).run P w.drew = .ok L.toArray w.drew) {info : TypeInfo} {z : Value} (hi : P.info? e = some info) (hz : info.zero = some z) (hb : (sLen + n) * info.bytes ≤ 140737488355328) (hl : sLen + n ≤ 2 ^ 40) (hfit : sCap < sLen + n) :
    (Builtin.append_ ts ty #[.slice base sLen sCap, x]).run P w = .ok (.slice (some ⟨w.heap.size, 0, none⟩) (sLen + n) (grownCap w (sLen + n) sCap e))
      (w.drew.alloc (.cells (olds.toArray ++ L.toArray ++ Builtin.zeroCells z.cells (grownCap w (sLen + n) sCap e - (sLen + n))) e)) := by
  have h63 : ¬ (9223372036854775807 < ((sLen : Int) + (n : Int))) := by omega
  have h48 : ¬ (281474976710656 < Builtin.nextslicecap (sLen + n) sCap * info.bytes) := by have := growslice_fits (bytes := info.bytes) hfit hb; omega
  have a0 : (#[.slice base sLen sCap, x] : Array Value)[0]? = some (.slice base sLen sCap) := rfl
  have a1 : (#[.slice base sLen sCap, x] : Array Value)[1]? = some x := rfl
  unfold Builtin.append_
  simp only [h0, h1, a0, a1, Sem.run_bind, ht, hx, Result.andThen_ok, hsz, Sem.run_pure, Bool.false_eq_true, if_false, hn, Bool.not_false, if_true]
  rw [if_neg (by omega)]
  simp [typeInfo, zeroValue, hi, hz, h63, h48, Question.forced, hf, hfo, newRow, grownCap]
  congr 2
  apply Array.ext'
  simp
end

theorem grownCap_le (w : World) (need old : Nat) (e : TypeId) : need ≤ grownCap w need old e := by simp [grownCap, Question.cut]
theorem zeroCells_size (z : Array Value) (n : Nat) : (Builtin.zeroCells z n).size = n * z.size := by simp [Builtin.zeroCells]
/-- A new row with room behind it. -/
theorem grown_new (hw : WRel T γ h w0 w) {e : TypeId} {l : List AV} {L : List Value} (hl : LRel γ l L) {Z : Array Value} {need cap : Nat} (hlen : l.length = need * szOf T e) (hcap : need ≤ cap) (hZ : Z.size = (cap - need) * szOf T e) :
    ∃ γ', Ext h.next γ γ' ∧ WRel T γ' (h.new (.cells l e false)).2 w0 (w.drew.alloc (.cells (L.toArray ++ Z) e)) ∧ VRel γ' (.slice h.next 0 need 0 false) (.slice (some ⟨w.heap.size, 0, none⟩) need cap) := by
  have hfr := hw.fresh (Nat.le_refl h.next)
  have hmul : need * szOf T e + (cap - need) * szOf T e = cap * szOf T e := by rw [← Nat.add_mul]; congr 1; omega
  have hle := Emb.le_add (w.heap.size, 0, cap * szOf T e, szOf T e) hfr
  refine ⟨γ.add h.next (w.heap.size, 0, cap * szOf T e, szOf T e), fun id hid => by unfold Emb.add; rw [if_neg (by omega)], ?_, ?_⟩
  · refine hw.drew.new (by simp) (fun k hk => heap_alloc_old _ _ _ hk) rfl rfl rfl ?_
    have hsz := hl.length
    have hB : w0.heap.size ≤ w.heap.size := hw.below.size
    have : (w.drew.alloc (.cells (L.toArray ++ Z) e)).heap[w.drew.heap.size]? = some (.cells (L.toArray ++ Z) e) := heap_alloc_new _ _
    rw [this]
    refine ⟨⟨rfl, Nat.zero_mod _, ofType_cells⟩, _, e, (0, 0), rfl, fun i v hi => ?_, by simp; omega, by omega, fun _ => ⟨hB, fun j _ _ => by omega⟩⟩
    obtain ⟨v', g1, g2⟩ := hl.get hi
    refine ⟨v', ?_, g2.mono hle⟩
    have hlt := (List.getElem?_eq_some_iff.1 g1).1
    rw [Nat.zero_add, Array.getElem?_append_left (by simpa using hlt)]
    simpa using g1
  · have hid : (γ.add h.next (w.heap.size, 0, cap * szOf T e, szOf T e)) h.next = some (w.heap.size, 0, cap * szOf T e, szOf T e) := by simp [Emb.add]
    have := VRel.grown (off := 0) (len := need) (c := 0) (cap := cap) hid (by omega) hcap
    rw [Nat.add_zero] at this; exact this
theorem WRel.kill (hw : WRel T γ h w0 w) (id : Nat) (hid : id < h.next) : WRel T γ (h.upd id .dead) w0 w := by
  refine ⟨hw.below, hw.dom, fun i b s K z e => ?_, hw.glob, fun i j b s K z s' K' z' e1 e2 hne hbb => ?_⟩
  · obtain ⟨o, h1, h2, h3⟩ := hw.obj _ _ _ _ _ e
    by_cases hi : i = id
    · subst hi; exact ⟨.dead, Tree.get_put_same .., h2, trivial⟩
    · exact ⟨o, by simp only [AH.upd]; rw [Tree.get_put_ne _ _ hi]; exact h1, h2, h3⟩
  · simp only [AH.upd]
    by_cases hi : i = id
    · subst hi; left; exact Tree.get_put_same ..
    · by_cases hj : j = id
      · subst hj; right; exact Tree.get_put_same ..
      · rw [Tree.get_put_ne _ _ hi, Tree.get_put_ne _ _ hj]; exact hw.inj _ _ _ _ _ _ _ _ _ e1 e2 hne hbb
/-- A live object's block goes over to a new object. -/
theorem WRel.take (hw : WRel T γ h w0 w) {id b s K z s' K' z' : Nat} {o o' : AObj} {w' : World} (hid : γ id = some (b, s, K, z)) (ho : h.t.get id = some o) (hd : o ≠ .dead) (hB : w0.heap.size ≤ b)
    (hsz : w'.heap.size = w.heap.size) (hk : ∀ k, k ≠ b → w'.heap[k]? = w.heap[k]?) (h2 : w'.os = w.os) (h3 : w'.tape = w.tape) (h4 : w'.output = w.output)
    (hr : ORel T (γ.add h.next (b, s', K', z')) w0.heap.size w'.heap[b]? b s' K' z' o') : WRel T (γ.add h.next (b, s', K', z')) ((h.upd id .dead).new o').2 w0 w' := by
  have hfr := hw.fresh (Nat.le_refl h.next)
  have hlt := hw.dom _ _ hid
  have hle := Emb.le_add (b, s', K', z') hfr
  obtain ⟨_, _, hbl, _⟩ := hw.obj _ _ _ _ _ hid
  have hget : ∀ i, i < h.next → ((h.upd id .dead).new o').2.t.get i = if i = id then some .dead else h.t.get i := by
    intro i hi
    simp only [AH.new, AH.upd]
    rw [Tree.get_put_ne _ _ (by omega), Tree.get_put]
  have hnew : ((h.upd id .dead).new o').2.t.get h.next = some o' := by simp only [AH.new, AH.upd]; exact Tree.get_put_same ..
  have deadOf : ∀ j s1 K1 z1, j ≠ id → γ j = some (b, s1, K1, z1) → h.t.get j = some .dead := by
    intro j s1 K1 z1 hj e
    rcases hw.inj _ _ _ _ _ _ _ _ _ e hid hj hB with h8 | h8
    · exact h8
    · rw [ho] at h8; cases h8; exact absurd rfl hd
  refine ⟨hw.below.trans ⟨h2, h3, h4, by omega, fun k hk' => hk k (by omega)⟩, fun i x e => ?_, fun i b' s1 K1 z1 e => ?_, hw.glob, fun i j bb s1 K1 z1 s2 K2 z2 e1 e2 hne hbb => ?_⟩
  · unfold Emb.add at e
    split at e
    · rename_i hi; subst hi; simp [AH.new, AH.upd]
    · have := hw.dom _ _ e; simp only [AH.new, AH.upd]; omega
  · by_cases hi : i = h.next
    · subst hi
      have : (b, s', K', z') = (b', s1, K1, z1) := by simpa [Emb.add] using e
      cases this
      exact ⟨o', hnew, by omega, hr⟩
    · have e' : γ i = some (b', s1, K1, z1) := by simpa [Emb.add, hi] using e
      have hil := hw.dom _ _ e'
      obtain ⟨x, g1, g2, g3⟩ := hw.obj _ _ _ _ _ e'
      by_cases hii : i = id
      · subst hii
        exact ⟨.dead, by rw [hget _ hil, if_pos rfl], by omega, trivial⟩
      · refine ⟨x, by rw [hget _ hil, if_neg hii]; exact g1, by omega, ?_⟩
        by_cases hb : b' = b
        · subst hb
          have := deadOf i _ _ _ hii e'
          rw [this] at g1; cases g1; trivial
        · rw [hk _ hb]; exact g3.mono hle
  · have old : ∀ i : Nat, i ≠ h.next → ∀ s1 K1 z1, (γ.add h.next (b, s', K', z')) i = some (bb, s1, K1, z1) → γ i = some (bb, s1, K1, z1) ∧ i < h.next := by
      intro i hi s1 K1 z1 e
      have : γ i = some (bb, s1, K1, z1) := by simpa [Emb.add, hi] using e
      exact ⟨this, hw.dom _ _ this⟩
    have dead2 : ∀ i : Nat, i ≠ h.next → ∀ s1 K1 z1, (γ.add h.next (b, s', K', z')) i = some (bb, s1, K1, z1) → bb = b → ((h.upd id .dead).new o').2.t.get i = some .dead := by
      intro i hi s1 K1 z1 e hbb
      obtain ⟨e', hil⟩ := old i hi _ _ _ e
      subst hbb
      rw [hget _ hil]
      split
      · rfl
      · rename_i hii; exact deadOf i _ _ _ hii e'
    by_cases hi : i = h.next
    · have hj : j ≠ h.next := fun e => hne (hi.trans e.symm)
      subst hi
      have : (b, s', K', z') = (bb, s1, K1, z1) := by simpa [Emb.add] using e1
      cases this
      right; exact dead2 j hj _ _ _ e2 rfl
    · by_cases hj : j = h.next
      · subst hj
        have : (b, s', K', z') = (bb, s2, K2, z2) := by simpa [Emb.add] using e2
        cases this
        left; exact dead2 i hi _ _ _ e1 rfl
      · obtain ⟨a1, l1⟩ := old i hi _ _ _ e1
        obtain ⟨a2, l2⟩ := old j hj _ _ _ e2
        rw [hget _ l1, hget _ l2]
        rcases hw.inj _ _ _ _ _ _ _ _ _ a1 a2 hne hbb with h8 | h8
        · left; rw [h8]; split <;> rfl
        · right; rw [h8]; split <;> rfl
theorem append_zeros {ts : Array TypeId} {t xt e ty : TypeId} {size n : Nat} {q : IntKind} (h0 : ts[0]? = some t) (h1 : ts[1]? = some xt) (ht : (underlying t).run P w = .ok (.slice e) w) (hx : (underlying xt).run P w = .ok (.int q) w)
    (hsz : (Go.sizeOf e).run P w = .ok size w) {info : TypeInfo} {z : Value} (hi : P.info? e = some info) (hz : info.zero = some z) (hb : n * info.bytes ≤ 140737488355328) (hl : n ≤ 2 ^ 40) (h0n : 0 < n) (h0s : 0 < size) :
    (Builtin.append_ ts ty #[.slice none 0 0, .int .i64 n]).run P w = .ok (.slice (some ⟨w.heap.size, 0, none⟩) n (grownCap w n 0 e))
      (w.drew.alloc (.cells (Builtin.zeroCells z.cells n ++ Builtin.zeroCells z.cells (grownCap w n 0 e - n)) e)) := by
  have h63 : ¬ (9223372036854775807 < (n : Int)) := by omega
  have hfit : 0 < 0 + n := by omega
  have h48 : ¬ (281474976710656 < Builtin.nextslicecap n 0 * info.bytes) := by have := growslice_fits (bytes := info.bytes) hfit (by rw [Nat.zero_add]; exact hb); rw [Nat.zero_add] at this; omega
  have hw64 : IntKind.i64.wrap (n : Int) = n := IntWalk.i64_in _ (by omega)
  have a0 : (#[.slice none 0 0, .int .i64 (n : Int)] : Array Value)[0]? = some (.slice none 0 0) := rfl
  have a1 : (#[.slice none 0 0, .int .i64 (n : Int)] : Array Value)[1]? = some (.int .i64 n) := rfl
  have hneg : ¬ ((n : Int) < 0) := by omega
  have hbig : ¬ (281474976710656 < (n : Int) * (info.bytes : Int)) := by
    have : ((n * info.bytes : Nat) : Int) ≤ ((140737488355328 : Nat) : Int) := Int.ofNat_le.2 hb
    rw [Int.natCast_mul] at this; omega
  have hz0 : ¬ (n * size = 0) := by
    have := Nat.mul_pos h0n h0s; omega
  have hai : (asInt (.int .i64 (n : Int))).run P w = .ok (n : Int) w := rfl
  have hcut : Builtin.zeroCells z.cells n = Builtin.zeroCells z.cells n := rfl
  unfold Builtin.append_
  simp only [h0, h1, a0, a1, Sem.run_bind, ht, hx, Result.andThen_ok, hsz, Sem.run_pure, Bool.false_eq_true, if_false, hai, hw64, Bool.not_true, if_true, if_neg hneg, typeInfo, zeroValue, hi, hz, Int.toNat_natCast, Nat.zero_add]
  simp [typeInfo, zeroValue, hi, hz, h63, h48, hbig, hz0, Question.forced, newRow, grownCap, Builtin.firstCells]
  omega
theorem cell_drew (w : World) (a : Addr) : w.drew.cell? a = w.cell? a := rfl
theorem append_sound (hT : TabOk P T) (hw : WRel T γ h w0 w) {ts : Array TypeId} {t xt ty : TypeId} {s x v : AV} {s' x' : Value} {h' : AH} (h0 : ts[0]? = some t) (h1 : ts[1]? = some xt) (hs : aappend T h t xt s x = some (v, h')) (hv : VRel γ s s') (hx : VRel γ x x') :
    ∃ v' w' γ', (Builtin.append_ ts ty #[s', x']).run P w = .ok v' w' ∧ Ext h.next γ γ' ∧ h.next ≤ h'.next ∧ WRel T γ' h' w0 w' ∧ VRel γ' v v' := by
  unfold aappend at hs
  split at hs
  · cases hs
  · rename_i e q hd hdx
    unfold appendZ at hs
    split at hs
    · rename_i n ei he
      split at hs
      · rename_i hc
        cases hs; cases hv; cases hx
        obtain ⟨c1, c2, c3, c4, c5⟩ := hc
        obtain ⟨N, rfl⟩ : ∃ N : Nat, n = N := ⟨n.toNat, by omega⟩
        rw [Int.toNat_natCast] at c3
        obtain ⟨info, z, _, hi, hi1, hi2, hi3, hi4, hi5, hi6⟩ := r_info hT he w
        have hmax : (maxBytes : Nat) = 70368744177664 := by decide
        have hzl : z.cells.size = ei.zero.length := by
          have := ((toAV_rel γ z).cells hi6).length
          rw [hi4, ← this]; simp
        have hlr : LRel γ (rep N ei.zero) (Builtin.zeroCells z.cells N).toList := by
          have := zeros_rel (n := N) ((toAV_rel γ z).cells hi6)
          rw [← hi4] at this
          unfold Builtin.zeroCells
          rw [← hzl] at this; exact this
        have hrun := append_zeros (ty := ty) (n := N) h0 h1 (r_desc hT hd (by simp) w) (r_desc hT hdx (by simp) w) (r_sizeOf hT he w) hi hi3 (by rw [hi2]; omega) (by omega) (by omega) c4
        obtain ⟨γ', k1, k2, k3⟩ := grown_new hw hlr (e := e) (need := N) (cap := grownCap w N 0 e) (Z := Builtin.zeroCells z.cells (grownCap w N 0 e - N)) (by rw [szOf_eq he, rep_length, c5]) (grownCap_le ..) (by rw [zeroCells_size, hzl, c5, szOf_eq he])
        refine ⟨_, _, γ', hrun, k1, by simp [AH.new], ?_, k3⟩
        simpa using k2
      · cases hs
    · cases hs
  · cases hs
  · rename_i dx e hd hdi hdx
    split at hs
    · rename_i ei n he hn
      split at hs
      · cases hs
      · rename_i new hnew
        split at hs
        · cases hs
        · rename_i hnl
          have hnl : new.length = n * ei.size := by simpa using hnl
          obtain ⟨L, hL, hLf⟩ := first_sound (P := P) hw hnew hx
          have hu := r_desc hT hd (by simp) w
          have hxu := r_desc hT (t := xt) (d := descOf T xt) rfl hdi w
          have hxk : ∀ k, descOf T xt ≠ .int k := fun k e => hdx k e
          have hsz := r_sizeOf hT he w
          have hln := lenOf_sound (P := P) w hn hx
          have hf := hLf w (fun _ => rfl)
          have hfd := hLf w.drew (fun _ => rfl)
          obtain ⟨info, z, _, hi, hi1, hi2, hi3, hi4, hi5, hi6⟩ := r_info hT he w
          have hzl : z.cells.size = ei.zero.length := by
            have := ((toAV_rel γ z).cells hi6).length
            rw [hi4, ← this]; simp
          have hmax : (maxBytes : Nat) = 70368744177664 := by decide
          split at hs
          · rename_i hn0
            subst hn0
            have hLn : L = [] := List.length_eq_zero_iff.1 (by rw [hL.length, hnl]; simp)
            subst hLn
            split at hs
            · cases hs; cases hv
              exact ⟨_, w, γ, append_fits (ty := ty) h0 h1 hu hxu hxk hsz hln hf (Nat.le_refl _), Ext.refl _ _, Nat.le_refl _, hw, .nilSlice⟩
            · cases hs; cases hv
              rename_i a c
              exact ⟨_, w, γ, append_fits (ty := ty) h0 h1 hu hxu hxk hsz hln hf (Nat.zero_le _), Ext.refl _ _, Nat.le_refl _, hw, .eslice a c⟩
            · rename_i id off len cap
              split at hs
              · rename_i hlc
                cases hs
                cases hv with
                | slice hg => exact ⟨_, w, γ, append_fits (ty := ty) h0 h1 hu hxu hxk hsz hln hf hlc, Ext.refl _ _, Nat.le_refl _, hw, .slice hg⟩
              · cases hs
            · rename_i id off len c0
              split at hs
              · split at hs
                · cases hs
                  cases hv with
                  | grown hg hc hl => exact ⟨_, w, γ, append_fits (ty := ty) h0 h1 hu hxu hxk hsz hln hf hl, Ext.refl _ _, Nat.le_refl _, hw, .grown hg hc hl⟩
                · cases hs
              · cases hs
            · cases hs
          · rename_i hn0
            split at hs
            · cases hv
              split at hs
              · rename_i hc
                cases hs
                have hrun := append_grows (ty := ty) (olds := []) h0 h1 hu hxu hxk hsz hln (run_firstCells_none w.drew ei.size 0 0 0) hfd hi hi3 (by rw [hi2, Nat.zero_add]; omega) (by omega) (show 0 < 0 + n by omega)
                rw [Nat.zero_add] at hrun
                obtain ⟨γ', k1, k2, k3⟩ := grown_new hw hL (e := e) (need := n) (cap := grownCap w n 0 e) (Z := Builtin.zeroCells z.cells (grownCap w n 0 e - n)) (by rw [szOf_eq he]; exact hnl) (grownCap_le ..) (by rw [zeroCells_size, hzl, hc.2.2.2, szOf_eq he])
                refine ⟨_, _, γ', hrun, k1, by simp [AH.new], ?_, k3⟩
                simpa using k2
              · cases hs
            · rename_i id off len cap
              cases hv with
              | slice hg =>
              split at hs
              · rename_i hfit
                split at hs
                · rename_i cs el ho
                  rw [Option.map_eq_some_iff] at hs
                  obtain ⟨h2, hp, he2⟩ := hs
                  cases he2
                  obtain ⟨w', g1, g2⟩ := put_run P hw ho hg hL hp
                  refine ⟨_, w', γ, ?_, Ext.refl _ _, ?_, g2, .slice hg⟩
                  · rw [append_fits (ty := ty) h0 h1 hu hxu hxk hsz hln hf hfit]
                    simp only [add_none, Nat.add_assoc]
                    rw [g1]; rfl
                  · unfold put? at hp; split at hp <;> cases hp; exact Nat.le_refl _
                · cases hs
              · rename_i hfit
                split at hs
                · rename_i hc
                  split at hs
                  · rename_i cs hcs
                    split at hs
                    · rename_i old hold
                      cases hs
                      obtain ⟨O, o1, o2, o3⟩ := stretch hw hcs hg hold
                      have hol := (sub_some hold).2.2
                      have hfo := run_firstCells_some (P := P) w.drew ei.size len _ len cap O o2 (fun j v hj => o3 j v hj)
                      have hrun := append_grows (ty := ty) h0 h1 hu hxu hxk hsz hln hfo hfd hi hi3 (by rw [hi2]; omega) (by omega) (show cap < len + n by omega)
                      obtain ⟨γ', k1, k2, k3⟩ := grown_new hw (o1.append hL) (e := e) (need := len + n) (cap := grownCap w (len + n) cap e) (Z := Builtin.zeroCells z.cells (grownCap w (len + n) cap e - (len + n)))
                        (by rw [szOf_eq he, List.length_append, hol, hnl, Nat.add_mul]) (grownCap_le ..) (by rw [zeroCells_size, hzl, hc.2.2.2, szOf_eq he])
                      refine ⟨_, _, γ', hrun, k1, by simp [AH.new], ?_, k3⟩
                      simpa using k2
                    · cases hs
                  · cases hs
                · cases hs
            · rename_i id off len c0
              cases hv with
              | grown hg hcap hl =>
              rename_i cap b sh K zz
              split at hs
              · rename_i cs el ho
                split at hs
                · cases hs
                · rename_i hel
                  have hel1 : szOf T el = ei.size := by omega
                  have hel2 : 0 < ei.size := by omega
                  obtain ⟨hobj, hz, hB, C, e', fz, q1, q2, q3, q4, q5⟩ := obj_own hw ho hg
                  have hty := obj_type hw hobj hg
                  have hzz : zz = ei.size := by omega
                  subst hzz
                  have hele : e = el := by
                    have := hel
                    simp only [not_or, Decidable.not_not] at this
                    exact this.2.2.1.symm
                  have hoff0 : off % ei.size = 0 := by omega
                  subst hele
                  obtain rfl := hty.2.2.same q1
                  split at hs
                  · rename_i hroom
                    rw [Option.map_eq_some_iff] at hs
                    obtain ⟨h2, hp, he2⟩ := hs
                    cases he2
                    have hfit : len + n ≤ cap := by
                      have : (len + n) * ei.size ≤ cap * ei.size := by omega
                      exact Nat.le_of_mul_le_mul_right this hel2
                    obtain ⟨w', g1, g2⟩ := put_run P hw ho hg hL hp
                    refine ⟨_, w', γ, ?_, Ext.refl _ _, ?_, g2, .grown hg hcap hfit⟩
                    · rw [append_fits (ty := ty) h0 h1 hu hxu hxk hsz hln hf hfit]
                      simp only [add_none, Nat.add_assoc]
                      rw [g1]; rfl
                    · unfold put? at hp; split at hp <;> cases hp; exact Nat.le_refl _
                  · rename_i hroom
                    split at hs
                    · rename_i hc
                      split at hs
                      · rename_i old hold
                        cases hs
                        obtain ⟨O, o1, o2, o3⟩ := stretch hw (own_cells ho) hg hold
                        have hol := (sub_some hold).2.2
                        have hmulK : (len + n) * ei.size = len * ei.size + n * ei.size := Nat.add_mul ..
                        by_cases hfit : len + n ≤ cap
                        · -- there was room
                          have hroom2 : off + (len * ei.size + n * ei.size) ≤ K := by
                            have : (len + n) * ei.size ≤ cap * ei.size := Nat.mul_le_mul_right _ hfit
                            omega
                          have hLl := hL.length
                          have hone : ∀ u ∈ L, u.oneCell' = true := by
                            intro u hu'
                            obtain ⟨j, hj, rfl⟩ := List.getElem_of_mem hu'
                            have hj' : j < new.length := by omega
                            obtain ⟨u2, k1, k2⟩ := hL.get (List.getElem?_eq_getElem hj')
                            rw [List.getElem?_eq_getElem hj] at k1; cases k1
                            exact k2.oneCell (by have := List.all_eq_true.1 hc.2.2.2 _ (List.getElem_mem hj'); exact this)
                          obtain ⟨w', g1, g2, g3, g4, g5, g6, g7⟩ := storeCells_run P b (sh + off + len * ei.size) e' fz L 0 w C q1 (by omega) hone (fun j hj1 hj2 => q5 j (by omega) (by omega))
                          refine ⟨.slice (some ⟨b, sh + off, none⟩) (len + n) cap, w', γ.add h.next (b, sh + off, K - off, ei.size), ?_, fun i hi => by unfold Emb.add; rw [if_neg (by omega)], by simp [AH.new, AH.upd], ?_, ?_⟩
                          · rw [append_fits (ty := ty) h0 h1 hu hxu hxk hsz hln hf hfit]
                            simp only [add_none]
                            rw [g1]; rfl
                          · refine hw.take hg hobj (by simp) hB g2 g3 g4 g5 g6 ?_
                            rw [g7]
                            have hle := Emb.le_add (b, sh + off, K - off, ei.size) (hw.fresh (Nat.le_refl h.next))
                            refine ⟨⟨(szOf_eq he).symm, by rw [Nat.add_mod, hty.2.1, Nat.zero_add, Nat.mod_mod]; exact hoff0, ofType_cells⟩, _, _, fz, rfl, fun i u hi => ?_, ?_, by rw [List.length_append, hol, hnl]; omega, fun _ => ⟨hB, fun j hj1 hj2 => q5 j (by omega) (by omega)⟩⟩
                            · have hgoal : (⟨lsetMany C.toList (sh + off + len * ei.size + 0) L⟩ : Array Value)[sh + off + i]? = (lsetMany C.toList (sh + off + len * ei.size + 0) L)[sh + off + i]? := by simp
                              rw [hgoal, lsetMany_get _ _ _ (by simp; omega)]
                              rw [List.getElem?_append] at hi
                              split at hi
                              · rename_i hio
                                rw [if_neg (by omega)]
                                obtain ⟨u', k1, k2⟩ := o1.get hi
                                have k3 := o3 _ _ k1
                                rw [add_none, cell_block q1] at k3
                                exact ⟨u', by rw [← k3]; simp, k2.mono hle⟩
                              · rename_i hio
                                obtain ⟨u', k1, k2⟩ := hL.get hi
                                have hlt := (List.getElem?_eq_some_iff.1 k1).1
                                rw [if_pos (by omega)]
                                exact ⟨u', by rw [← k1]; congr 1; omega, k2.mono hle⟩
                            · have : (⟨lsetMany C.toList (sh + off + len * ei.size + 0) L⟩ : Array Value).size = C.size := by simp [lsetMany_length]
                              omega
                          · have hid' : (γ.add h.next (b, sh + off, K - off, ei.size)) h.next = some (b, sh + off, K - off, ei.size) := by simp [Emb.add]
                            have := VRel.grown (off := 0) (len := len + n) (c := 0) (cap := cap) hid' (by omega) hfit
                            rw [Nat.add_zero] at this; exact this
                        · -- a new row
                          have hfo := run_firstCells_some (P := P) w.drew ei.size len _ len cap O o2 (fun j v hj => o3 j v hj)
                          have hrun := append_grows (ty := ty) h0 h1 hu hxu hxk hsz hln hfo hfd hi hi3 (by rw [hi2]; omega) (by omega) (show cap < len + n by omega)
                          obtain ⟨γ', k1, k2, k3⟩ := grown_new (hw.kill id (hw.dom _ _ hg)) (o1.append hL) (e := e') (need := len + n) (cap := grownCap w (len + n) cap e') (Z := Builtin.zeroCells z.cells (grownCap w (len + n) cap e' - (len + n)))
                            (by rw [szOf_eq he, List.length_append, hol, hnl, Nat.add_mul]) (grownCap_le ..) (by rw [zeroCells_size, hzl, hc.2.2.1, szOf_eq he])
                          refine ⟨_, _, γ', hrun, k1, by simp [AH.new, AH.upd], ?_, k3⟩
                          simpa using k2
                      · cases hs
                    · cases hs
              · cases hs
            · cases hs
    · cases hs
  · cases hs
end Go.AI
/- All operations that act. -/
namespace Go.AI
open Go.RowKit (Below)
variable {P : Program} {T : Tab} {γ : Emb} {h : AH} {w0 w : World}

theorem put_next {id off : Nat} {cs vs : List AV} {e : TypeId} {h' : AH} (hp : put? h id cs e off vs = some h') : h'.next = h.next := by
  unfold put? at hp; split at hp <;> cases hp; rfl
theorem copy_sound (hT : TabOk P T) (hw : WRel T γ h w0 w) {ts : Array TypeId} {t ty : TypeId} {d s v : AV} {d' s' : Value} {h' : AH} (h0 : ts[0]? = some t) (hs : acopy T h t d s = some (v, h')) (hd : VRel γ d d') (hv : VRel γ s s') :
    ∃ v' w', (Builtin.copy_ ts ty #[d', s']).run P w = .ok v' w' ∧ h'.next = h.next ∧ WRel T γ h' w0 w' ∧ VRel γ v v' := by
  unfold acopy at hs
  split at hs
  · rename_i e hde
    split at hs
    · rename_i ei m dl he hm hdl
      split at hs
      · rename_i new hnew
        split at hs
        · cases hs
        · rename_i hnl
          have hnl : new.length = Nat.min m dl * ei.size := by simpa using hnl
          obtain ⟨L, hL, hLf⟩ := first_sound (P := P) hw hnew hv
          have hf := hLf w (fun _ => rfl)
          have hln := lenOf_sound (P := P) w hm hv
          have a0 : (#[d', s'] : Array Value)[0]? = some d' := rfl
          have a1 : (#[d', s'] : Array Value)[1]? = some s' := rfl
          have run : ∀ base c, d' = .slice base dl c → (Builtin.copy_ ts ty #[d', s']).run P w = ((match base with | some a => storeCells a L | none => pure () : Sem Unit).run P w).andThen fun _ w' => .ok (goInt (Nat.min m dl)) w' := by
            intro base c hd'
            subst hd'
            unfold Builtin.copy_
            simp only [h0, a0, a1, Sem.run_bind, r_desc hT hde (by simp), Result.andThen_ok, hln, r_sizeOf hT he, hf]
            cases base with
            | none => rfl
            | some a => simp
          split at hs
          · rename_i id off len cap ex
            have hshape : ∃ b sh K z c, γ id = some (b, sh, K, z) ∧ d' = .slice (some ⟨b, sh + off, none⟩) dl c := by
              cases hdl
              cases hd with
              | slice hg => exact ⟨_, _, _, _, _, hg, rfl⟩
              | grown hg _ _ => exact ⟨_, _, _, _, _, hg, rfl⟩
            obtain ⟨b, sh, K, z, c, hg, hd'⟩ := hshape
            rw [run _ _ hd']
            split at hs
            · rename_i hnil
              cases hs
              subst hnil
              have : L = [] := List.length_eq_zero_iff.1 hL.length
              subst this
              exact ⟨_, w, rfl, rfl, hw, .int _ _⟩
            · split at hs
              · rename_i cs el ho
                rw [Option.map_eq_some_iff] at hs
                obtain ⟨h2, hp, he2⟩ := hs
                cases he2
                obtain ⟨w', g1, g2⟩ := put_run P hw ho hg hL hp
                simp only [g1, Result.andThen_ok]
                exact ⟨_, w', rfl, put_next hp, g2, .int _ _⟩
              · cases hs
          · cases hdl; cases hd; cases hs
            rw [run _ _ rfl]
            exact ⟨_, w, rfl, rfl, hw, .int _ _⟩
          · cases hdl; cases hs
            have hL0 : L = [] := List.length_eq_zero_iff.1 (by rw [hL.length, hnl]; simp)
            subst hL0
            cases hd
            rename_i a c
            rw [run _ _ rfl]
            exact ⟨_, w, rfl, rfl, hw, .int _ _⟩
          · cases hs
      · cases hs
    · cases hs
  · cases hs
theorem clear_sound (hT : TabOk P T) (hw : WRel T γ h w0 w) {ts : Array TypeId} {t ty : TypeId} {x : AV} {x' : Value} {h' : AH} (h0 : ts[0]? = some t) (hs : aclear T h t x = some h') (hx : VRel γ x x') :
    ∃ w', (Builtin.clear_ ts ty #[x']).run P w = .ok (.tuple #[]) w' ∧ h'.next = h.next ∧ WRel T γ h' w0 w' := by
  have a0 : (#[x'] : Array Value)[0]? = some x' := rfl
  unfold aclear at hs
  unfold Builtin.clear_
  simp only [h0, a0]
  split at hs
  · rename_i k e hd
    cases hs; cases hx
    simp only [Sem.run_bind, r_desc hT hd (by simp), Result.andThen_ok]
    exact ⟨w, rfl, trivial, hw⟩
  · rename_i k e r hd
    cases hx with
    | map hg =>
    split at hs
    · rename_i es c he
      cases hs
      obtain ⟨ho, hB, es', h2, h3⟩ := obj_map hw he hg
      simp only [Sem.run_bind, r_desc hT hd (by simp), Result.andThen_ok, run_getObj_map' h2]
      rw [setObj_run h2 (by simp)]
      exact ⟨_, rfl, rfl, hw.setW hg ho (by simp) hB ⟨hB, #[], rfl, .nil⟩⟩
    · cases hs
  · rename_i e hd
    cases hs; cases hx
    simp only [Sem.run_bind, r_desc hT hd (by simp), Result.andThen_ok]
    exact ⟨w, rfl, trivial, hw⟩
  · rename_i e hd
    cases hs; cases hx
    simp only [Sem.run_bind, r_desc hT hd (by simp), Result.andThen_ok]
    exact ⟨w, rfl, trivial, hw⟩
  · rename_i e id off len cap ex hd
    split at hs
    · rename_i ei cs el he ho
      split at hs
      · rename_i hz
        obtain ⟨z, h1, h2, h3, h4⟩ := r_zero hT he w
        have hzl : LRel γ ei.zero z.cells.toList := by rw [h2]; exact (toAV_rel γ z).cells h4
        have hshape : ∃ b sh K z c, γ id = some (b, sh, K, z) ∧ x' = .slice (some ⟨b, sh + off, none⟩) len c := by
          cases hx with
          | slice hg => exact ⟨_, _, _, _, _, hg, rfl⟩
          | grown hg _ _ => exact ⟨_, _, _, _, _, hg, rfl⟩
        obtain ⟨b, sh, K, zz, c, hg, rfl⟩ := hshape
        have hrel := zeros_rel hzl len
        have hzs : ei.zero.length = z.cells.size := (lrel_size hzl).symm
        rw [hzs] at hrel
        obtain ⟨w', g1, g2⟩ := put_run P hw ho hg hrel hs
        simp only [Sem.run_bind, r_desc hT hd (by simp), Result.andThen_ok]
        cases len with
        | zero =>
          have hh : h' = h.upd id (.cells cs el false) ∨ True := .inr trivial
          simp only [rep] at hs
          refine ⟨w, rfl, put_next hs, ?_⟩
          have : w' = w := by
            simp [storeCells] at g1
            exact g1.symm
          rw [← this]; exact g2
        | succ n =>
          simp only [Sem.run_bind, h1, Result.andThen_ok]
          have : (Builtin.zeroCells z.cells (n + 1)).toList = ((Array.range ((n + 1) * z.cells.size)).map (fun i => z.cells[i % z.cells.size]!)).toList := rfl
          rw [this, g1]
          exact ⟨w', rfl, put_next hs, g2⟩
      · cases hs
    · cases hs
  · cases hs
theorem delete_sound (hT : TabOk P T) (hw : WRel T γ h w0 w) {ts : Array TypeId} {t ty : TypeId} {m k : AV} {m' k' : Value} {h' : AH} (h0 : ts[0]? = some t) (hs : adelete T h t m k = some h') (hm : VRel γ m m') (hk : VRel γ k k') :
    ∃ w', (Builtin.delete_ ts ty #[m', k']).run P w = .ok (.tuple #[]) w' ∧ h'.next = h.next ∧ WRel T γ h' w0 w' := by
  have a0 : (#[m', k'] : Array Value)[0]? = some m' := rfl
  have a1 : (#[m', k'] : Array Value)[1]? = some k' := rfl
  unfold adelete at hs
  unfold Builtin.delete_
  simp only [h0, a0, a1]
  split at hs
  · rename_i q hkd
    obtain ⟨kd, z⟩ := q
    obtain ⟨et, Q⟩ := keyed_sound hT (γ := γ) (k' := k') hkd hk w
    cases hs; cases hm
    simp only [Sem.run_bind, Q.map, Result.andThen_ok, Q.check]
    exact ⟨w, rfl, trivial, hw⟩
  · rename_i kd z r hkd
    obtain ⟨et, Q⟩ := keyed_sound hT (γ := γ) (k' := k') hkd hk w
    cases hm with
    | map hg =>
    split at hs
    · rename_i es c he
      obtain ⟨ho, hB, es', h2, h3⟩ := obj_map hw he hg
      simp only [Sem.run_bind, Q.map, Result.andThen_ok, run_getObj_map' h2, Q.check]
      split at hs
      · rename_i i u hf
        cases hs
        obtain ⟨r', g1, g2⟩ := findkey_sound hT w Q.key hk h3 hf
        rw [g1]
        cases r' with
        | none => exact g2.elim
        | some x =>
          obtain ⟨j, u'⟩ := x
          obtain ⟨rfl, _⟩ := g2
          simp only [Result.andThen_ok, Sem.run_bind]
          rw [setObj_run h2 (by simp)]
          refine ⟨_, rfl, rfl, hw.setW hg ho (by simp) hB ⟨hB, _, rfl, ?_⟩⟩
          rw [Array.toList_eraseIdxIfInBounds]
          exact h3.eraseIdx i
      · rename_i hf
        cases hs
        obtain ⟨r', g1, g2⟩ := findkey_sound hT w Q.key hk h3 hf
        rw [g1]
        cases r' with
        | some x => exact g2.elim
        | none =>
          simp only [Result.andThen_ok, Sem.run_bind]
          rw [setObj_run h2 (by simp)]
          refine ⟨_, rfl, trivial, ?_⟩
          refine hw.same (w' := AI.setW w _ (.map es' c)) ?_ rfl rfl rfl
          apply Array.ext_getElem?
          intro i
          simp only [AI.setW, Array.getElem?_setIfInBounds]
          split
          · rename_i hi; subst hi; split
            · exact h2.symm
            · rename_i hlt; rw [Array.getElem?_eq_none (by omega)] at h2; cases h2
          · rfl
      · cases hs
    · cases hs
  · cases hs
theorem ERel.filter {γ : Emb} {p : AEntry → Bool} {p' : MapEntry → Bool} (hp : ∀ e e', e'.born = e.born → p' e' = p e) : ∀ {l : List AEntry} {l' : List MapEntry}, ERel γ l l' → ERel γ (l.filter p) (l'.filter p')
  | _, _, .nil => .nil
  | _, _, .cons (e := e) (e' := e') a b c t => by
    have := hp e e' c
    rw [List.filter_cons, List.filter_cons, this]
    split
    · exact .cons a b c (ERel.filter hp t)
    · exact ERel.filter hp t
theorem ERel.all {γ : Emb} {p : AEntry → Bool} {p' : MapEntry → Bool} (hp : ∀ e e', e'.born = e.born → p' e' = p e) : ∀ {l : List AEntry} {l' : List MapEntry}, ERel γ l l' → l'.all p' = l.all p
  | _, _, .nil => rfl
  | _, _, .cons (e := e) (e' := e') _ _ c t => by rw [List.all_cons, List.all_cons, hp e e' c, ERel.all hp t]
theorem next_map_run {r : Nat} {m : Nat} {since last clock : Nat} {seen : Array Nat} {es : Array MapEntry} {ty : TypeId} (h1 : w.heap[r]? = some (.mapIter (some m) since seen last)) (h2 : w.heap[m]? = some (.map es clock))
    (hg : (!seen.isEmpty && !es.isEmpty && es.all (fun e => decide (e.born ≥ last))) = false) :
    (es.toList.filter (fun e => !seen.contains e.born) = [] → (Instr.next (.pointer (some ⟨r, 0, none⟩)) false ty).run P w = .ok (.tuple #[.bool false]) w) ∧
    (∀ e, es.toList.filter (fun e => !seen.contains e.born) = [e] → e.born < since → (Instr.next (.pointer (some ⟨r, 0, none⟩)) false ty).run P w = .ok (.tuple #[.bool true, e.key, e.val]) (setW w r (.mapIter (some m) since (seen.push e.born) clock))) := by
  have gi : (getObj r).run P w = .ok (.mapIter (some m) since seen last) w := by simp [getObj, Sem.run, h1]
  have gm := run_getObj_map' (P := P) h2
  refine ⟨fun hl => ?_, fun e hl hb => ?_⟩
  · have hleft : es.filter (fun e => !seen.contains e.born) = #[] := Array.toList_inj.1 (by rw [Array.toList_filter]; exact hl)
    unfold Instr.next
    simp only [Sem.run_bind, gi, Result.andThen_ok, gm, hg, Bool.false_eq_true, if_false, hleft]
    simp [Question.forced]
  · have hleft : es.filter (fun e => !seen.contains e.born) = #[e] := Array.toList_inj.1 (by rw [Array.toList_filter]; exact hl)
    unfold Instr.next
    simp only [Sem.run_bind, gi, Result.andThen_ok, gm, hg, Bool.false_eq_true, if_false, hleft]
    have n1 : ¬ since ≤ e.born := by omega
    simp [Question.forced, hb, n1, setObj_run (P := P) h1 (by simp)]
theorem next_sound (hw : WRel T γ h w0 w) {it v : AV} {it' : Value} {isS : Bool} {ty : TypeId} {h' : AH} (hs : anext h it isS = some (v, h')) (hi : VRel γ it it') :
    ∃ v' w', (Instr.next it' isS ty).run P w = .ok v' w' ∧ h'.next = h.next ∧ WRel T γ h' w0 w' ∧ VRel γ v v' := by
  unfold anext at hs
  split at hs
  · rename_i r
    cases hi with
    | ptr hg =>
    rename_i b s K z
    obtain ⟨o, h1, h2, h3⟩ := hw.obj _ _ _ _ _ hg
    rw [h1] at hs
    split at hs
    · rename_i l pos heq
      cases heq
      obtain ⟨hB, rfl, hob⟩ := h3
      have gi : (getObj b).run P w = .ok (.stringIter ⟨⟨l⟩⟩ pos) w := by simp [getObj, Sem.run, hob]
      have hsz : (⟨⟨l⟩⟩ : ByteArray).size = l.length := rfl
      split at hs
      · rename_i hlt
        cases hs
        refine ⟨.tuple #[.bool true, goInt pos, .int .i32 (Utf8.decode ⟨⟨l⟩⟩ pos).1], setW w b (.stringIter ⟨⟨l⟩⟩ (pos + (Utf8.decode ⟨⟨l⟩⟩ pos).2)), ?_, rfl, hw.setW hg h1 (by simp) hB ⟨hB, rfl, rfl⟩, .tuple (.cons (.bool _) (.cons (.int _ _) (.cons (.int _ _) .nil)))⟩
        unfold Instr.next
        simp only [Sem.run_bind, gi, Result.andThen_ok, hsz]
        rw [if_pos hlt]
        simp [setObj_run (P := P) hob (by simp)]
      · rename_i hlt
        cases hs
        refine ⟨.tuple #[.bool false], w, ?_, rfl, hw, .tuple (.cons (.bool _) .nil)⟩
        unfold Instr.next
        simp only [Sem.run_bind, gi, Result.andThen_ok, hsz]
        rw [if_neg hlt]; rfl
    · rename_i since seen st heq
      cases heq
      obtain ⟨hB, rfl, m', hob, rfl⟩ := h3
      cases hs
      have gi : (getObj b).run P w = .ok (.mapIter none since ⟨seen⟩ st) w := by simp [getObj, Sem.run, hob]
      refine ⟨.tuple #[.bool false], w, ?_, rfl, hw, .tuple (.cons (.bool _) .nil)⟩
      unfold Instr.next
      simp only [Sem.run_bind, gi, Result.andThen_ok]
      rfl
    · rename_i m since seen last heq
      cases heq
      obtain ⟨hB, rfl, m', hob, b', s', K', z', hgm, rfl⟩ := h3
      split at hs
      · rename_i es clock he
        obtain ⟨_, _, es', hb2, hr2⟩ := obj_map hw he hgm
        have hall : es'.all (fun e => decide (e.born ≥ last)) = es.all (fun e => decide (last ≤ e.born)) := by
          rw [← Array.all_toList]
          exact hr2.all (fun e e' hbn => by rw [hbn])
        have hemp : es'.isEmpty = es.isEmpty := by
          have hlen := hr2.length
          rw [Array.length_toList] at hlen
          rw [Array.isEmpty, hlen]
          cases es <;> rfl
        have hfil : ERel γ (es.filter fun e => !seen.contains e.born) (es'.toList.filter fun e => !(⟨seen⟩ : Array Nat).contains e.born) := hr2.filter (fun e e' hbn => by rw [hbn]; simp)
        split at hs
        · cases hs
        · rename_i hgd
          have hgd' : (!(⟨seen⟩ : Array Nat).isEmpty && !es'.isEmpty && es'.all (fun e => decide (e.born ≥ last))) = false := by
            rw [hall, hemp]
            have : (⟨seen⟩ : Array Nat).isEmpty = seen.isEmpty := by cases seen <;> rfl
            rw [this]; simpa using hgd
          obtain ⟨q1, q2⟩ := next_map_run (P := P) (ty := ty) hob hb2 hgd'
          generalize hfe : es.filter (fun e => !seen.contains e.born) = fl at hs hfil
          generalize hfe' : es'.toList.filter (fun e => !(⟨seen⟩ : Array Nat).contains e.born) = fl' at hfil q1 q2
          split at hs
          · cases hs
            cases hfil
            exact ⟨_, w, q1 rfl, rfl, hw, .tuple (.cons (.bool _) .nil)⟩
          · split at hs
            · rename_i hlt
              cases hs
              cases hfil with
              | cons a c d t =>
              cases t
              refine ⟨_, _, q2 _ rfl (by rw [d]; exact hlt), rfl, hw.setW hg h1 (by simp) hB ⟨hB, rfl, _, ?_, _, _, _, _, hgm, rfl⟩, .tuple (.cons (.bool _) (.cons a (.cons c .nil)))⟩
              rw [d]; simp
            · cases hs
          · cases hs
      · cases hs
    · cases hs
  · cases hs
end Go.AI
/- All operations together. -/
namespace Go.AI
open Go.RowKit (Below)
variable {P : Program} {T : Tab} {γ : Emb} {h : AH} {w0 w : World}

theorem rh_some {x : Option AH} {v : AV} {h' : AH} (e : rh x = some (.val v h')) : x = some h' ∧ v = .tuple [] := by
  unfold rh at e
  rw [Option.map_eq_some_iff] at e
  obtain ⟨a, h1, h2⟩ := e
  cases h2; exact ⟨h1, rfl⟩
theorem rb_some {x : Option (AV × AH)} {v : AV} {h' : AH} (e : rb x = some (.val v h')) : x = some (v, h') := by
  unfold rb at e
  rw [Option.map_eq_some_iff] at e
  obtain ⟨a, h1, h2⟩ := e
  cases h2; exact h1
theorem rh_enter {x : Option AH} {f : FuncId} {a : List AV} (e : rh x = some (.enter f a)) : False := by
  unfold rh at e
  rw [Option.map_eq_some_iff] at e
  obtain ⟨_, _, h2⟩ := e
  cases h2
theorem rb_enter {x : Option (AV × AH)} {f : FuncId} {a : List AV} (e : rb x = some (.enter f a)) : False := by
  unfold rb at e
  rw [Option.map_eq_some_iff] at e
  obtain ⟨_, _, h2⟩ := e
  cases h2
/-- What an operation that acts comes to. -/
def EffOk (P : Program) (T : Tab) (γ : Emb) (h : AH) (w0 w : World) (s : Sem Next) (v : AV) (h' : AH) : Prop :=
  ∃ nx v' w' γ', s.run P w = .ok nx w' ∧ (nx = .value v' ∨ (nx = .skip ∧ v' = undef)) ∧ Ext h.next γ γ' ∧ h.next ≤ h'.next ∧ WRel T γ' h' w0 w' ∧ VRel γ' v v'
theorem eff_unit {s : Sem Unit} {h' : AH} (hs : ∃ w', s.run P w = .ok () w' ∧ h'.next = h.next ∧ WRel T γ h' w0 w') : EffOk P T γ h w0 w (do s; pure .skip) (.tuple []) h' := by
  obtain ⟨w', h1, h2, h3⟩ := hs
  exact ⟨.skip, undef, w', γ, by simp [h1], .inr ⟨rfl, rfl⟩, Ext.refl _ _, by omega, h3, undef_rel γ⟩
theorem eff_val {s : Sem Value} {v : AV} {h' : AH} (hs : ∃ v' w' γ', s.run P w = .ok v' w' ∧ Ext h.next γ γ' ∧ h.next ≤ h'.next ∧ WRel T γ' h' w0 w' ∧ VRel γ' v v') : EffOk P T γ h w0 w (do pure (.value (← s))) v h' := by
  obtain ⟨v', w', γ', h1, h2, h3, h4, h5⟩ := hs
  exact ⟨.value v', v', w', γ', by simp [h1], .inl rfl, h2, h3, h4, h5⟩
theorem eff_val0 {s : Sem Value} {v : AV} {h' : AH} (hs : ∃ v' w', s.run P w = .ok v' w' ∧ h'.next = h.next ∧ WRel T γ h' w0 w' ∧ VRel γ v v') : EffOk P T γ h w0 w (do pure (.value (← s))) v h' := by
  obtain ⟨v', w', h1, h2, h3, h4⟩ := hs
  exact eff_val ⟨v', w', γ, h1, Ext.refl _ _, by omega, h3, h4⟩
theorem EffOk.of_run {s s' : Sem Next} {v : AV} {h' : AH} (h1 : EffOk P T γ h w0 w s v h') (he : s'.run P w = s.run P w) : EffOk P T γ h w0 w s' v h' := by
  obtain ⟨nx, v', w', γ', h2, h3⟩ := h1
  exact ⟨nx, v', w', γ', he.trans h2, h3⟩
theorem list_two {l : Array Operand} {a b : Operand} (h : l.toList = [a, b]) (ρ : Operand → Value) : l.map ρ = #[ρ a, ρ b] := by
  have : l = #[a, b] := Array.toList_inj.1 h
  subst this; simp
theorem list_one {l : Array Operand} {a : Operand} (h : l.toList = [a]) (ρ : Operand → Value) : l.map ρ = #[ρ a] := by
  have : l = #[a] := Array.toList_inj.1 h
  subst this; simp
theorem at_zero {α : Type} {a : Array α} {x : α} {l : List α} (h : a.toList = x :: l) : a[0]? = some x := by rw [← Array.getElem?_toList, h]; rfl
theorem at_one {α : Type} {a : Array α} {x y : α} {l : List α} (h : a.toList = x :: y :: l) : a[1]? = some y := by rw [← Array.getElem?_toList, h]; rfl
theorem range_sound (hT : TabOk P T) (hw : WRel T γ h w0 w) {t : TypeId} {x : AV} {x' : Value} {ob : AObj} (h1 : arange T h t x = some ob) (hx : VRel γ x x') :
    FreshOk P T γ w0.heap.size w (do pure (.value (← Instr.range t x'))) ob .ptr := by
  have hB : w0.heap.size ≤ w.heap.size := hw.below.size
  unfold arange at h1
  split at h1
  · rename_i l hd
    have := rel_str hx
    cases h1
    refine ⟨_, _, .stringIter ⟨⟨l⟩⟩ 0, 0, 0, ?_, oneMore_alloc w _, fun γ' hg => ⟨fun id hid => .ptr hid, hB, rfl, rfl⟩⟩
    simp [Instr.range, r_desc hT hd (by simp), this]
  · rename_i k e hd
    cases hx
    cases h1
    refine ⟨_, _, .mapIter none 0 #[] 0, 0, 0, ?_, oneMore_alloc w _, fun γ' hg => ⟨fun id hid => .ptr hid, hB, rfl, _, rfl, rfl⟩⟩
    simp [Instr.range, r_desc hT hd (by simp)]
  · rename_i k e r hd
    cases hx with
    | map hg =>
    rename_i b s K z
    split at h1
    · rename_i es c he
      cases h1
      obtain ⟨_, _, es', h3, _⟩ := obj_map hw he hg
      refine ⟨_, _, .mapIter (some b) c #[] c, 0, 0, ?_, oneMore_alloc w _, fun γ' hg' => ⟨fun id hid => .ptr hid, hB, rfl, _, rfl, b, s, K, z, hg' _ _ hg, rfl⟩⟩
      simp [Instr.range, r_desc hT hd (by simp), run_getObj_map' h3]
    · cases h1
  · cases h1
theorem fresh_eff (hw : WRel T γ h w0 w) {s : Sem Next} {ob : AObj} {mk : Mk} (hf : FreshOk P T γ w0.heap.size w s ob mk) : EffOk P T γ h w0 w s (mk.av h.next) (h.new ob).2 := by
  obtain ⟨v', w', o', K, z, g1, g2, g3⟩ := hf
  have hfr := hw.fresh (Nat.le_refl h.next)
  have hle := Emb.le_add (w.heap.size, 0, K, z) hfr
  obtain ⟨g4, g5⟩ := g3 (γ.add h.next (w.heap.size, 0, K, z)) hle
  refine ⟨_, v', w', γ.add h.next (w.heap.size, 0, K, z), g1, .inl rfl, fun id hid => by unfold Emb.add; rw [if_neg (by omega)], by simp [AH.new], ?_, g4 _ (by simp [Emb.add])⟩
  refine hw.new g2.size g2.old g2.os g2.tape g2.output ?_
  rw [g2.new]; exact g5
theorem loadBytes_some : ∀ {l : List AV} {r : List UInt8}, toBytes l = some r → ∀ {L : List Value}, LRel γ l L → ∀ (a : Addr) (acc : ByteArray), (∀ j v, L[j]? = some v → w.cell? (a.add j) = some v) →
    (loadBytes a acc L.length).run P w = .ok (⟨⟨acc.data.toList ++ r⟩⟩ : ByteArray) w
  | [], r, h, _, .nil, a, acc, _ => by
    simp only [toBytes, Option.some.injEq] at h; subst h
    simp [loadBytes]
  | v :: l, r, h, _, .cons hv t, a, acc, hc => by
    unfold toBytes at h
    split at h
    · rename_i heq; cases heq
    · rename_i n rest heq
      cases heq
      rw [Option.map_eq_some_iff] at h
      obtain ⟨r', h1, rfl⟩ := h
      cases hv
      have h0 := hc 0 _ rfl
      have ha0 : a.add 0 = a := by simp [Addr.add]
      rw [ha0] at h0
      have ih := loadBytes_some h1 t (a.add 1) (acc.push n.toNat.toUInt8) (fun j y hy => by
        have := hc (j + 1) y (by simpa using hy)
        have e : (a.add 1).add j = a.add (j + 1) := by
          unfold Addr.add
          by_cases hj : j = 0
          · subst hj; simp
          · simp [hj]; omega
        rw [e]; exact this)
      simp only [List.length_cons, loadBytes, Sem.run_bind, run_load, h0, Result.andThen_ok]
      rw [ih, push_mk]
      simp
    · cases h
theorem heap_freeze {w : World} {b off n : Nat} {c : Array Value} {e : TypeId} {fz : Nat × Nat} (hb : w.heap[b]? = some (.cells c e fz)) : (w.freeze ⟨b, off, none⟩ n).heap.size = w.heap.size ∧ (∀ k, k ≠ b → (w.freeze ⟨b, off, none⟩ n).heap[k]? = w.heap[k]?) ∧
    (w.freeze ⟨b, off, none⟩ n).os = w.os ∧ (w.freeze ⟨b, off, none⟩ n).tape = w.tape ∧ (w.freeze ⟨b, off, none⟩ n).output = w.output ∧ ∃ fz', (w.freeze ⟨b, off, none⟩ n).heap[b]? = some (.cells c e fz') := by
  unfold World.freeze
  split
  · exact ⟨rfl, fun _ _ => rfl, rfl, rfl, rfl, fz, hb⟩
  · refine ⟨by simp, fun k hk => ?_, rfl, rfl, rfl, ?_⟩
    · simp only [Array.getElem?_modify]; rw [if_neg (fun e => hk e.symm)]
    · simp only [Array.getElem?_modify, if_true, hb]
      obtain ⟨lo, hi⟩ := fz
      exact ⟨_, rfl⟩
theorem unsafeString_sound (hT : TabOk P T) (hw : WRel T γ h w0 w) {ts : Array TypeId} {pt ty : TypeId} {p n v : AV} {p' n' : Value} {h' : AH} (h0 : ts.toList.head? = some pt) (hs : aunsafeString T h pt p n = some (v, h')) (hp : VRel γ p p') (hn : VRel γ n n') (hts : ∃ it, ts = #[pt, it]) :
    ∃ v' w', (Builtin.unsafeString_ ts ty #[p', n']).run P w = .ok v' w' ∧ h'.next = h.next ∧ WRel T γ h' w0 w' ∧ VRel γ v v' := by
  have hmax : IntKind.i64.max = 9223372036854775807 := rfl
  obtain ⟨it, rfl⟩ := hts
  unfold aunsafeString at hs
  split at hs
  · cases hn; cases hp; cases hs
    exact ⟨.string .empty, w, Go.Lib.run_unsafeString_none w _ _ _ _, rfl, hw, .str []⟩
  · cases hn; cases hp; cases hs
    exact ⟨.string .empty, w, Go.Lib.run_unsafeString_none w _ _ _ _, rfl, hw, .str []⟩
  · rename_i k n id off _
    cases hn
    cases hp with
    | ptr hg =>
    rename_i b s K z
    split at hs
    · rename_i e cs e' hd ho
      split at hs
      · rename_i hc
        obtain ⟨he, hsz, hn0, hn1⟩ := hc
        obtain rfl := Nat.eq_of_beq_eq_true he
        split at hs
        · rename_i l hl
          split at hs
          · rename_i bs hb
            cases hs
            obtain ⟨hobj, hz, hB, c, e2, fz, q1, q2, q3, q4, q5⟩ := obj_own hw ho hg
            obtain ⟨t1, t2, t3⟩ := obj_type hw hobj hg
            obtain rfl := t3.same q1
            obtain ⟨L, h2, h3, h4⟩ := stretch hw (own_cells ho) hg hl
            obtain ⟨s5, _, _⟩ := sub_some hl
            obtain ⟨j, hj, hjd⟩ := descOf_some hd (by simp)
            have hu := (hT.ty pt j hj).1
            rw [hjd] at hu
            have hcell : P.cellsOf e2 = 1 := by
              unfold szOf at hsz
              split at hsz
              · rename_i i hi
                obtain ⟨_, info, _, g1, g2, _⟩ := hT.ty e2 i hi
                simp [Program.cellsOf, g1, g2, hsz]
              · cases hsz
            have hlies := liesAt_self (P := P) (e := e2) (count := c.size / P.cellsOf e2) (off := s + off) (n := n.toNat) (by omega) (by rw [hcell]; omega) (by rw [hcell]; simp; omega)
            have hlb := loadBytes_some (P := P) hb h2 ⟨b, s + off, none⟩ .empty h4
            rw [h3] at hlb
            obtain ⟨f1, f2, f3, f4, f5, fz', f6⟩ := heap_freeze (off := s + off) (n := n.toNat) q1
            refine ⟨.string ⟨⟨bs⟩⟩, w.freeze ⟨b, s + off, none⟩ n.toNat, ?_, rfl, ?_, .str _⟩
            · have hdef : Builtin.unsafeString_ #[pt, it] ty #[.pointer (some ⟨b, s + off, none⟩), .int k n] =
                  (do
                    let n ← asInt (.int k n)
                    if n < 0 then runtimePanic (.error "unsafe.String: len out of range")
                    if n > IntKind.i64.max then unsupported (.unsafePointer "String: a length above the largest int")
                    if n = 0 then pure (.string .empty)
                    else if ← variablesAt ⟨b, s + off, none⟩ (← elemOf pt) n.toNat then do
                      let str ← loadBytes ⟨b, s + off, none⟩ .empty n.toNat
                      freeze ⟨b, s + off, none⟩ n.toNat
                      pure (.string str)
                    else unsupported (.unsafePointer "String: not so many bytes at ptr")) := rfl
              rw [hdef]
              have e1 : ¬ n < 0 := by omega
              have e2' : ¬ (9223372036854775807 : Int) < n := by omega
              have e3 : ¬ n = 0 := by omega
              simp [asInt, asIntOf, hmax, e1, e2', e3, variablesAt, shape_of q1, elemOf, run_underlying hu, hlies, hlb]
            · refine hw.update hg hobj (by simp) hB f1 f2 f3 f4 f5 ?_
              rw [f6]
              exact ⟨⟨t1, t2, ofType_cells⟩, c, e2, fz', rfl, q2, q3, q4, fun h => by cases h⟩
          · cases hs
        · cases hs
      · cases hs
    · cases hs
  · cases hs
theorem eff_sound (hT : TabOk P T) (hw : WRel T γ h w0 w) {env : Env} {ρ : Operand → Value} {o : Oper} (hρ : ∀ x ∈ o.op.operands.toList, VRel γ (aev env x) (ρ x)) {v : AV} {h' : AH} (hv : aeff T env h o.op = some (.val v h')) :
    EffOk P T γ h w0 w (execOp ρ o) v h' := by
  unfold execOp
  cases ho : o.op <;> rw [ho] at hv hρ <;> simp only [aeff] at hv <;> (try (cases hv; done))
  case store t a x =>
    obtain ⟨h1, rfl⟩ := rh_some hv
    obtain ⟨p, w', g1, g2, g3⟩ := store_rel hT hw h1 (hρ a (by simp [Op.operands])) (hρ x (by simp [Op.operands]))
    have hn : h'.next = h.next := by
      unfold astore at h1
      split at h1
      · split at h1
        · split at h1
          · exact put_next h1
          · cases h1
        · cases h1
      · cases h1
    refine (eff_unit ⟨w', g2, hn, g3⟩).of_run ?_
    simp [Instr.storeAt, Instr.sureAddr, g1]
  case mapUpdate t m k x =>
    obtain ⟨h1, rfl⟩ := rh_some hv
    exact eff_unit (mapUpdate_sound hT hw h1 (hρ m (by simp [Op.operands])) (hρ k (by simp [Op.operands])) (hρ x (by simp [Op.operands])))
  case insert t m k x =>
    obtain ⟨h1, rfl⟩ := rh_some hv
    exact eff_unit (mapUpdate_sound hT hw h1 (hρ m (by simp [Op.operands])) (hρ k (by simp [Op.operands])) (hρ x (by simp [Op.operands])))
  case mapEntry t m k => exact eff_val0 (mapEntry_sound hT hw (rb_some hv) (hρ m (by simp [Op.operands])) (hρ k (by simp [Op.operands])))
  case entryStore t m s x =>
    obtain ⟨h1, rfl⟩ := rh_some hv
    exact eff_unit (entryStore_sound hw h1 (hρ m (by simp [Op.operands])) (hρ s (by simp [Op.operands])) (hρ x (by simp [Op.operands])))
  case range t x =>
    have := rb_some hv
    rw [Option.map_eq_some_iff] at this
    obtain ⟨ob, h1, h2⟩ := this
    cases h2
    exact fresh_eff hw (range_sound hT hw h1 (hρ x (by simp [Op.operands])))
  case next it isS => exact eff_val0 (next_sound hw (rb_some hv) (hρ it (by simp [Op.operands])))
  case call c =>
    split at hv
    · rename_i hc
      split at hv
      · rename_i t xt rest s x h1 h2
        have a1 := hρ s (by simp [Op.operands, Call.operands, hc, h2])
        have a2 := hρ x (by simp [Op.operands, Call.operands, hc, h2])
        refine (eff_val (append_sound hT hw (ts := c.argTypes) (ty := o.type) (at_zero h1) (at_one h1) (rb_some hv) a1 a2)).of_run ?_
        simp only [resolve, hc, Sem.run_bind, Sem.run_pure, Result.andThen_ok, invoke, builtin, list_two h2]
      · cases hv
    · rename_i hc
      split at hv
      · rename_i t rest s x h1 h2
        have a1 := hρ s (by simp [Op.operands, Call.operands, hc, h2])
        have a2 := hρ x (by simp [Op.operands, Call.operands, hc, h2])
        refine (eff_val0 (copy_sound hT hw (ts := c.argTypes) (ty := o.type) (at_zero h1) (rb_some hv) a1 a2)).of_run ?_
        simp only [resolve, hc, Sem.run_bind, Sem.run_pure, Result.andThen_ok, invoke, builtin, list_two h2]
      · cases hv
    · rename_i hc
      split at hv
      · rename_i t rest s x h1 h2
        have a1 := hρ s (by simp [Op.operands, Call.operands, hc, h2])
        have a2 := hρ x (by simp [Op.operands, Call.operands, hc, h2])
        obtain ⟨h3, rfl⟩ := rh_some hv
        obtain ⟨w', g1, g2, g3⟩ := delete_sound hT hw (ts := c.argTypes) (ty := o.type) (at_zero h1) h3 a1 a2
        refine (eff_val0 ⟨.tuple #[], w', g1, g2, g3, undef_rel γ⟩).of_run ?_
        simp only [resolve, hc, Sem.run_bind, Sem.run_pure, Result.andThen_ok, invoke, builtin, list_two h2]
      · cases hv
    · rename_i hc
      split at hv
      · rename_i t rest x h1 h2
        have a2 := hρ x (by simp [Op.operands, Call.operands, hc, h2])
        obtain ⟨h3, rfl⟩ := rh_some hv
        obtain ⟨w', g1, g2, g3⟩ := clear_sound hT hw (ts := c.argTypes) (ty := o.type) (at_zero h1) h3 a2
        refine (eff_val0 ⟨.tuple #[], w', g1, g2, g3, undef_rel γ⟩).of_run ?_
        simp only [resolve, hc, Sem.run_bind, Sem.run_pure, Result.andThen_ok, invoke, builtin, list_one h2]
      · cases hv
    · rename_i hc
      split at hv
      · rename_i t it p n h1 h2
        have a1 := hρ p (by simp [Op.operands, Call.operands, hc, h2])
        have a2 := hρ n (by simp [Op.operands, Call.operands, hc, h2])
        refine (eff_val0 (unsafeString_sound hT hw (ts := c.argTypes) (ty := o.type) (by rw [h1]; rfl) (rb_some hv) a1 a2 ⟨it, Array.toList_inj.1 h1⟩)).of_run ?_
        simp only [resolve, hc, Sem.run_bind, Sem.run_pure, Result.andThen_ok, invoke, builtin, list_two h2]
      · cases hv
    · rename_i fo hc
      split at hv
      · rename_i g cap hg
        split at hv
        · cases hv
        · rename_i code hx
          split at hv
          · rename_i x h2
            cases hv
            have a1 := hρ fo (by simp [Op.operands, Call.operands, hc])
            rw [hg] at a1
            obtain ⟨F, k1, k2, k3, k4, k5⟩ := hT.ext g code hx
            have a2 := hρ x (by simp [Op.operands, Call.operands, hc, h2])
            generalize hu : ρ fo = u at a1
            cases a1 with
            | func hcap =>
            cases hcap
            refine (eff_val0 (s := Extern.AbiNoEscape.same #[ρ x]) ⟨ρ x, w, Go.Lib.run_noEscape w _, rfl, hw, a2⟩).of_run ?_
            have hval : (⟨[]⟩ ++ c.args.map ρ ++ ⟨[]⟩ : Array Value) = #[ρ x] := by
              rw [list_one h2]; rfl
            simp only [resolve, hc, hu, Deferred.ofValue, Sem.run_bind, Sem.run_pure, Result.andThen_ok, invoke, hval]
            rw [run_callFunc_extern k1 k2 k3 k4 k5, Go.Lib.run_noEscape]
          · cases hv
      · split at hv <;> cases hv
      · cases hv
    · cases hv
theorem enter_sound (hT : TabOk P T) (w : World) {env : Env} {ρ : Operand → Value} {o : Oper} (hρ : ∀ x ∈ o.op.operands.toList, VRel γ (aev env x) (ρ x)) {f : FuncId} {args : List AV} (hv : aeff T env h o.op = some (.enter f args)) {fn : AFunc} (hf : T.ft.get f = some fn) :
    ∃ args', (execOp ρ o).run P w = .ok (.enter f ⟨args'⟩) w ∧ LRel γ args args' := by
  unfold execOp
  cases ho : o.op <;> rw [ho] at hv hρ <;> simp only [aeff] at hv <;> (try (cases hv; done)) <;> (try (exact (rh_enter hv).elim)) <;> (try (exact (rb_enter hv).elim))
  case call c =>
    split at hv
    · split at hv
      · exact (rb_enter hv).elim
      · cases hv
    · split at hv
      · exact (rb_enter hv).elim
      · cases hv
    · split at hv
      · exact (rh_enter hv).elim
      · cases hv
    · split at hv
      · exact (rh_enter hv).elim
      · cases hv
    · split at hv
      · exact (rb_enter hv).elim
      · cases hv
    · rename_i fo hc
      split at hv
      · rename_i g cap hg
        split at hv
        case h_2 => split at hv <;> cases hv
        cases hv
        have a1 := hρ fo (by simp [Op.operands, Call.operands, hc])
        rw [hg] at a1
        obtain ⟨F, k1, k2, k3, _⟩ := hT.fn f fn hf
        have hargs : LRel γ (c.args.toList.map (aev env)) (c.args.toList.map ρ) := lrel_map fun x hx => hρ x (by simp [Op.operands, Call.operands, hc] at hx ⊢; exact .inr hx)
        generalize hu : ρ fo = u at a1
        cases a1 with
        | func hcap =>
        rename_i cs'
        refine ⟨c.args.toList.map ρ ++ cs', ?_, hargs.append hcap⟩
        have hval : (⟨[]⟩ ++ c.args.map ρ ++ ⟨cs'⟩ : Array Value) = ⟨c.args.toList.map ρ ++ cs'⟩ := by
          apply Array.toList_inj.1; simp
        simp only [resolve, hc, hu, Deferred.ofValue, Sem.run_bind, Sem.run_pure, Result.andThen_ok, invoke, hval, callFunc, run_program, k1, k2, Bool.false_eq_true, if_false, k3, Option.isNone_some]
      · rename_i g first hg
        split at hv
        case h_2 => cases hv
        cases hv
        have a1 := hρ fo (by simp [Op.operands, Call.operands, hc])
        rw [hg] at a1
        obtain ⟨F, k1, k2, k3, _⟩ := hT.fn f fn hf
        have hargs : LRel γ (c.args.toList.map (aev env)) (c.args.toList.map ρ) := lrel_map fun x hx => hρ x (by simp [Op.operands, Call.operands, hc] at hx ⊢; exact .inr hx)
        generalize hu : ρ fo = u at a1
        cases a1 with
        | meth hcap =>
        rename_i cs'
        refine ⟨cs' ++ c.args.toList.map ρ, ?_, hcap.append hargs⟩
        have hval : (⟨cs'⟩ ++ c.args.map ρ ++ ⟨[]⟩ : Array Value) = ⟨cs' ++ c.args.toList.map ρ⟩ := by
          apply Array.toList_inj.1; simp
        simp only [resolve, hc, hu, Deferred.ofValue, Sem.run_bind, Sem.run_pure, Result.andThen_ok, invoke, hval, callFunc, run_program, k1, k2, Bool.false_eq_true, if_false, k3, Option.isNone_some]
      · cases hv
    · cases hv
end Go.AI
