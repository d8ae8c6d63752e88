import Derived.Test.YtfjloafebkjadaaGreatDoorAIOps6
import Derived.IntWalk
/- Operations that make an object. -/
namespace Go.AI
open Go.RowKit (Below)
variable {P : Program} {T : Tab} {γ : Emb} {h : AH} {w0 w : World}

/-- The world has one block more. -/
structure OneMore (w w' : World) (o : Obj) : Prop where
  size : w'.heap.size = w.heap.size + 1
  old : ∀ k, k < w.heap.size → w'.heap[k]? = w.heap[k]?
  new : w'.heap[w.heap.size]? = some o
  os : w'.os = w.os
  tape : w'.tape = w.tape
  output : w'.output = w.output
theorem oneMore_alloc (w : World) (o : Obj) : OneMore w { w with heap := w.heap.push o } o :=
  ⟨by simp, fun k hk => by simp [Array.getElem?_push]; omega, by simp, rfl, rfl, rfl⟩
theorem lrel_cells {l : List AV} {a : Array Value} (h : LRel γ l a.toList) (i : Nat) (v : AV) (hi : l[i]? = some v) : ∃ v', a[i]? = some v' ∧ VRel γ v v' := by
  obtain ⟨v', h1, h2⟩ := h.get hi
  exact ⟨v', by rw [← h1]; simp, h2⟩
theorem lrel_size {l : List AV} {a : Array Value} (h : LRel γ l a.toList) : a.size = l.length := by rw [← h.length]; simp
theorem orel_new {B b : Nat} {e : TypeId} {l : List AV} {a : Array Value} (hl : LRel γ l a.toList) (hB : B ≤ b) : ORel T γ B (some (.cells a e)) b 0 l.length (szOf T e) (.cells l e false) := by
  refine ⟨⟨rfl, Nat.zero_mod _, ofType_cells⟩, a, e, (0, 0), rfl, fun i v hi => ?_, by rw [lrel_size hl]; omega, Nat.le_refl _, fun _ => ⟨hB, fun j _ _ => by omega⟩⟩
  rw [Nat.zero_add]; exact lrel_cells hl i v hi
theorem zeros_get {z : List AV} {z' : Array Value} (hz : LRel γ z z'.toList) : ∀ (n i : Nat) (v : AV), (rep n z)[i]? = some v → VRel γ v (z'[i % z'.size]!)
  | 0, i, v, h => by simp [rep] at h
  | n + 1, i, v, h => by
    rw [rep, List.getElem?_append] at h
    have hs := lrel_size hz
    split at h
    · rename_i hi
      obtain ⟨v', h1, h2⟩ := lrel_cells hz i v h
      rw [hs, Nat.mod_eq_of_lt hi]
      rw [getElem!_def, h1]; exact h2
    · rename_i hi
      have h0 : 0 < z.length := by
        rcases Nat.eq_zero_or_pos z.length with h0 | h0
        · have h2 := List.getElem?_eq_some_iff.1 h
          obtain ⟨h2, _⟩ := h2
          rw [rep_length, h0, Nat.mul_zero] at h2
          omega
        · exact h0
      have := zeros_get hz n (i - z.length) v h
      rw [hs] at this ⊢
      rwa [← Nat.mod_eq_sub_mod (by omega)] at this
theorem zeros_rel {z : List AV} {z' : Array Value} (hz : LRel γ z z'.toList) (n : Nat) : LRel γ (rep n z) ((Array.range (n * z.length)).map (fun i => z'[i % z'.size]!)).toList := by
  refine LRel.of_get (by simp [rep_length]) fun i v hi => ?_
  have hlt : i < n * z.length := by
    obtain ⟨h1, _⟩ := List.getElem?_eq_some_iff.1 hi
    rwa [rep_length] at h1
  exact ⟨z'[i % z'.size]!, by simp [hlt], zeros_get hz n i v hi⟩
/-- What a fresh operation does. -/
def FreshOk (P : Program) (T : Tab) (γ : Emb) (B : Nat) (w : World) (s : Sem Next) (o : AObj) (mk : Mk) : Prop :=
  ∃ v' w' ob K z, s.run P w = .ok (.value v') w' ∧ OneMore w w' ob ∧ ∀ γ' : Emb, γ.le γ' → (∀ id, γ' id = some (w.heap.size, 0, K, z) → VRel γ' (mk.av id) v') ∧ ORel T γ' B (some ob) w.heap.size 0 K z o
theorem fresh_row {B : Nat} (hB : B ≤ w.heap.size) {e : TypeId} {l : List AV} {a : Array Value} (hl : LRel γ l a.toList) : FreshOk P T γ B w (do pure (.value (.pointer (some (← newRow e a))))) (.cells l e false) .ptr :=
  ⟨_, _, _, l.length, szOf T e, by simp [newRow], oneMore_alloc w (.cells a e), fun γ' hg => ⟨fun id hid => .ptr hid, orel_new (hl.mono hg) hB⟩⟩
theorem fresh_slice {B : Nat} (hB : B ≤ w.heap.size) {e : TypeId} {l : List AV} {a : Array Value} (hl : LRel γ l a.toList) (n c : Nat) : FreshOk P T γ B w (do pure (.value (.slice (some (← newRow e a)) n c))) (.cells l e false) (.slice n c true) :=
  ⟨_, _, _, l.length, szOf T e, by simp [newRow], oneMore_alloc w (.cells a e), fun γ' hg => ⟨fun id hid => .slice hid, orel_new (hl.mono hg) hB⟩⟩
theorem FreshOk.of_run {B : Nat} {s s' : Sem Next} {o : AObj} {mk : Mk} (h : FreshOk P T γ B w s o mk) (he : s'.run P w = s.run P w) : FreshOk P T γ B w s' o mk := by
  obtain ⟨v', w', ob, K, z, h1, h2⟩ := h
  exact ⟨v', w', ob, K, z, he.trans h1, h2⟩
theorem wrap_id {n : Int} (h0 : 0 ≤ n) (h1 : n ≤ 2 ^ 40) : IntKind.i64.wrap n = n := IntWalk.i64_in n (by omega)
theorem bytes_fresh (hT : TabOk P T) {B : Nat} {sr d e : TypeId} {si : TInfo} {l : List UInt8} {v : Value} (hs : T.tt.get sr = some si) (hd : descOf T d = .slice e) (hb : isByte T e = true) (hz : szOf T e = 1) (hB : B ≤ w.heap.size) (hv : v = .string ⟨⟨l⟩⟩) :
    FreshOk P T γ B w (do pure (.value (← convert sr d v))) (.cells (l.map fun b => .int .u8 b.toNat) e false) (.slice l.length 0 false) := by
  subst hv
  have hsz : (⟨⟨l⟩⟩ : ByteArray).size = l.length := rfl
  obtain ⟨cap, hcap, hle⟩ : ∃ cap, cap = (Question.appendCap l.length 0 e).cut (w.tape w.drawn (.appendCap l.length 0 e)) ∧ l.length ≤ cap := ⟨_, rfl, by simp [Question.cut]⟩
  have hrun : (convert sr d (.string ⟨⟨l⟩⟩)).run P w = (Conv.stringToBytes e ⟨⟨l⟩⟩).run P w := by
    unfold convert
    simp only [Sem.run_bind, r_underlying hT hs, r_desc hT hd (by simp), Result.andThen_ok]
    cases si.desc <;> simp only [r_desc hT (isByte_desc hb) (by simp), Result.andThen_ok]
  let C : Array Value := ((⟨⟨l⟩⟩ : ByteArray).data.map fun b => Value.int .u8 b.toNat) ++ Array.replicate (cap - l.length) (.int .u8 0)
  have hC : C.size = cap := by simp [C]; omega
  refine ⟨.slice (some ⟨w.heap.size, 0, none⟩) l.length cap, ((w.drew).alloc (.cells C e)).freeze ⟨w.heap.size, C.size, none⟩ 1, .cells C e (C.size, C.size + 1), cap, 1, ?_, ?_, fun γ' hg => ⟨fun id hid => ?_, ?_⟩⟩
  · simp only [Sem.run_bind, hrun, Conv.stringToBytes, hsz]
    simp only [run_choose, Question.forced, Bool.false_eq_true, if_false, Result.andThen_ok, ← hcap, newRow, Sem.run_bind, run_newObj, Sem.run_pure, markStringish, run_shape]
    simp only [World.shape?, Array.getElem?_push_size, run_freeze, Result.andThen_ok]
    rfl
  · have e1 : ∀ W : World, ∀ a : Addr, (W.freeze a 1).heap.size = W.heap.size := fun W a => by simp only [World.freeze]; rw [if_neg (by omega)]; simp
    refine ⟨by rw [e1]; simp, fun k hk => ?_, ?_, rfl, rfl, rfl⟩
    · simp only [World.freeze, World.alloc, World.drew]
      rw [if_neg (by omega), Array.getElem?_modify, if_neg (by omega), Array.getElem?_push, if_neg (by omega)]
    · simp only [World.freeze, World.alloc, World.drew]
      rw [if_neg (by omega), Array.getElem?_modify, if_pos rfl, Array.getElem?_push_size]
      simp
  · have := VRel.grown (γ := γ') (off := 0) (len := l.length) (c := 0) (cap := cap) hid (by omega) hle
    rw [Nat.add_zero] at this
    exact this
  · refine ⟨⟨hz.symm, Nat.zero_mod _, ofType_cells⟩, C, e, (C.size, C.size + 1), rfl, fun i v hi => ?_, by omega, by simp; omega, fun _ => ⟨hB, fun j _ hj => by omega⟩⟩
    rw [List.getElem?_map, Option.map_eq_some_iff] at hi
    obtain ⟨b, h1, rfl⟩ := hi
    obtain ⟨hlt, _⟩ := List.getElem?_eq_some_iff.1 h1
    refine ⟨_, ?_, .int _ _⟩
    rw [Nat.zero_add]
    simp only [C]
    rw [Array.getElem?_append_left (by simpa using hlt)]
    simp [h1]
theorem fresh_sound (hT : TabOk P T) (hw : WRel T γ h w0 w) {env : Env} {ρ : Operand → Value} {o : Oper} (hρ : ∀ x ∈ o.op.operands.toList, VRel γ (aev env x) (ρ x)) {b : AObj} {mk : Mk} (hv : afresh T env o.op = some (b, mk)) :
    FreshOk P T γ w0.heap.size w (execOp ρ o) b mk := by
  have hB : w0.heap.size ≤ w.heap.size := hw.below.size
  unfold execOp
  cases ho : o.op <;> rw [ho] at hv hρ <;> simp only [afresh] at hv <;> (try (cases hv; done))
  case alloc e =>
    split at hv
    · rename_i i hi
      cases hv
      obtain ⟨z, h1, h2, h3, h4⟩ := r_zero hT hi w
      have hl : LRel γ i.zero z.cells.toList := by rw [h2]; exact (toAV_rel γ z).cells h4
      exact (fresh_row hB hl).of_run (by simp [Instr.alloc, h1, newVar])
    · cases hv
  case box e x =>
    split at hv
    · rename_i i hi
      split at hv
      · rename_i hk
        cases hv
        have hl : LRel γ (aev env x).cells (ρ x).cells.toList := (hρ x (by simp [Op.operands])).cells (known_ne hk)
        exact (fresh_row hB hl).of_run (by simp [Instr.box, newVar])
      · cases hv
    · cases hv
  case buildSlice t n ps =>
    unfold abuildSlice at hv
    split at hv
    · rename_i e hd
      split at hv
      · rename_i ei he
        split at hv
        · rename_i hc
          split at hv
          · rename_i cs hf
            cases hv
            obtain ⟨z, h1, h2, h3, h4⟩ := r_zero hT he w
            have hz : LRel γ ei.zero z.cells.toList := by rw [h2]; exact (toAV_rel γ z).cells h4
            have hp : PRel γ (ps.toList.map fun p => (p.1, aev env p.2)) (ps.map fun p => (p.1, ρ p.2)).toList := by
              rw [toArray_map]
              exact prel_map fun x hx => hρ x (by simpa [Op.operands] using hx)
            have hz0 : ∀ z' : Array Value, (n * ei.size = 0 ∨ z' = z.cells) → LRel γ (rep n ei.zero) ((Array.range (n * ei.size)).map (fun i => z'[i % z'.size]!)).toList := by
              intro z' hz'
              rcases hz' with h0 | rfl
              · have : rep n ei.zero = [] := List.length_eq_zero_iff.1 (by rw [rep_length, hc.2]; exact h0)
                rw [this, h0]; simp; exact .nil
              · have := zeros_rel hz n
                rwa [hc.2] at this
            by_cases h0 : n * ei.size = 0
            · obtain ⟨r', g1, g2⟩ := fill_rel (γ := γ) (place' := fun i => some (i * ei.size, ei.size)) (fun i => rfl) hp (hz0 #[] (.inl h0)) hf
              refine (fresh_slice hB g2 n n).of_run ?_
              simp only [Instr.buildSlice, Sem.run_bind, r_desc hT hd (by simp), Result.andThen_ok, r_sizeOf hT he]
              rw [if_neg (by omega), if_pos h0]
              simp only [Sem.run_pure, Result.andThen_ok, Sem.run_bind]
              rw [h0] at g1 ⊢
              erw [g1]
              simp [newRow]
            · obtain ⟨r', g1, g2⟩ := fill_rel (γ := γ) (place' := fun i => some (i * ei.size, ei.size)) (fun i => rfl) hp (hz0 z.cells (.inr rfl)) hf
              refine (fresh_slice hB g2 n n).of_run ?_
              simp only [Instr.buildSlice, Sem.run_bind, r_desc hT hd (by simp), Result.andThen_ok, r_sizeOf hT he]
              rw [if_neg (by omega), if_neg h0]
              simp only [Sem.run_pure, Result.andThen_ok, Sem.run_bind, h1]
              erw [g1]
              simp [newRow]
          · cases hv
        · cases hv
      · cases hv
    · cases hv
  case makeMap t r =>
    have core : FreshOk P T γ w0.heap.size w (do pure (.value (.map (some (← newObj (.map #[] 0)))))) (.map [] 0) .map :=
      ⟨_, _, _, 0, 0, by simp, oneMore_alloc w _, fun γ' hg => ⟨fun id hid => .map hid, hB, #[], rfl, .nil⟩⟩
    cases r with
    | none =>
      simp only at hv
      split at hv
      · cases hv
        exact core.of_run (by simp [Instr.makeMap])
      · cases hv
    | some x =>
      simp only at hv
      split at hv
      · rename_i k e kk n hd hx
        cases hv
        have hx' := hρ x (by simp [Op.operands])
        rw [hx] at hx'
        have := rel_int hx'
        refine core.of_run ?_
        simp [Instr.makeMap, this, r_desc hT hd (by simp), asInt, asIntOf]
      · cases hv
  case makeSlice t l c =>
    unfold amakeSlice at hv
    split at hv
    · rename_i e kl l0 kc c0 hd hl hc
      split at hv
      · rename_i ei he
        split at hv
        · rename_i hcond
          obtain ⟨c1, c2, c3, c4, c5⟩ := hcond
          cases hv
          have hl' := hρ l (by simp [Op.operands])
          have hc' := hρ c (by simp [Op.operands])
          rw [hl] at hl'; rw [hc] at hc'
          have el := rel_int hl'
          have ec := rel_int hc'
          obtain ⟨info, z, h1, h2, h3, h4, h5, h6, h7, h8⟩ := r_info hT he w
          have hz : LRel γ ei.zero z.cells.toList := by rw [h6]; exact (toAV_rel γ z).cells h8
          have hzv : (zeroValue e).run P w = .ok z w := by simp [zeroValue, h1, h5]
          have wl := wrap_id c1 (by omega)
          have wc := wrap_id (Int.le_trans c1 c2) c3
          have hmb : (maxBytes : Int) = 70368744177664 := by decide
          have hbc : ((info.bytes : Int) * c0 : Int) = c0 * ei.bytes := by rw [h4, Int.mul_comm]
          have hbl : ((info.bytes : Int) * l0 : Int) ≤ 70368744177664 := by
            have : (info.bytes : Int) * l0 ≤ info.bytes * c0 := Int.mul_le_mul_of_nonneg_left c2 (by omega)
            omega
          have t1 : ¬ ((decide (c0 < 0) || decide ((info.bytes : Int) * c0 > 2 ^ 48) || decide (l0 < 0) || decide (l0 > c0)) = true) := by
            simp; omega
          by_cases h0 : c0.toNat * ei.size = 0
          · have hrep : rep c0.toNat ei.zero = [] := List.length_eq_zero_iff.1 (by rw [rep_length, c5]; exact h0)
            have hlr : LRel γ (rep c0.toNat ei.zero) ((Array.range (c0.toNat * ei.size)).map (fun i => (#[] : Array Value)[i % (#[] : Array Value).size]!)).toList := by
              rw [hrep, h0]; simp; exact .nil
            refine (fresh_slice hB hlr l0.toNat c0.toNat).of_run ?_
            simp only [Instr.makeSlice, Sem.run_bind, r_desc hT hd (by simp), Result.andThen_ok, el, ec, asInt, asIntOf, Sem.run_pure, h1, wl, wc]
            rw [if_neg t1]
            simp only [Sem.run_bind, run_askRoom, Result.andThen_ok, r_sizeOf hT he]
            rw [if_pos h0]
            simp [newRow]
          · have hlr := zeros_rel hz c0.toNat
            rw [c5] at hlr
            refine (fresh_slice hB hlr l0.toNat c0.toNat).of_run ?_
            simp only [Instr.makeSlice, Sem.run_bind, r_desc hT hd (by simp), Result.andThen_ok, el, ec, asInt, asIntOf, Sem.run_pure, h1, wl, wc]
            rw [if_neg t1]
            simp only [Sem.run_bind, run_askRoom, Result.andThen_ok, r_sizeOf hT he]
            rw [if_neg h0]
            simp [hzv, newRow]
        · cases hv
      · cases hv
    · cases hv
  case convert s d x =>
    split at hv
    · rename_i si e l hsr hd hx
      split at hv
      · rename_i hc
        cases hv
        have hx' := hρ x (by simp [Op.operands])
        rw [hx] at hx'
        exact bytes_fresh hT hsr hd hc.1 hc.2 hB (rel_str hx')
      · cases hv
    · cases hv
end Go.AI
