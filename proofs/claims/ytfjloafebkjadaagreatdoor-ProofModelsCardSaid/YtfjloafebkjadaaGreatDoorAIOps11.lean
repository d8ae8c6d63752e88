import Derived.Laws.Externs
import Derived.Test.YtfjloafebkjadaaGreatDoorAIOps10
/- All operations together. -/
namespace Go.AI
open Go.RowKit (Below)
variable {P : Program} {T : Tab} {γ : Emb} {h : AH} {w0 w : World}

theorem rh_some {x : Option AH} {v : AV} {h' : AH} (e : rh x = some (.val v h')) : x = some h' ∧ v = .tuple [] := by
  unfold rh at e
  rw [Option.map_eq_some_iff] at e
  obtain ⟨a, h1, h2⟩ := e
  cases h2; exact ⟨h1, rfl⟩
theorem rb_some {x : Option (AV × AH)} {v : AV} {h' : AH} (e : rb x = some (.val v h')) : x = some (v, h') := by
  unfold rb at e
  rw [Option.map_eq_some_iff] at e
  obtain ⟨a, h1, h2⟩ := e
  cases h2; exact h1
theorem rh_enter {x : Option AH} {f : FuncId} {a : List AV} (e : rh x = some (.enter f a)) : False := by
  unfold rh at e
  rw [Option.map_eq_some_iff] at e
  obtain ⟨_, _, h2⟩ := e
  cases h2
theorem rb_enter {x : Option (AV × AH)} {f : FuncId} {a : List AV} (e : rb x = some (.enter f a)) : False := by
  unfold rb at e
  rw [Option.map_eq_some_iff] at e
  obtain ⟨_, _, h2⟩ := e
  cases h2
/-- What an operation that acts comes to. -/
def EffOk (P : Program) (T : Tab) (γ : Emb) (h : AH) (w0 w : World) (s : Sem Next) (v : AV) (h' : AH) : Prop :=
  ∃ nx v' w' γ', s.run P w = .ok nx w' ∧ (nx = .value v' ∨ (nx = .skip ∧ v' = undef)) ∧ Ext h.next γ γ' ∧ h.next ≤ h'.next ∧ WRel T γ' h' w0 w' ∧ VRel γ' v v'
theorem eff_unit {s : Sem Unit} {h' : AH} (hs : ∃ w', s.run P w = .ok () w' ∧ h'.next = h.next ∧ WRel T γ h' w0 w') : EffOk P T γ h w0 w (do s; pure .skip) (.tuple []) h' := by
  obtain ⟨w', h1, h2, h3⟩ := hs
  exact ⟨.skip, undef, w', γ, by simp [h1], .inr ⟨rfl, rfl⟩, Ext.refl _ _, by omega, h3, undef_rel γ⟩
theorem eff_val {s : Sem Value} {v : AV} {h' : AH} (hs : ∃ v' w' γ', s.run P w = .ok v' w' ∧ Ext h.next γ γ' ∧ h.next ≤ h'.next ∧ WRel T γ' h' w0 w' ∧ VRel γ' v v') : EffOk P T γ h w0 w (do pure (.value (← s))) v h' := by
  obtain ⟨v', w', γ', h1, h2, h3, h4, h5⟩ := hs
  exact ⟨.value v', v', w', γ', by simp [h1], .inl rfl, h2, h3, h4, h5⟩
theorem eff_val0 {s : Sem Value} {v : AV} {h' : AH} (hs : ∃ v' w', s.run P w = .ok v' w' ∧ h'.next = h.next ∧ WRel T γ h' w0 w' ∧ VRel γ v v') : EffOk P T γ h w0 w (do pure (.value (← s))) v h' := by
  obtain ⟨v', w', h1, h2, h3, h4⟩ := hs
  exact eff_val ⟨v', w', γ, h1, Ext.refl _ _, by omega, h3, h4⟩
theorem EffOk.of_run {s s' : Sem Next} {v : AV} {h' : AH} (h1 : EffOk P T γ h w0 w s v h') (he : s'.run P w = s.run P w) : EffOk P T γ h w0 w s' v h' := by
  obtain ⟨nx, v', w', γ', h2, h3⟩ := h1
  exact ⟨nx, v', w', γ', he.trans h2, h3⟩
theorem list_two {l : Array Operand} {a b : Operand} (h : l.toList = [a, b]) (ρ : Operand → Value) : l.map ρ = #[ρ a, ρ b] := by
  have : l = #[a, b] := Array.toList_inj.1 h
  subst this; simp
theorem list_one {l : Array Operand} {a : Operand} (h : l.toList = [a]) (ρ : Operand → Value) : l.map ρ = #[ρ a] := by
  have : l = #[a] := Array.toList_inj.1 h
  subst this; simp
theorem at_zero {α : Type} {a : Array α} {x : α} {l : List α} (h : a.toList = x :: l) : a[0]? = some x := by rw [← Array.getElem?_toList, h]; rfl
theorem at_one {α : Type} {a : Array α} {x y : α} {l : List α} (h : a.toList = x :: y :: l) : a[1]? = some y := by rw [← Array.getElem?_toList, h]; rfl
theorem range_sound (hT : TabOk P T) (hw : WRel T γ h w0 w) {t : TypeId} {x : AV} {x' : Value} {ob : AObj} (h1 : arange T h t x = some ob) (hx : VRel γ x x') :
    FreshOk P T γ w0.heap.size w (do pure (.value (← Instr.range t x'))) ob .ptr := by
  have hB : w0.heap.size ≤ w.heap.size := hw.below.size
  unfold arange at h1
  split at h1
  · rename_i l hd
    have := rel_str hx
    cases h1
    refine ⟨_, _, .stringIter ⟨⟨l⟩⟩ 0, 0, 0, ?_, oneMore_alloc w _, fun γ' hg => ⟨fun id hid => .ptr hid, hB, rfl, rfl⟩⟩
    simp [Instr.range, r_desc hT hd (by simp), this]
  · rename_i k e hd
    cases hx
    cases h1
    refine ⟨_, _, .mapIter none 0 #[] 0, 0, 0, ?_, oneMore_alloc w _, fun γ' hg => ⟨fun id hid => .ptr hid, hB, rfl, _, rfl, rfl⟩⟩
    simp [Instr.range, r_desc hT hd (by simp)]
  · rename_i k e r hd
    cases hx with
    | map hg =>
    rename_i b s K z
    split at h1
    · rename_i es c he
      cases h1
      obtain ⟨_, _, es', h3, _⟩ := obj_map hw he hg
      refine ⟨_, _, .mapIter (some b) c #[] c, 0, 0, ?_, oneMore_alloc w _, fun γ' hg' => ⟨fun id hid => .ptr hid, hB, rfl, _, rfl, b, s, K, z, hg' _ _ hg, rfl⟩⟩
      simp [Instr.range, r_desc hT hd (by simp), run_getObj_map' h3]
    · cases h1
  · cases h1
theorem fresh_eff (hw : WRel T γ h w0 w) {s : Sem Next} {ob : AObj} {mk : Mk} (hf : FreshOk P T γ w0.heap.size w s ob mk) : EffOk P T γ h w0 w s (mk.av h.next) (h.new ob).2 := by
  obtain ⟨v', w', o', K, z, g1, g2, g3⟩ := hf
  have hfr := hw.fresh (Nat.le_refl h.next)
  have hle := Emb.le_add (w.heap.size, 0, K, z) hfr
  obtain ⟨g4, g5⟩ := g3 (γ.add h.next (w.heap.size, 0, K, z)) hle
  refine ⟨_, v', w', γ.add h.next (w.heap.size, 0, K, z), g1, .inl rfl, fun id hid => by unfold Emb.add; rw [if_neg (by omega)], by simp [AH.new], ?_, g4 _ (by simp [Emb.add])⟩
  refine hw.new g2.size g2.old g2.os g2.tape g2.output ?_
  rw [g2.new]; exact g5
theorem loadBytes_some : ∀ {l : List AV} {r : List UInt8}, toBytes l = some r → ∀ {L : List Value}, LRel γ l L → ∀ (a : Addr) (acc : ByteArray), (∀ j v, L[j]? = some v → w.cell? (a.add j) = some v) →
    (loadBytes a acc L.length).run P w = .ok (⟨⟨acc.data.toList ++ r⟩⟩ : ByteArray) w
  | [], r, h, _, .nil, a, acc, _ => by
    simp only [toBytes, Option.some.injEq] at h; subst h
    simp [loadBytes]
  | v :: l, r, h, _, .cons hv t, a, acc, hc => by
    unfold toBytes at h
    split at h
    · rename_i heq; cases heq
    · rename_i n rest heq
      cases heq
      rw [Option.map_eq_some_iff] at h
      obtain ⟨r', h1, rfl⟩ := h
      cases hv
      have h0 := hc 0 _ rfl
      have ha0 : a.add 0 = a := by simp [Addr.add]
      rw [ha0] at h0
      have ih := loadBytes_some h1 t (a.add 1) (acc.push n.toNat.toUInt8) (fun j y hy => by
        have := hc (j + 1) y (by simpa using hy)
        have e : (a.add 1).add j = a.add (j + 1) := by
          unfold Addr.add
          by_cases hj : j = 0
          · subst hj; simp
          · simp [hj]; omega
        rw [e]; exact this)
      simp only [List.length_cons, loadBytes, Sem.run_bind, run_load, h0, Result.andThen_ok]
      rw [ih, push_mk]
      simp
    · cases h
theorem heap_freeze {w : World} {b off n : Nat} {c : Array Value} {e : TypeId} {fz : Nat × Nat} (hb : w.heap[b]? = some (.cells c e fz)) : (w.freeze ⟨b, off, none⟩ n).heap.size = w.heap.size ∧ (∀ k, k ≠ b → (w.freeze ⟨b, off, none⟩ n).heap[k]? = w.heap[k]?) ∧
    (w.freeze ⟨b, off, none⟩ n).os = w.os ∧ (w.freeze ⟨b, off, none⟩ n).tape = w.tape ∧ (w.freeze ⟨b, off, none⟩ n).output = w.output ∧ ∃ fz', (w.freeze ⟨b, off, none⟩ n).heap[b]? = some (.cells c e fz') := by
  unfold World.freeze
  split
  · exact ⟨rfl, fun _ _ => rfl, rfl, rfl, rfl, fz, hb⟩
  · refine ⟨by simp, fun k hk => ?_, rfl, rfl, rfl, ?_⟩
    · simp only [Array.getElem?_modify]; rw [if_neg (fun e => hk e.symm)]
    · simp only [Array.getElem?_modify, if_true, hb]
      obtain ⟨lo, hi⟩ := fz
      exact ⟨_, rfl⟩
theorem unsafeString_sound (hT : TabOk P T) (hw : WRel T γ h w0 w) {ts : Array TypeId} {pt ty : TypeId} {p n v : AV} {p' n' : Value} {h' : AH} (h0 : ts.toList.head? = some pt) (hs : aunsafeString T h pt p n = some (v, h')) (hp : VRel γ p p') (hn : VRel γ n n') (hts : ∃ it, ts = #[pt, it]) :
    ∃ v' w', (Builtin.unsafeString_ ts ty #[p', n']).run P w = .ok v' w' ∧ h'.next = h.next ∧ WRel T γ h' w0 w' ∧ VRel γ v v' := by
  have hmax : IntKind.i64.max = 9223372036854775807 := rfl
  obtain ⟨it, rfl⟩ := hts
  unfold aunsafeString at hs
  split at hs
  · cases hn; cases hp; cases hs
    exact ⟨.string .empty, w, Go.Lib.run_unsafeString_none w _ _ _ _, rfl, hw, .str []⟩
  · cases hn; cases hp; cases hs
    exact ⟨.string .empty, w, Go.Lib.run_unsafeString_none w _ _ _ _, rfl, hw, .str []⟩
  · rename_i k n id off _
    cases hn
    cases hp with
    | ptr hg =>
    rename_i b s K z
    split at hs
    · rename_i e cs e' hd ho
      split at hs
      · rename_i hc
        obtain ⟨he, hsz, hn0, hn1⟩ := hc
        obtain rfl := Nat.eq_of_beq_eq_true he
        split at hs
        · rename_i l hl
          split at hs
          · rename_i bs hb
            cases hs
            obtain ⟨hobj, hz, hB, c, e2, fz, q1, q2, q3, q4, q5⟩ := obj_own hw ho hg
            obtain ⟨t1, t2, t3⟩ := obj_type hw hobj hg
            obtain rfl := t3.same q1
            obtain ⟨L, h2, h3, h4⟩ := stretch hw (own_cells ho) hg hl
            obtain ⟨s5, _, _⟩ := sub_some hl
            obtain ⟨j, hj, hjd⟩ := descOf_some hd (by simp)
            have hu := (hT.ty pt j hj).1
            rw [hjd] at hu
            have hcell : P.cellsOf e2 = 1 := by
              unfold szOf at hsz
              split at hsz
              · rename_i i hi
                obtain ⟨_, info, _, g1, g2, _⟩ := hT.ty e2 i hi
                simp [Program.cellsOf, g1, g2, hsz]
              · cases hsz
            have hlies := liesAt_self (P := P) (e := e2) (count := c.size / P.cellsOf e2) (off := s + off) (n := n.toNat) (by omega) (by rw [hcell]; omega) (by rw [hcell]; simp; omega)
            have hlb := loadBytes_some (P := P) hb h2 ⟨b, s + off, none⟩ .empty h4
            rw [h3] at hlb
            obtain ⟨f1, f2, f3, f4, f5, fz', f6⟩ := heap_freeze (off := s + off) (n := n.toNat) q1
            refine ⟨.string ⟨⟨bs⟩⟩, w.freeze ⟨b, s + off, none⟩ n.toNat, ?_, rfl, ?_, .str _⟩
            · have hdef : Builtin.unsafeString_ #[pt, it] ty #[.pointer (some ⟨b, s + off, none⟩), .int k n] =
                  (do
                    let n ← asInt (.int k n)
                    if n < 0 then runtimePanic (.error "unsafe.String: len out of range")
                    if n > IntKind.i64.max then unsupported (.unsafePointer "String: a length above the largest int")
                    if n = 0 then pure (.string .empty)
                    else if ← variablesAt ⟨b, s + off, none⟩ (← elemOf pt) n.toNat then do
                      let str ← loadBytes ⟨b, s + off, none⟩ .empty n.toNat
                      freeze ⟨b, s + off, none⟩ n.toNat
                      pure (.string str)
                    else unsupported (.unsafePointer "String: not so many bytes at ptr")) := rfl
              rw [hdef]
              have e1 : ¬ n < 0 := by omega
              have e2' : ¬ (9223372036854775807 : Int) < n := by omega
              have e3 : ¬ n = 0 := by omega
              simp [asInt, asIntOf, hmax, e1, e2', e3, variablesAt, shape_of q1, elemOf, run_underlying hu, hlies, hlb]
            · refine hw.update hg hobj (by simp) hB f1 f2 f3 f4 f5 ?_
              rw [f6]
              exact ⟨⟨t1, t2, ofType_cells⟩, c, e2, fz', rfl, q2, q3, q4, fun h => by cases h⟩
          · cases hs
        · cases hs
      · cases hs
    · cases hs
  · cases hs
theorem eff_sound (hT : TabOk P T) (hw : WRel T γ h w0 w) {env : Env} {ρ : Operand → Value} {o : Oper} (hρ : ∀ x ∈ o.op.operands.toList, VRel γ (aev env x) (ρ x)) {v : AV} {h' : AH} (hv : aeff T env h o.op = some (.val v h')) :
    EffOk P T γ h w0 w (execOp ρ o) v h' := by
  unfold execOp
  cases ho : o.op <;> rw [ho] at hv hρ <;> simp only [aeff] at hv <;> (try (cases hv; done))
  case store t a x =>
    obtain ⟨h1, rfl⟩ := rh_some hv
    obtain ⟨p, w', g1, g2, g3⟩ := store_rel hT hw h1 (hρ a (by simp [Op.operands])) (hρ x (by simp [Op.operands]))
    have hn : h'.next = h.next := by
      unfold astore at h1
      split at h1
      · split at h1
        · split at h1
          · exact put_next h1
          · cases h1
        · cases h1
      · cases h1
    refine (eff_unit ⟨w', g2, hn, g3⟩).of_run ?_
    simp [Instr.storeAt, Instr.sureAddr, g1]
  case mapUpdate t m k x =>
    obtain ⟨h1, rfl⟩ := rh_some hv
    exact eff_unit (mapUpdate_sound hT hw h1 (hρ m (by simp [Op.operands])) (hρ k (by simp [Op.operands])) (hρ x (by simp [Op.operands])))
  case insert t m k x =>
    obtain ⟨h1, rfl⟩ := rh_some hv
    exact eff_unit (mapUpdate_sound hT hw h1 (hρ m (by simp [Op.operands])) (hρ k (by simp [Op.operands])) (hρ x (by simp [Op.operands])))
  case mapEntry t m k => exact eff_val0 (mapEntry_sound hT hw (rb_some hv) (hρ m (by simp [Op.operands])) (hρ k (by simp [Op.operands])))
  case entryStore t m s x =>
    obtain ⟨h1, rfl⟩ := rh_some hv
    exact eff_unit (entryStore_sound hw h1 (hρ m (by simp [Op.operands])) (hρ s (by simp [Op.operands])) (hρ x (by simp [Op.operands])))
  case range t x =>
    have := rb_some hv
    rw [Option.map_eq_some_iff] at this
    obtain ⟨ob, h1, h2⟩ := this
    cases h2
    exact fresh_eff hw (range_sound hT hw h1 (hρ x (by simp [Op.operands])))
  case next it isS => exact eff_val0 (next_sound hw (rb_some hv) (hρ it (by simp [Op.operands])))
  case call c =>
    split at hv
    · rename_i hc
      split at hv
      · rename_i t xt rest s x h1 h2
        have a1 := hρ s (by simp [Op.operands, Call.operands, hc, h2])
        have a2 := hρ x (by simp [Op.operands, Call.operands, hc, h2])
        refine (eff_val (append_sound hT hw (ts := c.argTypes) (ty := o.type) (at_zero h1) (at_one h1) (rb_some hv) a1 a2)).of_run ?_
        simp only [resolve, hc, Sem.run_bind, Sem.run_pure, Result.andThen_ok, invoke, builtin, list_two h2]
      · cases hv
    · rename_i hc
      split at hv
      · rename_i t rest s x h1 h2
        have a1 := hρ s (by simp [Op.operands, Call.operands, hc, h2])
        have a2 := hρ x (by simp [Op.operands, Call.operands, hc, h2])
        refine (eff_val0 (copy_sound hT hw (ts := c.argTypes) (ty := o.type) (at_zero h1) (rb_some hv) a1 a2)).of_run ?_
        simp only [resolve, hc, Sem.run_bind, Sem.run_pure, Result.andThen_ok, invoke, builtin, list_two h2]
      · cases hv
    · rename_i hc
      split at hv
      · rename_i t rest s x h1 h2
        have a1 := hρ s (by simp [Op.operands, Call.operands, hc, h2])
        have a2 := hρ x (by simp [Op.operands, Call.operands, hc, h2])
        obtain ⟨h3, rfl⟩ := rh_some hv
        obtain ⟨w', g1, g2, g3⟩ := delete_sound hT hw (ts := c.argTypes) (ty := o.type) (at_zero h1) h3 a1 a2
        refine (eff_val0 ⟨.tuple #[], w', g1, g2, g3, undef_rel γ⟩).of_run ?_
        simp only [resolve, hc, Sem.run_bind, Sem.run_pure, Result.andThen_ok, invoke, builtin, list_two h2]
      · cases hv
    · rename_i hc
      split at hv
      · rename_i t rest x h1 h2
        have a2 := hρ x (by simp [Op.operands, Call.operands, hc, h2])
        obtain ⟨h3, rfl⟩ := rh_some hv
        obtain ⟨w', g1, g2, g3⟩ := clear_sound hT hw (ts := c.argTypes) (ty := o.type) (at_zero h1) h3 a2
        refine (eff_val0 ⟨.tuple #[], w', g1, g2, g3, undef_rel γ⟩).of_run ?_
        simp only [resolve, hc, Sem.run_bind, Sem.run_pure, Result.andThen_ok, invoke, builtin, list_one h2]
      · cases hv
    · rename_i hc
      split at hv
      · rename_i t it p n h1 h2
        have a1 := hρ p (by simp [Op.operands, Call.operands, hc, h2])
        have a2 := hρ n (by simp [Op.operands, Call.operands, hc, h2])
        refine (eff_val0 (unsafeString_sound hT hw (ts := c.argTypes) (ty := o.type) (by rw [h1]; rfl) (rb_some hv) a1 a2 ⟨it, Array.toList_inj.1 h1⟩)).of_run ?_
        simp only [resolve, hc, Sem.run_bind, Sem.run_pure, Result.andThen_ok, invoke, builtin, list_two h2]
      · cases hv
    · rename_i fo hc
      split at hv
      · rename_i g cap hg
        split at hv
        · cases hv
        · rename_i code hx
          split at hv
          · rename_i x h2
            cases hv
            have a1 := hρ fo (by simp [Op.operands, Call.operands, hc])
            rw [hg] at a1
            obtain ⟨F, k1, k2, k3, k4, k5⟩ := hT.ext g code hx
            have a2 := hρ x (by simp [Op.operands, Call.operands, hc, h2])
            generalize hu : ρ fo = u at a1
            cases a1 with
            | func hcap =>
            cases hcap
            refine (eff_val0 (s := Extern.AbiNoEscape.same #[ρ x]) ⟨ρ x, w, Go.Lib.run_noEscape w _, rfl, hw, a2⟩).of_run ?_
            have hval : (⟨[]⟩ ++ c.args.map ρ ++ ⟨[]⟩ : Array Value) = #[ρ x] := by
              rw [list_one h2]; rfl
            simp only [resolve, hc, hu, Deferred.ofValue, Sem.run_bind, Sem.run_pure, Result.andThen_ok, invoke, hval]
            rw [run_callFunc_extern k1 k2 k3 k4 k5, Go.Lib.run_noEscape]
          · cases hv
      · split at hv <;> cases hv
      · cases hv
    · cases hv
theorem enter_sound (hT : TabOk P T) (w : World) {env : Env} {ρ : Operand → Value} {o : Oper} (hρ : ∀ x ∈ o.op.operands.toList, VRel γ (aev env x) (ρ x)) {f : FuncId} {args : List AV} (hv : aeff T env h o.op = some (.enter f args)) {fn : AFunc} (hf : T.ft.get f = some fn) :
    ∃ args', (execOp ρ o).run P w = .ok (.enter f ⟨args'⟩) w ∧ LRel γ args args' := by
  unfold execOp
  cases ho : o.op <;> rw [ho] at hv hρ <;> simp only [aeff] at hv <;> (try (cases hv; done)) <;> (try (exact (rh_enter hv).elim)) <;> (try (exact (rb_enter hv).elim))
  case call c =>
    split at hv
    · split at hv
      · exact (rb_enter hv).elim
      · cases hv
    · split at hv
      · exact (rb_enter hv).elim
      · cases hv
    · split at hv
      · exact (rh_enter hv).elim
      · cases hv
    · split at hv
      · exact (rh_enter hv).elim
      · cases hv
    · split at hv
      · exact (rb_enter hv).elim
      · cases hv
    · rename_i fo hc
      split at hv
      · rename_i g cap hg
        split at hv
        case h_2 => split at hv <;> cases hv
        cases hv
        have a1 := hρ fo (by simp [Op.operands, Call.operands, hc])
        rw [hg] at a1
        obtain ⟨F, k1, k2, k3, _⟩ := hT.fn f fn hf
        have hargs : LRel γ (c.args.toList.map (aev env)) (c.args.toList.map ρ) := lrel_map fun x hx => hρ x (by simp [Op.operands, Call.operands, hc] at hx ⊢; exact .inr hx)
        generalize hu : ρ fo = u at a1
        cases a1 with
        | func hcap =>
        rename_i cs'
        refine ⟨c.args.toList.map ρ ++ cs', ?_, hargs.append hcap⟩
        have hval : (⟨[]⟩ ++ c.args.map ρ ++ ⟨cs'⟩ : Array Value) = ⟨c.args.toList.map ρ ++ cs'⟩ := by
          apply Array.toList_inj.1; simp
        simp only [resolve, hc, hu, Deferred.ofValue, Sem.run_bind, Sem.run_pure, Result.andThen_ok, invoke, hval, callFunc, run_program, k1, k2, Bool.false_eq_true, if_false, k3, Option.isNone_some]
      · rename_i g first hg
        split at hv
        case h_2 => cases hv
        cases hv
        have a1 := hρ fo (by simp [Op.operands, Call.operands, hc])
        rw [hg] at a1
        obtain ⟨F, k1, k2, k3, _⟩ := hT.fn f fn hf
        have hargs : LRel γ (c.args.toList.map (aev env)) (c.args.toList.map ρ) := lrel_map fun x hx => hρ x (by simp [Op.operands, Call.operands, hc] at hx ⊢; exact .inr hx)
        generalize hu : ρ fo = u at a1
        cases a1 with
        | meth hcap =>
        rename_i cs'
        refine ⟨cs' ++ c.args.toList.map ρ, ?_, hcap.append hargs⟩
        have hval : (⟨cs'⟩ ++ c.args.map ρ ++ ⟨[]⟩ : Array Value) = ⟨cs' ++ c.args.toList.map ρ⟩ := by
          apply Array.toList_inj.1; simp
        simp only [resolve, hc, hu, Deferred.ofValue, Sem.run_bind, Sem.run_pure, Result.andThen_ok, invoke, hval, callFunc, run_program, k1, k2, Bool.false_eq_true, if_false, k3, Option.isNone_some]
      · cases hv
    · cases hv
end Go.AI
