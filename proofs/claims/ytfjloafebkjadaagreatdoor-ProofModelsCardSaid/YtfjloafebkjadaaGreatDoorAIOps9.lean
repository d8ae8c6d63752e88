import Derived.Test.YtfjloafebkjadaaGreatDoorAIOps8
/- append, copy, clear, delete, next. -/
namespace Go.AI
open Go.RowKit (Below)
variable {P : Program} {T : Tab} {γ : Emb} {h : AH} {w0 w : World}

theorem lenOf_sound (w : World) {x : AV} {x' : Value} {n : Nat} (hn : alenOf x = some n) (hx : VRel γ x x') : (Builtin.lenOf x').run P w = .ok n w := by
  unfold alenOf at hn
  split at hn <;> cases hn <;> cases hx <;> rfl
theorem first_sound (hw : WRel T γ h w0 w) {x : AV} {x' : Value} {size n : Nat} {new : List AV} (hf : afirst h size n x = some new) (hx : VRel γ x x') :
    ∃ L : List Value, LRel γ new L ∧ ∀ w1 : World, (∀ a, w1.cell? a = w.cell? a) → (Builtin.firstCells size n x').run P w1 = .ok L.toArray w1 := by
  have core : ∀ {id off len c b s K z : Nat}, γ id = some (b, s, K, z) → (match cellsOf h id with | some cs => sub cs off (n * size) | none => none) = some new →
      ∃ L : List Value, LRel γ new L ∧ ∀ w1 : World, (∀ a, w1.cell? a = w.cell? a) → (Builtin.firstCells size n (.slice (some ⟨b, s + off, none⟩) len c)).run P w1 = .ok L.toArray w1 := by
    intro id off len c b s K z hg hc
    split at hc
    · rename_i cs hcs
      obtain ⟨L, h1, h2, h3⟩ := stretch hw hcs hg hc
      exact ⟨L, h1, fun w1 he => run_firstCells_some w1 size n _ len c L h2 (fun j v hj => by rw [he]; exact h3 j v hj)⟩
    · cases hc
  unfold afirst at hf
  split at hf
  · cases hx with
    | slice hg => exact core hg hf
    | grown hg _ _ => exact core hg hf
  · cases hx
    split at hf
    · cases hf; exact ⟨[], .nil, fun w1 _ => by simp [Builtin.firstCells]⟩
    · cases hf
  · cases hx
    rename_i a c
    split at hf
    · rename_i hn0; subst hn0
      cases hf; exact ⟨[], .nil, fun w1 _ => run_firstCells_some w1 size 0 a 0 c [] (by simp) (by simp)⟩
    · cases hf
  · rename_i l
    cases hx
    split at hf
    · rename_i hn
      cases hf
      refine ⟨(l.take n).map fun b => .int .u8 b.toNat, ?_, fun w1 _ => ?_⟩
      · exact LRel.of_get (by simp) fun i v hi => by
          rw [List.getElem?_map, Option.map_eq_some_iff] at hi
          obtain ⟨b, h1, rfl⟩ := hi
          exact ⟨_, by rw [List.getElem?_map, h1]; rfl, .int _ _⟩
      · simp only [Builtin.firstCells, Sem.run_pure]
        congr 1
        apply Array.toList_inj.1
        simp [ByteArray.data_extract, List.extract_eq_take_drop]
    · cases hf
  · cases hf
section
variable {ts : Array TypeId} {t xt e ty : TypeId} {d : TypeDesc} {size n sLen sCap : Nat} {x : Value} {base : Option Addr} {L : List Value}
theorem append_fits (h0 : ts[0]? = some t) (h1 : ts[1]? = some xt) (ht : (underlying t).run P w = .ok (.slice e) w) (hx : (underlying xt).run P w = .ok d w) (hd : ∀ k, d ≠ .int k)
    (hsz : (Go.sizeOf e).run P w = .ok size w) (hn : (Builtin.lenOf x).run P w = .ok n w) (hf : (Builtin.firstCells size n x).run P w = .ok L.toArray w) (hfit : sLen + n ≤ sCap) :
    (Builtin.append_ ts ty #[.slice base sLen sCap, x]).run P w = ((match base with | some a => storeCells (a.add (sLen * size)) L | none => pure () : Sem Unit).run P w).andThen fun _ w' => .ok (.slice base (sLen + n) sCap) w' := by
  unfold Builtin.append_
  have a0 : (#[.slice base sLen sCap, x] : Array Value)[0]? = some (.slice base sLen sCap) := rfl
  have a1 : (#[.slice base sLen sCap, x] : Array Value)[1]? = some x := rfl
  simp only [h0, h1, a0, a1, Sem.run_bind, ht, hx, Result.andThen_ok, hsz, Sem.run_pure, Bool.false_eq_true, if_false, hn, Bool.not_false, if_true]
  rw [if_pos hfit]
  simp only [Sem.run_bind, hf, Result.andThen_ok]
  cases base with
  | none => rfl
  | some a => simp
theorem append_grows (h0 : ts[0]? = some t) (h1 : ts[1]? = some xt) (ht : (underlying t).run P w = .ok (.slice e) w) (hx : (underlying xt).run P w = .ok d w) (hd : ∀ k, d ≠ .int k)
    (hsz : (Go.sizeOf e).run P w = .ok size w) (hn : (Builtin.lenOf x).run P w = .ok n w) {olds : List Value} (hfo : (Builtin.firstCells size sLen (.slice base sLen sCap)).run P w.drew = .ok olds.toArray w.drew)
    (hf : (Builtin.firstCells size n x).run P w.drew = .ok L.toArray w.drew) {info : TypeInfo} {z : Value} (hi : P.info? e = some info) (hz : info.zero = some z) (hb : (sLen + n) * info.bytes ≤ 140737488355328) (hl : sLen + n ≤ 2 ^ 40) (hfit : sCap < sLen + n) :
    (Builtin.append_ ts ty #[.slice base sLen sCap, x]).run P w = .ok (.slice (some ⟨w.heap.size, 0, none⟩) (sLen + n) (grownCap w (sLen + n) sCap e))
      (w.drew.alloc (.cells (olds.toArray ++ L.toArray ++ Builtin.zeroCells z.cells (grownCap w (sLen + n) sCap e - (sLen + n))) e)) := by
  have h63 : ¬ (9223372036854775807 < ((sLen : Int) + (n : Int))) := by omega
  have h48 : ¬ (281474976710656 < Builtin.nextslicecap (sLen + n) sCap * info.bytes) := by have := growslice_fits (bytes := info.bytes) hfit hb; omega
  have a0 : (#[.slice base sLen sCap, x] : Array Value)[0]? = some (.slice base sLen sCap) := rfl
  have a1 : (#[.slice base sLen sCap, x] : Array Value)[1]? = some x := rfl
  unfold Builtin.append_
  simp only [h0, h1, a0, a1, Sem.run_bind, ht, hx, Result.andThen_ok, hsz, Sem.run_pure, Bool.false_eq_true, if_false, hn, Bool.not_false, if_true]
  rw [if_neg (by omega)]
  simp [typeInfo, zeroValue, hi, hz, h63, h48, Question.forced, hf, hfo, newRow, grownCap]
  congr 2
  apply Array.ext'
  simp
end

theorem grownCap_le (w : World) (need old : Nat) (e : TypeId) : need ≤ grownCap w need old e := by simp [grownCap, Question.cut]
theorem zeroCells_size (z : Array Value) (n : Nat) : (Builtin.zeroCells z n).size = n * z.size := by simp [Builtin.zeroCells]
/-- A new row with room behind it. -/
theorem grown_new (hw : WRel T γ h w0 w) {e : TypeId} {l : List AV} {L : List Value} (hl : LRel γ l L) {Z : Array Value} {need cap : Nat} (hlen : l.length = need * szOf T e) (hcap : need ≤ cap) (hZ : Z.size = (cap - need) * szOf T e) :
    ∃ γ', Ext h.next γ γ' ∧ WRel T γ' (h.new (.cells l e false)).2 w0 (w.drew.alloc (.cells (L.toArray ++ Z) e)) ∧ VRel γ' (.slice h.next 0 need 0 false) (.slice (some ⟨w.heap.size, 0, none⟩) need cap) := by
  have hfr := hw.fresh (Nat.le_refl h.next)
  have hmul : need * szOf T e + (cap - need) * szOf T e = cap * szOf T e := by rw [← Nat.add_mul]; congr 1; omega
  have hle := Emb.le_add (w.heap.size, 0, cap * szOf T e, szOf T e) hfr
  refine ⟨γ.add h.next (w.heap.size, 0, cap * szOf T e, szOf T e), fun id hid => by unfold Emb.add; rw [if_neg (by omega)], ?_, ?_⟩
  · refine hw.drew.new (by simp) (fun k hk => heap_alloc_old _ _ _ hk) rfl rfl rfl ?_
    have hsz := hl.length
    have hB : w0.heap.size ≤ w.heap.size := hw.below.size
    have : (w.drew.alloc (.cells (L.toArray ++ Z) e)).heap[w.drew.heap.size]? = some (.cells (L.toArray ++ Z) e) := heap_alloc_new _ _
    rw [this]
    refine ⟨⟨rfl, Nat.zero_mod _, ofType_cells⟩, _, e, (0, 0), rfl, fun i v hi => ?_, by simp; omega, by omega, fun _ => ⟨hB, fun j _ _ => by omega⟩⟩
    obtain ⟨v', g1, g2⟩ := hl.get hi
    refine ⟨v', ?_, g2.mono hle⟩
    have hlt := (List.getElem?_eq_some_iff.1 g1).1
    rw [Nat.zero_add, Array.getElem?_append_left (by simpa using hlt)]
    simpa using g1
  · have hid : (γ.add h.next (w.heap.size, 0, cap * szOf T e, szOf T e)) h.next = some (w.heap.size, 0, cap * szOf T e, szOf T e) := by simp [Emb.add]
    have := VRel.grown (off := 0) (len := need) (c := 0) (cap := cap) hid (by omega) hcap
    rw [Nat.add_zero] at this; exact this
theorem WRel.kill (hw : WRel T γ h w0 w) (id : Nat) (hid : id < h.next) : WRel T γ (h.upd id .dead) w0 w := by
  refine ⟨hw.below, hw.dom, fun i b s K z e => ?_, hw.glob, fun i j b s K z s' K' z' e1 e2 hne hbb => ?_⟩
  · obtain ⟨o, h1, h2, h3⟩ := hw.obj _ _ _ _ _ e
    by_cases hi : i = id
    · subst hi; exact ⟨.dead, Tree.get_put_same .., h2, trivial⟩
    · exact ⟨o, by simp only [AH.upd]; rw [Tree.get_put_ne _ _ hi]; exact h1, h2, h3⟩
  · simp only [AH.upd]
    by_cases hi : i = id
    · subst hi; left; exact Tree.get_put_same ..
    · by_cases hj : j = id
      · subst hj; right; exact Tree.get_put_same ..
      · rw [Tree.get_put_ne _ _ hi, Tree.get_put_ne _ _ hj]; exact hw.inj _ _ _ _ _ _ _ _ _ e1 e2 hne hbb
/-- A live object's block goes over to a new object. -/
theorem WRel.take (hw : WRel T γ h w0 w) {id b s K z s' K' z' : Nat} {o o' : AObj} {w' : World} (hid : γ id = some (b, s, K, z)) (ho : h.t.get id = some o) (hd : o ≠ .dead) (hB : w0.heap.size ≤ b)
    (hsz : w'.heap.size = w.heap.size) (hk : ∀ k, k ≠ b → w'.heap[k]? = w.heap[k]?) (h2 : w'.os = w.os) (h3 : w'.tape = w.tape) (h4 : w'.output = w.output)
    (hr : ORel T (γ.add h.next (b, s', K', z')) w0.heap.size w'.heap[b]? b s' K' z' o') : WRel T (γ.add h.next (b, s', K', z')) ((h.upd id .dead).new o').2 w0 w' := by
  have hfr := hw.fresh (Nat.le_refl h.next)
  have hlt := hw.dom _ _ hid
  have hle := Emb.le_add (b, s', K', z') hfr
  obtain ⟨_, _, hbl, _⟩ := hw.obj _ _ _ _ _ hid
  have hget : ∀ i, i < h.next → ((h.upd id .dead).new o').2.t.get i = if i = id then some .dead else h.t.get i := by
    intro i hi
    simp only [AH.new, AH.upd]
    rw [Tree.get_put_ne _ _ (by omega), Tree.get_put]
  have hnew : ((h.upd id .dead).new o').2.t.get h.next = some o' := by simp only [AH.new, AH.upd]; exact Tree.get_put_same ..
  have deadOf : ∀ j s1 K1 z1, j ≠ id → γ j = some (b, s1, K1, z1) → h.t.get j = some .dead := by
    intro j s1 K1 z1 hj e
    rcases hw.inj _ _ _ _ _ _ _ _ _ e hid hj hB with h8 | h8
    · exact h8
    · rw [ho] at h8; cases h8; exact absurd rfl hd
  refine ⟨hw.below.trans ⟨h2, h3, h4, by omega, fun k hk' => hk k (by omega)⟩, fun i x e => ?_, fun i b' s1 K1 z1 e => ?_, hw.glob, fun i j bb s1 K1 z1 s2 K2 z2 e1 e2 hne hbb => ?_⟩
  · unfold Emb.add at e
    split at e
    · rename_i hi; subst hi; simp [AH.new, AH.upd]
    · have := hw.dom _ _ e; simp only [AH.new, AH.upd]; omega
  · by_cases hi : i = h.next
    · subst hi
      have : (b, s', K', z') = (b', s1, K1, z1) := by simpa [Emb.add] using e
      cases this
      exact ⟨o', hnew, by omega, hr⟩
    · have e' : γ i = some (b', s1, K1, z1) := by simpa [Emb.add, hi] using e
      have hil := hw.dom _ _ e'
      obtain ⟨x, g1, g2, g3⟩ := hw.obj _ _ _ _ _ e'
      by_cases hii : i = id
      · subst hii
        exact ⟨.dead, by rw [hget _ hil, if_pos rfl], by omega, trivial⟩
      · refine ⟨x, by rw [hget _ hil, if_neg hii]; exact g1, by omega, ?_⟩
        by_cases hb : b' = b
        · subst hb
          have := deadOf i _ _ _ hii e'
          rw [this] at g1; cases g1; trivial
        · rw [hk _ hb]; exact g3.mono hle
  · have old : ∀ i : Nat, i ≠ h.next → ∀ s1 K1 z1, (γ.add h.next (b, s', K', z')) i = some (bb, s1, K1, z1) → γ i = some (bb, s1, K1, z1) ∧ i < h.next := by
      intro i hi s1 K1 z1 e
      have : γ i = some (bb, s1, K1, z1) := by simpa [Emb.add, hi] using e
      exact ⟨this, hw.dom _ _ this⟩
    have dead2 : ∀ i : Nat, i ≠ h.next → ∀ s1 K1 z1, (γ.add h.next (b, s', K', z')) i = some (bb, s1, K1, z1) → bb = b → ((h.upd id .dead).new o').2.t.get i = some .dead := by
      intro i hi s1 K1 z1 e hbb
      obtain ⟨e', hil⟩ := old i hi _ _ _ e
      subst hbb
      rw [hget _ hil]
      split
      · rfl
      · rename_i hii; exact deadOf i _ _ _ hii e'
    by_cases hi : i = h.next
    · have hj : j ≠ h.next := fun e => hne (hi.trans e.symm)
      subst hi
      have : (b, s', K', z') = (bb, s1, K1, z1) := by simpa [Emb.add] using e1
      cases this
      right; exact dead2 j hj _ _ _ e2 rfl
    · by_cases hj : j = h.next
      · subst hj
        have : (b, s', K', z') = (bb, s2, K2, z2) := by simpa [Emb.add] using e2
        cases this
        left; exact dead2 i hi _ _ _ e1 rfl
      · obtain ⟨a1, l1⟩ := old i hi _ _ _ e1
        obtain ⟨a2, l2⟩ := old j hj _ _ _ e2
        rw [hget _ l1, hget _ l2]
        rcases hw.inj _ _ _ _ _ _ _ _ _ a1 a2 hne hbb with h8 | h8
        · left; rw [h8]; split <;> rfl
        · right; rw [h8]; split <;> rfl
theorem append_zeros {ts : Array TypeId} {t xt e ty : TypeId} {size n : Nat} {q : IntKind} (h0 : ts[0]? = some t) (h1 : ts[1]? = some xt) (ht : (underlying t).run P w = .ok (.slice e) w) (hx : (underlying xt).run P w = .ok (.int q) w)
    (hsz : (Go.sizeOf e).run P w = .ok size w) {info : TypeInfo} {z : Value} (hi : P.info? e = some info) (hz : info.zero = some z) (hb : n * info.bytes ≤ 140737488355328) (hl : n ≤ 2 ^ 40) (h0n : 0 < n) (h0s : 0 < size) :
    (Builtin.append_ ts ty #[.slice none 0 0, .int .i64 n]).run P w = .ok (.slice (some ⟨w.heap.size, 0, none⟩) n (grownCap w n 0 e))
      (w.drew.alloc (.cells (Builtin.zeroCells z.cells n ++ Builtin.zeroCells z.cells (grownCap w n 0 e - n)) e)) := by
  have h63 : ¬ (9223372036854775807 < (n : Int)) := by omega
  have hfit : 0 < 0 + n := by omega
  have h48 : ¬ (281474976710656 < Builtin.nextslicecap n 0 * info.bytes) := by have := growslice_fits (bytes := info.bytes) hfit (by rw [Nat.zero_add]; exact hb); rw [Nat.zero_add] at this; omega
  have hw64 : IntKind.i64.wrap (n : Int) = n := IntWalk.i64_in _ (by omega)
  have a0 : (#[.slice none 0 0, .int .i64 (n : Int)] : Array Value)[0]? = some (.slice none 0 0) := rfl
  have a1 : (#[.slice none 0 0, .int .i64 (n : Int)] : Array Value)[1]? = some (.int .i64 n) := rfl
  have hneg : ¬ ((n : Int) < 0) := by omega
  have hbig : ¬ (281474976710656 < (n : Int) * (info.bytes : Int)) := by
    have : ((n * info.bytes : Nat) : Int) ≤ ((140737488355328 : Nat) : Int) := Int.ofNat_le.2 hb
    rw [Int.natCast_mul] at this; omega
  have hz0 : ¬ (n * size = 0) := by
    have := Nat.mul_pos h0n h0s; omega
  have hai : (asInt (.int .i64 (n : Int))).run P w = .ok (n : Int) w := rfl
  have hcut : Builtin.zeroCells z.cells n = Builtin.zeroCells z.cells n := rfl
  unfold Builtin.append_
  simp only [h0, h1, a0, a1, Sem.run_bind, ht, hx, Result.andThen_ok, hsz, Sem.run_pure, Bool.false_eq_true, if_false, hai, hw64, Bool.not_true, if_true, if_neg hneg, typeInfo, zeroValue, hi, hz, Int.toNat_natCast, Nat.zero_add]
  simp [typeInfo, zeroValue, hi, hz, h63, h48, hbig, hz0, Question.forced, newRow, grownCap, Builtin.firstCells]
  omega
theorem cell_drew (w : World) (a : Addr) : w.drew.cell? a = w.cell? a := rfl
theorem append_sound (hT : TabOk P T) (hw : WRel T γ h w0 w) {ts : Array TypeId} {t xt ty : TypeId} {s x v : AV} {s' x' : Value} {h' : AH} (h0 : ts[0]? = some t) (h1 : ts[1]? = some xt) (hs : aappend T h t xt s x = some (v, h')) (hv : VRel γ s s') (hx : VRel γ x x') :
    ∃ v' w' γ', (Builtin.append_ ts ty #[s', x']).run P w = .ok v' w' ∧ Ext h.next γ γ' ∧ h.next ≤ h'.next ∧ WRel T γ' h' w0 w' ∧ VRel γ' v v' := by
  unfold aappend at hs
  split at hs
  · cases hs
  · rename_i e q hd hdx
    unfold appendZ at hs
    split at hs
    · rename_i n ei he
      split at hs
      · rename_i hc
        cases hs; cases hv; cases hx
        obtain ⟨c1, c2, c3, c4, c5⟩ := hc
        obtain ⟨N, rfl⟩ : ∃ N : Nat, n = N := ⟨n.toNat, by omega⟩
        rw [Int.toNat_natCast] at c3
        obtain ⟨info, z, _, hi, hi1, hi2, hi3, hi4, hi5, hi6⟩ := r_info hT he w
        have hmax : (maxBytes : Nat) = 70368744177664 := by decide
        have hzl : z.cells.size = ei.zero.length := by
          have := ((toAV_rel γ z).cells hi6).length
          rw [hi4, ← this]; simp
        have hlr : LRel γ (rep N ei.zero) (Builtin.zeroCells z.cells N).toList := by
          have := zeros_rel (n := N) ((toAV_rel γ z).cells hi6)
          rw [← hi4] at this
          unfold Builtin.zeroCells
          rw [← hzl] at this; exact this
        have hrun := append_zeros (ty := ty) (n := N) h0 h1 (r_desc hT hd (by simp) w) (r_desc hT hdx (by simp) w) (r_sizeOf hT he w) hi hi3 (by rw [hi2]; omega) (by omega) (by omega) c4
        obtain ⟨γ', k1, k2, k3⟩ := grown_new hw hlr (e := e) (need := N) (cap := grownCap w N 0 e) (Z := Builtin.zeroCells z.cells (grownCap w N 0 e - N)) (by rw [szOf_eq he, rep_length, c5]) (grownCap_le ..) (by rw [zeroCells_size, hzl, c5, szOf_eq he])
        refine ⟨_, _, γ', hrun, k1, by simp [AH.new], ?_, k3⟩
        simpa using k2
      · cases hs
    · cases hs
  · cases hs
  · rename_i dx e hd hdi hdx
    split at hs
    · rename_i ei n he hn
      split at hs
      · cases hs
      · rename_i new hnew
        split at hs
        · cases hs
        · rename_i hnl
          have hnl : new.length = n * ei.size := by simpa using hnl
          obtain ⟨L, hL, hLf⟩ := first_sound (P := P) hw hnew hx
          have hu := r_desc hT hd (by simp) w
          have hxu := r_desc hT (t := xt) (d := descOf T xt) rfl hdi w
          have hxk : ∀ k, descOf T xt ≠ .int k := fun k e => hdx k e
          have hsz := r_sizeOf hT he w
          have hln := lenOf_sound (P := P) w hn hx
          have hf := hLf w (fun _ => rfl)
          have hfd := hLf w.drew (fun _ => rfl)
          obtain ⟨info, z, _, hi, hi1, hi2, hi3, hi4, hi5, hi6⟩ := r_info hT he w
          have hzl : z.cells.size = ei.zero.length := by
            have := ((toAV_rel γ z).cells hi6).length
            rw [hi4, ← this]; simp
          have hmax : (maxBytes : Nat) = 70368744177664 := by decide
          split at hs
          · rename_i hn0
            subst hn0
            have hLn : L = [] := List.length_eq_zero_iff.1 (by rw [hL.length, hnl]; simp)
            subst hLn
            split at hs
            · cases hs; cases hv
              exact ⟨_, w, γ, append_fits (ty := ty) h0 h1 hu hxu hxk hsz hln hf (Nat.le_refl _), Ext.refl _ _, Nat.le_refl _, hw, .nilSlice⟩
            · cases hs; cases hv
              rename_i a c
              exact ⟨_, w, γ, append_fits (ty := ty) h0 h1 hu hxu hxk hsz hln hf (Nat.zero_le _), Ext.refl _ _, Nat.le_refl _, hw, .eslice a c⟩
            · rename_i id off len cap
              split at hs
              · rename_i hlc
                cases hs
                cases hv with
                | slice hg => exact ⟨_, w, γ, append_fits (ty := ty) h0 h1 hu hxu hxk hsz hln hf hlc, Ext.refl _ _, Nat.le_refl _, hw, .slice hg⟩
              · cases hs
            · rename_i id off len c0
              split at hs
              · split at hs
                · cases hs
                  cases hv with
                  | grown hg hc hl => exact ⟨_, w, γ, append_fits (ty := ty) h0 h1 hu hxu hxk hsz hln hf hl, Ext.refl _ _, Nat.le_refl _, hw, .grown hg hc hl⟩
                · cases hs
              · cases hs
            · cases hs
          · rename_i hn0
            split at hs
            · cases hv
              split at hs
              · rename_i hc
                cases hs
                have hrun := append_grows (ty := ty) (olds := []) h0 h1 hu hxu hxk hsz hln (run_firstCells_none w.drew ei.size 0 0 0) hfd hi hi3 (by rw [hi2, Nat.zero_add]; omega) (by omega) (show 0 < 0 + n by omega)
                rw [Nat.zero_add] at hrun
                obtain ⟨γ', k1, k2, k3⟩ := grown_new hw hL (e := e) (need := n) (cap := grownCap w n 0 e) (Z := Builtin.zeroCells z.cells (grownCap w n 0 e - n)) (by rw [szOf_eq he]; exact hnl) (grownCap_le ..) (by rw [zeroCells_size, hzl, hc.2.2.2, szOf_eq he])
                refine ⟨_, _, γ', hrun, k1, by simp [AH.new], ?_, k3⟩
                simpa using k2
              · cases hs
            · rename_i id off len cap
              cases hv with
              | slice hg =>
              split at hs
              · rename_i hfit
                split at hs
                · rename_i cs el ho
                  rw [Option.map_eq_some_iff] at hs
                  obtain ⟨h2, hp, he2⟩ := hs
                  cases he2
                  obtain ⟨w', g1, g2⟩ := put_run P hw ho hg hL hp
                  refine ⟨_, w', γ, ?_, Ext.refl _ _, ?_, g2, .slice hg⟩
                  · rw [append_fits (ty := ty) h0 h1 hu hxu hxk hsz hln hf hfit]
                    simp only [add_none, Nat.add_assoc]
                    rw [g1]; rfl
                  · unfold put? at hp; split at hp <;> cases hp; exact Nat.le_refl _
                · cases hs
              · rename_i hfit
                split at hs
                · rename_i hc
                  split at hs
                  · rename_i cs hcs
                    split at hs
                    · rename_i old hold
                      cases hs
                      obtain ⟨O, o1, o2, o3⟩ := stretch hw hcs hg hold
                      have hol := (sub_some hold).2.2
                      have hfo := run_firstCells_some (P := P) w.drew ei.size len _ len cap O o2 (fun j v hj => o3 j v hj)
                      have hrun := append_grows (ty := ty) h0 h1 hu hxu hxk hsz hln hfo hfd hi hi3 (by rw [hi2]; omega) (by omega) (show cap < len + n by omega)
                      obtain ⟨γ', k1, k2, k3⟩ := grown_new hw (o1.append hL) (e := e) (need := len + n) (cap := grownCap w (len + n) cap e) (Z := Builtin.zeroCells z.cells (grownCap w (len + n) cap e - (len + n)))
                        (by rw [szOf_eq he, List.length_append, hol, hnl, Nat.add_mul]) (grownCap_le ..) (by rw [zeroCells_size, hzl, hc.2.2.2, szOf_eq he])
                      refine ⟨_, _, γ', hrun, k1, by simp [AH.new], ?_, k3⟩
                      simpa using k2
                    · cases hs
                  · cases hs
                · cases hs
            · rename_i id off len c0
              cases hv with
              | grown hg hcap hl =>
              rename_i cap b sh K zz
              split at hs
              · rename_i cs el ho
                split at hs
                · cases hs
                · rename_i hel
                  have hel1 : szOf T el = ei.size := by omega
                  have hel2 : 0 < ei.size := by omega
                  obtain ⟨hobj, hz, hB, C, e', fz, q1, q2, q3, q4, q5⟩ := obj_own hw ho hg
                  have hty := obj_type hw hobj hg
                  have hzz : zz = ei.size := by omega
                  subst hzz
                  have hele : e = el := by
                    have := hel
                    simp only [not_or, Decidable.not_not] at this
                    exact this.2.2.1.symm
                  have hoff0 : off % ei.size = 0 := by omega
                  subst hele
                  obtain rfl := hty.2.2.same q1
                  split at hs
                  · rename_i hroom
                    rw [Option.map_eq_some_iff] at hs
                    obtain ⟨h2, hp, he2⟩ := hs
                    cases he2
                    have hfit : len + n ≤ cap := by
                      have : (len + n) * ei.size ≤ cap * ei.size := by omega
                      exact Nat.le_of_mul_le_mul_right this hel2
                    obtain ⟨w', g1, g2⟩ := put_run P hw ho hg hL hp
                    refine ⟨_, w', γ, ?_, Ext.refl _ _, ?_, g2, .grown hg hcap hfit⟩
                    · rw [append_fits (ty := ty) h0 h1 hu hxu hxk hsz hln hf hfit]
                      simp only [add_none, Nat.add_assoc]
                      rw [g1]; rfl
                    · unfold put? at hp; split at hp <;> cases hp; exact Nat.le_refl _
                  · rename_i hroom
                    split at hs
                    · rename_i hc
                      split at hs
                      · rename_i old hold
                        cases hs
                        obtain ⟨O, o1, o2, o3⟩ := stretch hw (own_cells ho) hg hold
                        have hol := (sub_some hold).2.2
                        have hmulK : (len + n) * ei.size = len * ei.size + n * ei.size := Nat.add_mul ..
                        by_cases hfit : len + n ≤ cap
                        · -- there was room
                          have hroom2 : off + (len * ei.size + n * ei.size) ≤ K := by
                            have : (len + n) * ei.size ≤ cap * ei.size := Nat.mul_le_mul_right _ hfit
                            omega
                          have hLl := hL.length
                          have hone : ∀ u ∈ L, u.oneCell' = true := by
                            intro u hu'
                            obtain ⟨j, hj, rfl⟩ := List.getElem_of_mem hu'
                            have hj' : j < new.length := by omega
                            obtain ⟨u2, k1, k2⟩ := hL.get (List.getElem?_eq_getElem hj')
                            rw [List.getElem?_eq_getElem hj] at k1; cases k1
                            exact k2.oneCell (by have := List.all_eq_true.1 hc.2.2.2 _ (List.getElem_mem hj'); exact this)
                          obtain ⟨w', g1, g2, g3, g4, g5, g6, g7⟩ := storeCells_run P b (sh + off + len * ei.size) e' fz L 0 w C q1 (by omega) hone (fun j hj1 hj2 => q5 j (by omega) (by omega))
                          refine ⟨.slice (some ⟨b, sh + off, none⟩) (len + n) cap, w', γ.add h.next (b, sh + off, K - off, ei.size), ?_, fun i hi => by unfold Emb.add; rw [if_neg (by omega)], by simp [AH.new, AH.upd], ?_, ?_⟩
                          · rw [append_fits (ty := ty) h0 h1 hu hxu hxk hsz hln hf hfit]
                            simp only [add_none]
                            rw [g1]; rfl
                          · refine hw.take hg hobj (by simp) hB g2 g3 g4 g5 g6 ?_
                            rw [g7]
                            have hle := Emb.le_add (b, sh + off, K - off, ei.size) (hw.fresh (Nat.le_refl h.next))
                            refine ⟨⟨(szOf_eq he).symm, by rw [Nat.add_mod, hty.2.1, Nat.zero_add, Nat.mod_mod]; exact hoff0, ofType_cells⟩, _, _, fz, rfl, fun i u hi => ?_, ?_, by rw [List.length_append, hol, hnl]; omega, fun _ => ⟨hB, fun j hj1 hj2 => q5 j (by omega) (by omega)⟩⟩
                            · have hgoal : (⟨lsetMany C.toList (sh + off + len * ei.size + 0) L⟩ : Array Value)[sh + off + i]? = (lsetMany C.toList (sh + off + len * ei.size + 0) L)[sh + off + i]? := by simp
                              rw [hgoal, lsetMany_get _ _ _ (by simp; omega)]
                              rw [List.getElem?_append] at hi
                              split at hi
                              · rename_i hio
                                rw [if_neg (by omega)]
                                obtain ⟨u', k1, k2⟩ := o1.get hi
                                have k3 := o3 _ _ k1
                                rw [add_none, cell_block q1] at k3
                                exact ⟨u', by rw [← k3]; simp, k2.mono hle⟩
                              · rename_i hio
                                obtain ⟨u', k1, k2⟩ := hL.get hi
                                have hlt := (List.getElem?_eq_some_iff.1 k1).1
                                rw [if_pos (by omega)]
                                exact ⟨u', by rw [← k1]; congr 1; omega, k2.mono hle⟩
                            · have : (⟨lsetMany C.toList (sh + off + len * ei.size + 0) L⟩ : Array Value).size = C.size := by simp [lsetMany_length]
                              omega
                          · have hid' : (γ.add h.next (b, sh + off, K - off, ei.size)) h.next = some (b, sh + off, K - off, ei.size) := by simp [Emb.add]
                            have := VRel.grown (off := 0) (len := len + n) (c := 0) (cap := cap) hid' (by omega) hfit
                            rw [Nat.add_zero] at this; exact this
                        · -- a new row
                          have hfo := run_firstCells_some (P := P) w.drew ei.size len _ len cap O o2 (fun j v hj => o3 j v hj)
                          have hrun := append_grows (ty := ty) h0 h1 hu hxu hxk hsz hln hfo hfd hi hi3 (by rw [hi2]; omega) (by omega) (show cap < len + n by omega)
                          obtain ⟨γ', k1, k2, k3⟩ := grown_new (hw.kill id (hw.dom _ _ hg)) (o1.append hL) (e := e') (need := len + n) (cap := grownCap w (len + n) cap e') (Z := Builtin.zeroCells z.cells (grownCap w (len + n) cap e' - (len + n)))
                            (by rw [szOf_eq he, List.length_append, hol, hnl, Nat.add_mul]) (grownCap_le ..) (by rw [zeroCells_size, hzl, hc.2.2.1, szOf_eq he])
                          refine ⟨_, _, γ', hrun, k1, by simp [AH.new, AH.upd], ?_, k3⟩
                          simpa using k2
                      · cases hs
                    · cases hs
              · cases hs
            · cases hs
    · cases hs
  · cases hs
end Go.AI
