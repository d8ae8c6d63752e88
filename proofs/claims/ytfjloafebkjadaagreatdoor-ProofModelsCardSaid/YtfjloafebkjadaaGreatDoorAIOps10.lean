import Derived.Test.YtfjloafebkjadaaGreatDoorAIOps9
/- All operations that act. -/
namespace Go.AI
open Go.RowKit (Below)
variable {P : Program} {T : Tab} {γ : Emb} {h : AH} {w0 w : World}

theorem put_next {id off : Nat} {cs vs : List AV} {e : TypeId} {h' : AH} (hp : put? h id cs e off vs = some h') : h'.next = h.next := by
  unfold put? at hp; split at hp <;> cases hp; rfl
theorem copy_sound (hT : TabOk P T) (hw : WRel T γ h w0 w) {ts : Array TypeId} {t ty : TypeId} {d s v : AV} {d' s' : Value} {h' : AH} (h0 : ts[0]? = some t) (hs : acopy T h t d s = some (v, h')) (hd : VRel γ d d') (hv : VRel γ s s') :
    ∃ v' w', (Builtin.copy_ ts ty #[d', s']).run P w = .ok v' w' ∧ h'.next = h.next ∧ WRel T γ h' w0 w' ∧ VRel γ v v' := by
  unfold acopy at hs
  split at hs
  · rename_i e hde
    split at hs
    · rename_i ei m dl he hm hdl
      split at hs
      · rename_i new hnew
        split at hs
        · cases hs
        · rename_i hnl
          have hnl : new.length = Nat.min m dl * ei.size := by simpa using hnl
          obtain ⟨L, hL, hLf⟩ := first_sound (P := P) hw hnew hv
          have hf := hLf w (fun _ => rfl)
          have hln := lenOf_sound (P := P) w hm hv
          have a0 : (#[d', s'] : Array Value)[0]? = some d' := rfl
          have a1 : (#[d', s'] : Array Value)[1]? = some s' := rfl
          have run : ∀ base c, d' = .slice base dl c → (Builtin.copy_ ts ty #[d', s']).run P w = ((match base with | some a => storeCells a L | none => pure () : Sem Unit).run P w).andThen fun _ w' => .ok (goInt (Nat.min m dl)) w' := by
            intro base c hd'
            subst hd'
            unfold Builtin.copy_
            simp only [h0, a0, a1, Sem.run_bind, r_desc hT hde (by simp), Result.andThen_ok, hln, r_sizeOf hT he, hf]
            cases base with
            | none => rfl
            | some a => simp
          split at hs
          · rename_i id off len cap ex
            have hshape : ∃ b sh K z c, γ id = some (b, sh, K, z) ∧ d' = .slice (some ⟨b, sh + off, none⟩) dl c := by
              cases hdl
              cases hd with
              | slice hg => exact ⟨_, _, _, _, _, hg, rfl⟩
              | grown hg _ _ => exact ⟨_, _, _, _, _, hg, rfl⟩
            obtain ⟨b, sh, K, z, c, hg, hd'⟩ := hshape
            rw [run _ _ hd']
            split at hs
            · rename_i hnil
              cases hs
              subst hnil
              have : L = [] := List.length_eq_zero_iff.1 hL.length
              subst this
              exact ⟨_, w, rfl, rfl, hw, .int _ _⟩
            · split at hs
              · rename_i cs el ho
                rw [Option.map_eq_some_iff] at hs
                obtain ⟨h2, hp, he2⟩ := hs
                cases he2
                obtain ⟨w', g1, g2⟩ := put_run P hw ho hg hL hp
                simp only [g1, Result.andThen_ok]
                exact ⟨_, w', rfl, put_next hp, g2, .int _ _⟩
              · cases hs
          · cases hdl; cases hd; cases hs
            rw [run _ _ rfl]
            exact ⟨_, w, rfl, rfl, hw, .int _ _⟩
          · cases hdl; cases hs
            have hL0 : L = [] := List.length_eq_zero_iff.1 (by rw [hL.length, hnl]; simp)
            subst hL0
            cases hd
            rename_i a c
            rw [run _ _ rfl]
            exact ⟨_, w, rfl, rfl, hw, .int _ _⟩
          · cases hs
      · cases hs
    · cases hs
  · cases hs
theorem clear_sound (hT : TabOk P T) (hw : WRel T γ h w0 w) {ts : Array TypeId} {t ty : TypeId} {x : AV} {x' : Value} {h' : AH} (h0 : ts[0]? = some t) (hs : aclear T h t x = some h') (hx : VRel γ x x') :
    ∃ w', (Builtin.clear_ ts ty #[x']).run P w = .ok (.tuple #[]) w' ∧ h'.next = h.next ∧ WRel T γ h' w0 w' := by
  have a0 : (#[x'] : Array Value)[0]? = some x' := rfl
  unfold aclear at hs
  unfold Builtin.clear_
  simp only [h0, a0]
  split at hs
  · rename_i k e hd
    cases hs; cases hx
    simp only [Sem.run_bind, r_desc hT hd (by simp), Result.andThen_ok]
    exact ⟨w, rfl, trivial, hw⟩
  · rename_i k e r hd
    cases hx with
    | map hg =>
    split at hs
    · rename_i es c he
      cases hs
      obtain ⟨ho, hB, es', h2, h3⟩ := obj_map hw he hg
      simp only [Sem.run_bind, r_desc hT hd (by simp), Result.andThen_ok, run_getObj_map' h2]
      rw [setObj_run h2 (by simp)]
      exact ⟨_, rfl, rfl, hw.setW hg ho (by simp) hB ⟨hB, #[], rfl, .nil⟩⟩
    · cases hs
  · rename_i e hd
    cases hs; cases hx
    simp only [Sem.run_bind, r_desc hT hd (by simp), Result.andThen_ok]
    exact ⟨w, rfl, trivial, hw⟩
  · rename_i e hd
    cases hs; cases hx
    simp only [Sem.run_bind, r_desc hT hd (by simp), Result.andThen_ok]
    exact ⟨w, rfl, trivial, hw⟩
  · rename_i e id off len cap ex hd
    split at hs
    · rename_i ei cs el he ho
      split at hs
      · rename_i hz
        obtain ⟨z, h1, h2, h3, h4⟩ := r_zero hT he w
        have hzl : LRel γ ei.zero z.cells.toList := by rw [h2]; exact (toAV_rel γ z).cells h4
        have hshape : ∃ b sh K z c, γ id = some (b, sh, K, z) ∧ x' = .slice (some ⟨b, sh + off, none⟩) len c := by
          cases hx with
          | slice hg => exact ⟨_, _, _, _, _, hg, rfl⟩
          | grown hg _ _ => exact ⟨_, _, _, _, _, hg, rfl⟩
        obtain ⟨b, sh, K, zz, c, hg, rfl⟩ := hshape
        have hrel := zeros_rel hzl len
        have hzs : ei.zero.length = z.cells.size := (lrel_size hzl).symm
        rw [hzs] at hrel
        obtain ⟨w', g1, g2⟩ := put_run P hw ho hg hrel hs
        simp only [Sem.run_bind, r_desc hT hd (by simp), Result.andThen_ok]
        cases len with
        | zero =>
          have hh : h' = h.upd id (.cells cs el false) ∨ True := .inr trivial
          simp only [rep] at hs
          refine ⟨w, rfl, put_next hs, ?_⟩
          have : w' = w := by
            simp [storeCells] at g1
            exact g1.symm
          rw [← this]; exact g2
        | succ n =>
          simp only [Sem.run_bind, h1, Result.andThen_ok]
          have : (Builtin.zeroCells z.cells (n + 1)).toList = ((Array.range ((n + 1) * z.cells.size)).map (fun i => z.cells[i % z.cells.size]!)).toList := rfl
          rw [this, g1]
          exact ⟨w', rfl, put_next hs, g2⟩
      · cases hs
    · cases hs
  · cases hs
theorem delete_sound (hT : TabOk P T) (hw : WRel T γ h w0 w) {ts : Array TypeId} {t ty : TypeId} {m k : AV} {m' k' : Value} {h' : AH} (h0 : ts[0]? = some t) (hs : adelete T h t m k = some h') (hm : VRel γ m m') (hk : VRel γ k k') :
    ∃ w', (Builtin.delete_ ts ty #[m', k']).run P w = .ok (.tuple #[]) w' ∧ h'.next = h.next ∧ WRel T γ h' w0 w' := by
  have a0 : (#[m', k'] : Array Value)[0]? = some m' := rfl
  have a1 : (#[m', k'] : Array Value)[1]? = some k' := rfl
  unfold adelete at hs
  unfold Builtin.delete_
  simp only [h0, a0, a1]
  split at hs
  · rename_i q hkd
    obtain ⟨kd, z⟩ := q
    obtain ⟨et, Q⟩ := keyed_sound hT (γ := γ) (k' := k') hkd hk w
    cases hs; cases hm
    simp only [Sem.run_bind, Q.map, Result.andThen_ok, Q.check]
    exact ⟨w, rfl, trivial, hw⟩
  · rename_i kd z r hkd
    obtain ⟨et, Q⟩ := keyed_sound hT (γ := γ) (k' := k') hkd hk w
    cases hm with
    | map hg =>
    split at hs
    · rename_i es c he
      obtain ⟨ho, hB, es', h2, h3⟩ := obj_map hw he hg
      simp only [Sem.run_bind, Q.map, Result.andThen_ok, run_getObj_map' h2, Q.check]
      split at hs
      · rename_i i u hf
        cases hs
        obtain ⟨r', g1, g2⟩ := findkey_sound hT w Q.key hk h3 hf
        rw [g1]
        cases r' with
        | none => exact g2.elim
        | some x =>
          obtain ⟨j, u'⟩ := x
          obtain ⟨rfl, _⟩ := g2
          simp only [Result.andThen_ok, Sem.run_bind]
          rw [setObj_run h2 (by simp)]
          refine ⟨_, rfl, rfl, hw.setW hg ho (by simp) hB ⟨hB, _, rfl, ?_⟩⟩
          rw [Array.toList_eraseIdxIfInBounds]
          exact h3.eraseIdx i
      · rename_i hf
        cases hs
        obtain ⟨r', g1, g2⟩ := findkey_sound hT w Q.key hk h3 hf
        rw [g1]
        cases r' with
        | some x => exact g2.elim
        | none =>
          simp only [Result.andThen_ok, Sem.run_bind]
          rw [setObj_run h2 (by simp)]
          refine ⟨_, rfl, trivial, ?_⟩
          refine hw.same (w' := AI.setW w _ (.map es' c)) ?_ rfl rfl rfl
          apply Array.ext_getElem?
          intro i
          simp only [AI.setW, Array.getElem?_setIfInBounds]
          split
          · rename_i hi; subst hi; split
            · exact h2.symm
            · rename_i hlt; rw [Array.getElem?_eq_none (by omega)] at h2; cases h2
          · rfl
      · cases hs
    · cases hs
  · cases hs
theorem ERel.filter {γ : Emb} {p : AEntry → Bool} {p' : MapEntry → Bool} (hp : ∀ e e', e'.born = e.born → p' e' = p e) : ∀ {l : List AEntry} {l' : List MapEntry}, ERel γ l l' → ERel γ (l.filter p) (l'.filter p')
  | _, _, .nil => .nil
  | _, _, .cons (e := e) (e' := e') a b c t => by
    have := hp e e' c
    rw [List.filter_cons, List.filter_cons, this]
    split
    · exact .cons a b c (ERel.filter hp t)
    · exact ERel.filter hp t
theorem ERel.all {γ : Emb} {p : AEntry → Bool} {p' : MapEntry → Bool} (hp : ∀ e e', e'.born = e.born → p' e' = p e) : ∀ {l : List AEntry} {l' : List MapEntry}, ERel γ l l' → l'.all p' = l.all p
  | _, _, .nil => rfl
  | _, _, .cons (e := e) (e' := e') _ _ c t => by rw [List.all_cons, List.all_cons, hp e e' c, ERel.all hp t]
theorem next_map_run {r : Nat} {m : Nat} {since last clock : Nat} {seen : Array Nat} {es : Array MapEntry} {ty : TypeId} (h1 : w.heap[r]? = some (.mapIter (some m) since seen last)) (h2 : w.heap[m]? = some (.map es clock))
    (hg : (!seen.isEmpty && !es.isEmpty && es.all (fun e => decide (e.born ≥ last))) = false) :
    (es.toList.filter (fun e => !seen.contains e.born) = [] → (Instr.next (.pointer (some ⟨r, 0, none⟩)) false ty).run P w = .ok (.tuple #[.bool false]) w) ∧
    (∀ e, es.toList.filter (fun e => !seen.contains e.born) = [e] → e.born < since → (Instr.next (.pointer (some ⟨r, 0, none⟩)) false ty).run P w = .ok (.tuple #[.bool true, e.key, e.val]) (setW w r (.mapIter (some m) since (seen.push e.born) clock))) := by
  have gi : (getObj r).run P w = .ok (.mapIter (some m) since seen last) w := by simp [getObj, Sem.run, h1]
  have gm := run_getObj_map' (P := P) h2
  refine ⟨fun hl => ?_, fun e hl hb => ?_⟩
  · have hleft : es.filter (fun e => !seen.contains e.born) = #[] := Array.toList_inj.1 (by rw [Array.toList_filter]; exact hl)
    unfold Instr.next
    simp only [Sem.run_bind, gi, Result.andThen_ok, gm, hg, Bool.false_eq_true, if_false, hleft]
    simp [Question.forced]
  · have hleft : es.filter (fun e => !seen.contains e.born) = #[e] := Array.toList_inj.1 (by rw [Array.toList_filter]; exact hl)
    unfold Instr.next
    simp only [Sem.run_bind, gi, Result.andThen_ok, gm, hg, Bool.false_eq_true, if_false, hleft]
    have n1 : ¬ since ≤ e.born := by omega
    simp [Question.forced, hb, n1, setObj_run (P := P) h1 (by simp)]
theorem next_sound (hw : WRel T γ h w0 w) {it v : AV} {it' : Value} {isS : Bool} {ty : TypeId} {h' : AH} (hs : anext h it isS = some (v, h')) (hi : VRel γ it it') :
    ∃ v' w', (Instr.next it' isS ty).run P w = .ok v' w' ∧ h'.next = h.next ∧ WRel T γ h' w0 w' ∧ VRel γ v v' := by
  unfold anext at hs
  split at hs
  · rename_i r
    cases hi with
    | ptr hg =>
    rename_i b s K z
    obtain ⟨o, h1, h2, h3⟩ := hw.obj _ _ _ _ _ hg
    rw [h1] at hs
    split at hs
    · rename_i l pos heq
      cases heq
      obtain ⟨hB, rfl, hob⟩ := h3
      have gi : (getObj b).run P w = .ok (.stringIter ⟨⟨l⟩⟩ pos) w := by simp [getObj, Sem.run, hob]
      have hsz : (⟨⟨l⟩⟩ : ByteArray).size = l.length := rfl
      split at hs
      · rename_i hlt
        cases hs
        refine ⟨.tuple #[.bool true, goInt pos, .int .i32 (Utf8.decode ⟨⟨l⟩⟩ pos).1], setW w b (.stringIter ⟨⟨l⟩⟩ (pos + (Utf8.decode ⟨⟨l⟩⟩ pos).2)), ?_, rfl, hw.setW hg h1 (by simp) hB ⟨hB, rfl, rfl⟩, .tuple (.cons (.bool _) (.cons (.int _ _) (.cons (.int _ _) .nil)))⟩
        unfold Instr.next
        simp only [Sem.run_bind, gi, Result.andThen_ok, hsz]
        rw [if_pos hlt]
        simp [setObj_run (P := P) hob (by simp)]
      · rename_i hlt
        cases hs
        refine ⟨.tuple #[.bool false], w, ?_, rfl, hw, .tuple (.cons (.bool _) .nil)⟩
        unfold Instr.next
        simp only [Sem.run_bind, gi, Result.andThen_ok, hsz]
        rw [if_neg hlt]; rfl
    · rename_i since seen st heq
      cases heq
      obtain ⟨hB, rfl, m', hob, rfl⟩ := h3
      cases hs
      have gi : (getObj b).run P w = .ok (.mapIter none since ⟨seen⟩ st) w := by simp [getObj, Sem.run, hob]
      refine ⟨.tuple #[.bool false], w, ?_, rfl, hw, .tuple (.cons (.bool _) .nil)⟩
      unfold Instr.next
      simp only [Sem.run_bind, gi, Result.andThen_ok]
      rfl
    · rename_i m since seen last heq
      cases heq
      obtain ⟨hB, rfl, m', hob, b', s', K', z', hgm, rfl⟩ := h3
      split at hs
      · rename_i es clock he
        obtain ⟨_, _, es', hb2, hr2⟩ := obj_map hw he hgm
        have hall : es'.all (fun e => decide (e.born ≥ last)) = es.all (fun e => decide (last ≤ e.born)) := by
          rw [← Array.all_toList]
          exact hr2.all (fun e e' hbn => by rw [hbn])
        have hemp : es'.isEmpty = es.isEmpty := by
          have hlen := hr2.length
          rw [Array.length_toList] at hlen
          rw [Array.isEmpty, hlen]
          cases es <;> rfl
        have hfil : ERel γ (es.filter fun e => !seen.contains e.born) (es'.toList.filter fun e => !(⟨seen⟩ : Array Nat).contains e.born) := hr2.filter (fun e e' hbn => by rw [hbn]; simp)
        split at hs
        · cases hs
        · rename_i hgd
          have hgd' : (!(⟨seen⟩ : Array Nat).isEmpty && !es'.isEmpty && es'.all (fun e => decide (e.born ≥ last))) = false := by
            rw [hall, hemp]
            have : (⟨seen⟩ : Array Nat).isEmpty = seen.isEmpty := by cases seen <;> rfl
            rw [this]; simpa using hgd
          obtain ⟨q1, q2⟩ := next_map_run (P := P) (ty := ty) hob hb2 hgd'
          generalize hfe : es.filter (fun e => !seen.contains e.born) = fl at hs hfil
          generalize hfe' : es'.toList.filter (fun e => !(⟨seen⟩ : Array Nat).contains e.born) = fl' at hfil q1 q2
          split at hs
          · cases hs
            cases hfil
            exact ⟨_, w, q1 rfl, rfl, hw, .tuple (.cons (.bool _) .nil)⟩
          · split at hs
            · rename_i hlt
              cases hs
              cases hfil with
              | cons a c d t =>
              cases t
              refine ⟨_, _, q2 _ rfl (by rw [d]; exact hlt), rfl, hw.setW hg h1 (by simp) hB ⟨hB, rfl, _, ?_, _, _, _, _, hgm, rfl⟩, .tuple (.cons (.bool _) (.cons a (.cons c .nil)))⟩
              rw [d]; simp
            · cases hs
          · cases hs
      · cases hs
    · cases hs
  · cases hs
end Go.AI
