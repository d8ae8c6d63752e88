/- Lists of one's own; lists that are the same. -/
import Derived.Test.YtfjloafebkjadaaGreatDoorPgG
namespace Go.Proofs.YtfjloafebkjadaaGreatDoor
namespace Pf
open Go Go.AI Go.Proofs
variable {gt : Tree (List AV)}
/-- A row of one's own is only read from now on. -/
theorem freezeV {G h : AH} {col : Nat → Nat} {c n : Nat} {v : AV} {cs : List AV} (S : HS G h col) (V : Vec col c h 3 1 v n cs) (hc : c ≠ 0) :
    ∃ G' col', HS G' h col' ∧ G.le G' ∧ Vec (fun _ => 0) 0 G' 3 1 v n cs ∧ (∀ c' e sz v' n' cs', c' ≠ c → c' ≠ 0 → Vec col c' h e sz v' n' cs' → Vec col' c' h e sz v' n' cs') ∧ (∀ i, col' i = col i ∨ col' i = 0) ∧ (∀ i o, G'.t.get i = some o → G.t.get i = some o ∨ col i ≠ 0) := by
  cases V with
  | nil => exact ⟨G, col, S, fun _ _ e => e, .nil, fun _ _ _ _ _ _ _ _ V => V, fun _ => .inl rfl, fun _ _ e => .inl e⟩
  | @mk id _ cap ex _ tail hg hc' hn hx =>
    have S1 : HS G h (recol col id 0) := ⟨S.wf, S.le, fun i o e => by
      unfold recol; split
      · rfl
      · exact S.ro i o e, fun i hi => by
      unfold recol; split
      · rfl
      · exact S.fresh i hi⟩
    refine ⟨G.add id _, recol col id 0, S1.add hg (recol_same ..), S1.le_add hg, .mk (AH.get_add ..) rfl hn hx, fun c' e sz v' n' cs' h1 h2 V' => ?_, fun i => ?_, fun i o e => ?_⟩
    · cases V' with
      | nil => exact .nil
      | @mk id' _ _ _ _ _ hg' hc2 hn' hx' =>
        refine .mk hg' ?_ hn' hx'
        have : id' ≠ id := fun e => h1 (by rw [← hc2, e, hc'])
        unfold recol; rw [if_neg this]; exact hc2
    · unfold recol; split
      · exact .inr rfl
      · exact .inl rfl
    · simp only [AH.add, Tree.get_put] at e
      split at e
      · rename_i hi; right; rw [hi, hc']; exact hc
      · exact .inl e
theorem Step.freeze {R : Nat → Prop} {h h1 : AH} {col1 col2 : Nat → Nat} (A : Step R (fun _ => 0) h col1 h1) (hc : ∀ i, col2 i = col1 i ∨ col2 i = 0) : Step R (fun _ => 0) h col2 h1 where
  old := fun i hi => (hc i).elim (fun e => e.trans (A.old i hi)) id
  new := fun i hi h0 => (hc i).elim (fun e => by rw [e] at h0 ⊢; exact A.new i hi h0) (fun e => absurd e h0)
  fresh := fun i hi => (hc i).elim (fun e => e.trans (A.fresh i hi)) id
  same := A.same
  nx := A.nx
  wf := A.wf
theorem range_ints (l : List Int) : (List.range l.length).map (fun j => AV.int .i64 (l.getD j 0)) = l.map (AV.int .i64) := by
  apply List.ext_getElem?
  intro i
  by_cases hi : i < l.length
  · rw [List.getElem?_map, List.getElem?_range hi, List.getElem?_map]
    show some (AV.int .i64 (l.getD i 0)) = Option.map (AV.int .i64) l[i]?
    rw [List.getD_eq_getElem?_getD, List.getElem?_eq_getElem hi]; rfl
  · rw [List.getElem?_eq_none (by simp; omega), List.getElem?_eq_none (by simp; omega)]
set_option maxHeartbeats 4000000 in
theorem own_specG {G h : AH} {colc : Nat → Nat} (S : HS G h colc) {n : Int} {v : AV} {t : List (List Int)} {cv : Nat → AV} (D : CnfAt G n v t cv) (nz : ∀ i, i < t.length → NZ (cv i)) (hb : ∀ l ∈ t, l.length ≤ 2 ^ 36) (hm : t.length ≤ 2 ^ 30) :
    EvF (TT gt) X 34 [v] h (fun r h' => (h.le h' ∧ WF h') ∧ ∃ G', HS G' h' colc ∧ G.le G' ∧ (∃ cv', CnfAt G' n r t cv') ∧ NZ r) := by
  have S0 : HS G h (fun _ => 0) := ⟨S.wf, S.le, fun _ _ _ => rfl, fun _ _ => rfl⟩
  have lt := fun h' => D.rows.len_any (T := TT gt) (t := 22) rfl h'
  have lt0 := lt h
  refine EvF.enter rfl rfl rfl ?_
  repeat (first | refine EvO.plain rfl rfl rfl rfl rfl rfl ?_ | refine EvO.plain rfl rfl rfl rfl rfl (by assumption) ?_ | refine EvC.seq ?_ | refine EvC.region rfl ?_ | refine EvO.nil ?_ | refine at_normal ?_ | refine EvC.block ?_)
  clear lt0
  refine EvC.loop (fun m σ h' => ∃ (i : Nat) (w : AV) (cells : List AV) (Gk : AH) (col : Nat → Nat) (E : Nat → AV), HS Gk h' col ∧ G.le Gk ∧ (∀ i o, Gk.t.get i = some o → G.t.get i = some o ∨ h.next ≤ i) ∧ Step (fun c => c = 1 ∨ c = 2) (fun _ => 0) h col h' ∧ Vec col 1 h' 35 1 w i cells ∧ (∀ j, j < i → ∃ a, cells[j]? = some a ∧ IntRow Gk a (t.getD j [])) ∧ i ≤ t.length ∧ m = t.length - i ∧ σ = upds [(3, w), (6, v), (7, .int .i64 t.length), (8, .int .i64 i)] E) (t.length) ?_ ?_
  · exact ⟨0, _, [], G, _, _, S0, fun _ _ e => e, fun _ _ e => .inl e, Step.refl S0, .nil, fun j hj => absurd hj (Nat.not_lt_zero _), Nat.zero_le _, rfl, hold ⟨rfl, rfl, rfl, rfl, trivial⟩⟩
  · have Sc := S
    clear S
    rintro m _ h3 ⟨i, w, cells, Gk, col, E, S, hG, hGn, A, V, hel, hi, rfl, rfl⟩
    repeat (first | refine EvO.plain rfl rfl rfl rfl rfl rfl ?_ | refine EvC.seq ?_ | refine EvC.region rfl ?_ | refine EvO.nil ?_ | refine at_normal ?_)
    refine EvC.decide rfl (fun hc => ?_) (fun hc => ?_)
    · have hlt : i < t.length := by omega
      have hle3 : G.le h3 := AH.le.trans' hG S.le
      have hOB := (D.rows.mono hle3).at1 (T := TT gt) (t := 22) (e := 35) rfl rfl rfl rfl (k := .i64) (i := i) (by omega) (by omega)
      obtain ⟨q, b1, b2⟩ := hOB
      rw [Int.toNat_natCast] at b2
      have hlb := hb _ (getDL_mem hlt)
      repeat (first | refine EvO.plain rfl rfl rfl rfl rfl rfl ?_ | refine EvO.plain rfl rfl rfl rfl rfl (by assumption) ?_ | refine EvC.seq ?_ | refine EvC.region rfl ?_ | refine EvO.nil ?_ | refine at_normal ?_ | refine EvC.skip ?_ | refine EvC.block ?_)
      clear b1 b2
      (refine EvO.cons rfl rfl rfl (EvP.newC (b := .cells [] 3 false) (mk := .slice 0 0 true) S 2 rfl rfl (by decide) (fun h4 id4 col4 A4 S4 o4 c4 _ => ?_)))
      have V4 : Vec col4 2 h4 3 1 (.slice id4 0 0 0 true) 0 [] := .mk (tail := []) o4 c4 rfl (fun _ => ⟨Nat.le_refl _, rfl⟩)
      repeat (refine EvO.plain rfl rfl rfl rfl rfl rfl ?_)
      (refine EvO.cons rfl rfl rfl (EvP.appendRow S4 V4 (by decide) (RowOf.mono (AH.le.trans' hG S4.le) (D.ints i hlt)) (nz i hlt) (fun _ _ => rfl) rfl rfl rfl rfl rfl rfl rfl rfl rfl rfl (by show (0 + (t.getD i []).length) * 8 ≤ 70368744177664; omega) (by omega) (fun v5 h5 col5 A5 S5 V5 => ?_)))
      rw [range_ints, List.nil_append, Nat.zero_add] at V5
      have VV := (V.step A4 S.wf (by decide)).step A5 S4.wf (by decide)
      have A5 := (A.trans (A4.mono (fun _ e => .inr e))).trans (A5.mono (fun _ e => .inr e))
      have hOB := freezeV S5 V5 (by decide)
      obtain ⟨G6, col6, S6, hG6, V6, htr, hcol6, hG6n⟩ := hOB
      have A6 := Step.freeze A5 hcol6
      have VV := htr _ _ _ _ _ _ (by decide) (by decide) VV
      have row6 : IntRow G6 v5 (t.getD i []) := row_ints V6.row
      have sc := RowOf.sc row6
      skip
      (refine EvO.cons rfl rfl rfl (EvP.newR (b := .cells [v5] 35 false) (mk := .slice 1 1 true) S6 rfl (show abuildSlice (TT gt) 22 1 [(0, v5)] = _ from build1 rfl rfl rfl rfl sc) (fun h7 id7 A7 S7 hle7 o7 _ _ => ?_)))
      have V7 := VV.step A7 S6.wf (fun e => e)
      (refine EvO.cons rfl rfl rfl (EvP.appendC S7 V7 (by decide) rfl rfl rfl rfl rfl rfl rfl rfl rfl (by decide) rfl rfl (afirst_all o7 rfl) rfl (by decide) (by simp [sc.2]) (by show (i + 1) * 24 ≤ 70368744177664; omega) (by show i + 1 ≤ 1099511627776; omega) (fun w8 h8 col8 A8 S8 V8 => ?_)))
      repeat (first | refine EvO.plain rfl rfl rfl rfl rfl rfl ?_ | refine EvC.region rfl ?_ | refine EvO.nil ?_ | refine at_normal ?_ | refine be_normal ?_ | refine ro_normal ?_ | refine EvO.cons rfl rfl rfl (EvP.add64 rfl rfl (by omega) ?_))
      have hcl : cells.length = i := by have := V.count; omega
      refine ⟨t.length - (i + 1), by omega, i + 1, w8, cells ++ [v5], G6, col8, _, S8.down hle7, AH.le.trans' hG hG6, fun i o e => ?_, (A6.trans (A7.mono (fun _ e => e.elim))).trans (A8.mono (fun _ e => .inl e)), V8, fun j hj => ?_, by omega, rfl, hold ⟨rfl, rfl, rfl, rfl, trivial⟩⟩
      · have hOB := hG6n i o e
        rcases hOB with h' | h'
        · exact hGn i o h'
        · refine .inr ?_
          have hOB := Nat.lt_or_ge i h.next
          rcases hOB with h'' | h''
          · exact absurd (A5.old i h'') h'
          · exact h''
      have hOB := Nat.lt_or_ge j i
      rcases hOB with h' | h'
      · have hOB := hel j h'
        obtain ⟨a, k1, k2⟩ := hOB
        exact ⟨a, by rw [List.getElem?_append_left (by omega)]; exact k1, k2.mono hG6⟩
      · have hOB : j = i := by omega
        obtain rfl := hOB
        exact ⟨v5, by rw [List.getElem?_append_right (by omega), hcl]; simp, row6⟩
    · have hOB : i = t.length := by omega
      obtain rfl := hOB
      repeat (first | refine EvO.plain rfl rfl rfl rfl rfl rfl ?_ | refine EvC.seq ?_ | refine EvC.region rfl ?_ | refine EvO.nil ?_ | refine at_normal ?_ | refine EvC.ret ?_ | refine EvC.exit ?_ | refine at_exit ?_ | refine be_same rfl ?_ | refine ro_exit ?_)
      (refine ret_is (v := w) rfl rfl ?_)
      have S1 := HS.hide Sc A (by rintro (e | e) <;> cases e)
      have Sk : HS Gk h3 colc := ⟨S.wf, S.le, fun i o e => (hGn i o e).elim (Sc.ro i o) (Sc.fresh i), fun i hi => Sc.fresh i (Nat.le_trans A.nx hi)⟩
      have hle : h.le h3 := fun i o e => by rw [A.same i (Sc.wf.lt e) (by rintro (e | e) <;> cases e)]; exact e
      refine ⟨⟨hle, S.wf⟩, ?_⟩
      have fin : ∀ {G' : AH}, HS G' h3 colc → Gk.le G' → RowOf G' 1 w t.length (fun i => (cells.drop (i * 1)).take 1) → ∃ G', HS G' h3 colc ∧ G.le G' ∧ (∃ cv', CnfAt G' n w t cv') ∧ NZ w := fun {G'} s1 s2 row => by
        refine ⟨G', s1, AH.le.trans' hG s2, ⟨fun i => cells.getD i .undef, row.congr fun i hi => ?_, fun i hi => ?_, D.lens, D.many⟩, V.nz⟩
        · have hOB := hel i hi
          obtain ⟨a, h1, _⟩ := hOB
          rw [Nat.mul_one, List.take_one, List.head?_drop, h1, List.getD_eq_getElem?_getD, h1]; rfl
        · have hOB := hel i hi
          obtain ⟨a, h1, h2⟩ := hOB
          rw [List.getD_eq_getElem?_getD, h1]; exact h2.mono s2
      have hV : ∃ q, q = t.length ∧ Vec col 1 h3 35 1 w q cells := ⟨_, rfl, V⟩
      obtain ⟨q, hq, V⟩ := hV
      cases V with
      | nil => exact fin Sk (fun _ _ e => e) (by rw [← hq]; exact .nil)
      | @mk id _ cap ex _ tail hg hc hn hx =>
        have hid : h.next ≤ id := by
          have hOB := Nat.lt_or_ge id h.next
          rcases hOB with h' | h'
          · rw [A.old id h'] at hc; cases hc
          · exact h'
        exact fin (Sk.add hg (Sc.fresh id hid)) (Sk.le_add hg) (by rw [← hq]; exact Vec.row (.mk (col := fun _ => 0) (c := 0) (AH.get_add ..) rfl hn hx))
theorem own_spec {h : AH} (hw : WF h) {n : Int} {v : AV} {t : List (List Int)} {cv : Nat → AV} (D : CnfAt h n v t cv) (nz : ∀ i, i < t.length → NZ (cv i)) (hb : ∀ l ∈ t, l.length ≤ 2 ^ 36) (hm : t.length ≤ 2 ^ 30) :
    EvF (TT gt) X 34 [v] h (fun r h' => (h.le h' ∧ WF h') ∧ (∃ cv', CnfAt h' n r t cv') ∧ NZ r) := by
  refine EvF.mono (own_specG (HS.all hw) D nz hb hm) ?_
  rintro r h' _ ⟨h1, G', S, hG, ⟨cv', C⟩, nz⟩
  exact ⟨h1, ⟨cv', C.mono S.le⟩, nz⟩
theorem sameInts_spec {h : AH} {u v : AV} {l : List Int} (ru : IntRow h u l) (rv : IntRow h v l) (hl : l.length ≤ 2 ^ 50) :
    EvF (TT gt) X 28 [u, v] h (fun r h' => h' = h ∧ r = .bool true) := by
  have lu := RowOf.len_any (T := TT gt) (t := 35) ru rfl h
  have lv := RowOf.len_any (T := TT gt) (t := 35) rv rfl h
  refine EvF.enter rfl rfl rfl ?_
  repeat (first | refine EvO.plain rfl rfl rfl rfl rfl rfl ?_ | refine EvO.plain rfl rfl rfl rfl rfl (by assumption) ?_ | refine EvC.seq ?_ | refine EvC.region rfl ?_ | refine EvO.nil ?_ | refine at_normal ?_)
  refine EvC.cond (t := false) (isT (bne_eq_false_iff_eq.2 rfl)) (fun e => nomatch e) (fun _ => ?_)
  repeat (first | refine EvO.plain rfl rfl rfl rfl rfl rfl ?_ | refine EvO.plain rfl rfl rfl rfl rfl (by assumption) ?_ | refine EvC.seq ?_ | refine EvC.region rfl ?_ | refine EvO.nil ?_ | refine at_normal ?_ | refine EvC.skip ?_ | refine EvC.block ?_)
  clear lu lv
  refine EvC.loop (fun m σ h' => h' = h ∧ ∃ (i : Nat) (E : Nat → AV), i ≤ l.length ∧ m = l.length - i ∧ σ = upds [(0, u), (1, v), (11, u), (12, .int .i64 l.length), (13, .int .i64 i)] E) (l.length) ?_ ?_
  · exact ⟨rfl, 0, _, Nat.zero_le _, rfl, hold ⟨rfl, rfl, rfl, rfl, rfl, trivial⟩⟩
  · rintro m _ h ⟨rfl, i, E, hi, rfl, rfl⟩
    repeat (first | refine EvO.plain rfl rfl rfl rfl rfl rfl ?_ | refine EvC.seq ?_ | refine EvC.region rfl ?_ | refine EvO.nil ?_ | refine at_normal ?_)
    refine EvC.decide rfl (fun hc => ?_) (fun hc => ?_)
    · have hlt : i < l.length := by omega
      have hOB := ru.at1 (T := TT gt) (t := 35) (e := 3) rfl rfl rfl rfl (k := .i64) (i := i) (by omega) (by omega)
      obtain ⟨p, a1, a2⟩ := hOB
      have hOB := rv.at1 (T := TT gt) (t := 35) (e := 3) rfl rfl rfl rfl (k := .i64) (i := i) (by omega) (by omega)
      obtain ⟨q, b1, b2⟩ := hOB
      rw [Int.toNat_natCast] at a2 b2
      repeat (first | refine EvO.plain rfl rfl rfl rfl rfl rfl ?_ | refine EvC.seq ?_ | refine EvC.region rfl ?_ | refine EvO.nil ?_ | refine at_normal ?_ | refine EvC.skip ?_ | refine EvC.block ?_)
      refine EvC.drawn (p := [⟨0, false, 0, 0⟩, ⟨1, false, 0, 0⟩, ⟨2, false, 0, 0⟩, ⟨3, false, 0, 0⟩, ⟨4, false, 0, 0⟩, ⟨5, false, 0, 0⟩, ⟨6, false, 0, 0⟩, ⟨7, false, 0, 0⟩, ⟨8, false, 0, 0⟩]) rfl (by kernel_rfl) (by kernel_rfl) rfl ?_
      repeat (first | refine at_normal ?_ | refine EvR.nil ?_ | refine EvR.plain rfl rfl rfl rfl rfl rfl rfl ?_ | refine EvR.plain rfl rfl rfl rfl rfl rfl (by assumption) ?_)
      refine EvC.cond (t := false) (isT (bne_eq_false_iff_eq.2 rfl)) (fun e => nomatch e) (fun _ => ?_)
      repeat (first | refine EvO.plain rfl rfl rfl rfl rfl rfl ?_ | refine EvC.region rfl ?_ | refine EvO.nil ?_ | refine at_normal ?_ | refine EvC.skip ?_ | refine be_normal ?_ | refine ro_normal ?_ | refine EvO.cons rfl rfl rfl (EvP.add64 rfl rfl (by omega) ?_))
      exact ⟨l.length - (i + 1), by omega, rfl, i + 1, _, by omega, rfl, hold ⟨rfl, rfl, rfl, rfl, rfl, trivial⟩⟩
    · repeat (first | refine EvO.plain rfl rfl rfl rfl rfl rfl ?_ | refine EvC.seq ?_ | refine EvC.region rfl ?_ | refine EvO.nil ?_ | refine at_normal ?_ | refine EvC.ret ?_ | refine EvC.exit ?_ | refine at_exit ?_ | refine be_same rfl ?_ | refine ro_exit ?_)
      (refine ret_is (v := .bool true) rfl rfl ?_)
      exact ⟨rfl, rfl⟩
theorem sameClauses_spec {h : AH} {n : Int} {u v : AV} {t : List (List Int)} {cu cv : Nat → AV} (C : CnfAt h n u t cu) (D : CnfAt h n v t cv) :
    EvF (TT gt) X 29 [u, v] h (fun r h' => h' = h ∧ r = .bool true) := by
  have hmany := C.many
  have lu := C.rows.len_any (T := TT gt) (t := 22) rfl h
  have lv := D.rows.len_any (T := TT gt) (t := 22) rfl h
  refine EvF.enter rfl rfl rfl ?_
  repeat (first | refine EvO.plain rfl rfl rfl rfl rfl rfl ?_ | refine EvO.plain rfl rfl rfl rfl rfl (by assumption) ?_ | refine EvC.seq ?_ | refine EvC.region rfl ?_ | refine EvO.nil ?_ | refine at_normal ?_)
  refine EvC.cond (t := false) (isT (bne_eq_false_iff_eq.2 rfl)) (fun e => nomatch e) (fun _ => ?_)
  repeat (first | refine EvO.plain rfl rfl rfl rfl rfl rfl ?_ | refine EvO.plain rfl rfl rfl rfl rfl (by assumption) ?_ | refine EvC.seq ?_ | refine EvC.region rfl ?_ | refine EvO.nil ?_ | refine at_normal ?_ | refine EvC.skip ?_ | refine EvC.block ?_)
  clear lu lv
  refine EvC.loop (fun m σ h' => h' = h ∧ ∃ (i : Nat) (E : Nat → AV), i ≤ t.length ∧ m = t.length - i ∧ σ = upds [(0, u), (1, v), (11, u), (12, .int .i64 t.length), (13, .int .i64 i)] E) (t.length) ?_ ?_
  · exact ⟨rfl, 0, _, Nat.zero_le _, rfl, hold ⟨rfl, rfl, rfl, rfl, rfl, trivial⟩⟩
  · rintro m _ h ⟨rfl, i, E, hi, rfl, rfl⟩
    repeat (first | refine EvO.plain rfl rfl rfl rfl rfl rfl ?_ | refine EvC.seq ?_ | refine EvC.region rfl ?_ | refine EvO.nil ?_ | refine at_normal ?_)
    refine EvC.decide rfl (fun hc => ?_) (fun hc => ?_)
    · have hlt : i < t.length := by omega
      have hle := C.lens _ (getDL_mem hlt)
      have hOB := C.rows.at1 (T := TT gt) (t := 22) (e := 35) rfl rfl rfl rfl (k := .i64) (i := i) (by omega) (by omega)
      obtain ⟨p, a1, a2⟩ := hOB
      have hOB := D.rows.at1 (T := TT gt) (t := 22) (e := 35) rfl rfl rfl rfl (k := .i64) (i := i) (by omega) (by omega)
      obtain ⟨q, b1, b2⟩ := hOB
      rw [Int.toNat_natCast] at a2 b2
      repeat (first | refine EvO.plain rfl rfl rfl rfl rfl rfl ?_ | refine EvC.seq ?_ | refine EvC.region rfl ?_ | refine EvO.nil ?_ | refine at_normal ?_ | refine EvC.skip ?_ | refine EvC.block ?_)
      refine EvC.drawnH 0 (h) (p := [⟨0, false, 0, 0⟩, ⟨1, false, 0, 0⟩, ⟨2, false, 0, 0⟩, ⟨3, false, 0, 0⟩, ⟨4, false, 0, 0⟩, ⟨5, false, 0, 0⟩, ⟨6, false, 0, 0⟩, ⟨7, false, 0, 0⟩, ⟨8, true, 0, 1⟩, ⟨9, false, 1, 1⟩]) rfl (by kernel_rfl) (by kernel_rfl) ?_
      repeat (first | refine EvH.easy1 rfl rfl rfl rfl rfl rfl rfl rfl rfl rfl ?_ | refine EvH.easy1 rfl rfl rfl rfl rfl rfl rfl rfl rfl (by assumption) ?_)
      refine EvH.act rfl rfl rfl rfl rfl rfl rfl (EvP.callF rfl rfl rfl rfl (EvF.mono (sameInts_spec (C.ints i hlt) (D.ints i hlt) (by omega)) ?_))
      rintro _ h _ ⟨rfl, rfl⟩
      refine ⟨fun e => absurd e (by decide), ?_⟩
      repeat (refine EvH.easy1 rfl rfl rfl rfl rfl rfl rfl rfl rfl rfl ?_)
      repeat (first | refine at_normal ?_ | refine EvH.nil ?_)
      refine EvC.cond (t := false) rfl (fun e => nomatch e) (fun _ => ?_)
      repeat (first | refine EvO.plain rfl rfl rfl rfl rfl rfl ?_ | refine EvC.region rfl ?_ | refine EvO.nil ?_ | refine at_normal ?_ | refine EvC.skip ?_ | refine be_normal ?_ | refine ro_normal ?_ | refine EvO.cons rfl rfl rfl (EvP.add64 rfl rfl (by omega) ?_))
      exact ⟨t.length - (i + 1), by omega, rfl, i + 1, _, by omega, rfl, hold ⟨rfl, rfl, rfl, rfl, rfl, trivial⟩⟩
    · repeat (first | refine EvO.plain rfl rfl rfl rfl rfl rfl ?_ | refine EvC.seq ?_ | refine EvC.region rfl ?_ | refine EvO.nil ?_ | refine at_normal ?_ | refine EvC.ret ?_ | refine EvC.exit ?_ | refine at_exit ?_ | refine be_same rfl ?_ | refine ro_exit ?_)
      (refine ret_is (v := .bool true) rfl rfl ?_)
      exact ⟨rfl, rfl⟩
end Pf
end Go.Proofs.YtfjloafebkjadaaGreatDoor
