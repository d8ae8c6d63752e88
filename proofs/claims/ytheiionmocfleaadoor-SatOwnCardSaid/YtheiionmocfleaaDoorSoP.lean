/- Sets of clauses in memory of their own; whether a set is small. -/
import Derived.Test.YtheiionmocfleaaDoorScD
import Derived.Test.YtheiionmocfleaaDoorPfC
/- Sets of clauses in memory of their own; whether two sets are the same. -/
namespace Go.Proofs.YtheiionmocfleaaDoor
namespace Pf
open Go Go.AI Go.Proofs
variable {gt : Tree (List AV)}
/-- A row of one's own is only read from now on. -/
theorem freezeV {G h : AH} {col : Nat → Nat} {c n : Nat} {v : AV} {cs : List AV} (S : HS G h col) (V : Vec col c h 3 1 v n cs) (hc : c ≠ 0) :
    ∃ G' col', HS G' h col' ∧ G.le G' ∧ Vec (fun _ => 0) 0 G' 3 1 v n cs ∧ (∀ c' e sz v' n' cs', c' ≠ c → c' ≠ 0 → Vec col c' h e sz v' n' cs' → Vec col' c' h e sz v' n' cs') ∧ (∀ i, col' i = col i ∨ col' i = 0) ∧ (∀ i o, G'.t.get i = some o → G.t.get i = some o ∨ col i ≠ 0) := by
  cases V with
  | nil => exact ⟨G, col, S, fun _ _ e => e, .nil, fun _ _ _ _ _ _ _ _ V => V, fun _ => .inl rfl, fun _ _ e => .inl e⟩
  | @mk id _ cap ex _ tail hg hc' hn hx =>
    have S1 : HS G h (recol col id 0) := ⟨S.wf, S.le, fun i o e => by
      unfold recol; split
      · rfl
      · exact S.ro i o e, fun i hi => by
      unfold recol; split
      · rfl
      · exact S.fresh i hi⟩
    refine ⟨G.add id _, recol col id 0, S1.add hg (recol_same ..), S1.le_add hg, .mk (AH.get_add ..) rfl hn hx, fun c' e sz v' n' cs' h1 h2 V' => ?_, fun i => ?_, fun i o e => ?_⟩
    · cases V' with
      | nil => exact .nil
      | @mk id' _ _ _ _ _ hg' hc2 hn' hx' =>
        refine .mk hg' ?_ hn' hx'
        have : id' ≠ id := fun e => h1 (by rw [← hc2, e, hc'])
        unfold recol; rw [if_neg this]; exact hc2
    · unfold recol; split
      · exact .inr rfl
      · exact .inl rfl
    · simp only [AH.add, Tree.get_put] at e
      split at e
      · rename_i hi; right; rw [hi, hc']; exact hc
      · exact .inl e
theorem Step.freeze {R : Nat → Prop} {h h1 : AH} {col1 col2 : Nat → Nat} (A : Step R (fun _ => 0) h col1 h1) (hc : ∀ i, col2 i = col1 i ∨ col2 i = 0) : Step R (fun _ => 0) h col2 h1 where
  old := fun i hi => (hc i).elim (fun e => e.trans (A.old i hi)) id
  new := fun i hi h0 => (hc i).elim (fun e => by rw [e] at h0 ⊢; exact A.new i hi h0) (fun e => absurd e h0)
  fresh := fun i hi => (hc i).elim (fun e => e.trans (A.fresh i hi)) id
  same := A.same
  nx := A.nx
  wf := A.wf
theorem range_ints (l : List Int) : (List.range l.length).map (fun j => AV.int .i64 (l.getD j 0)) = l.map (AV.int .i64) := by
  apply List.ext_getElem?
  intro i
  by_cases hi : i < l.length
  · rw [List.getElem?_map, List.getElem?_range hi, List.getElem?_map]
    show some (AV.int .i64 (l.getD i 0)) = Option.map (AV.int .i64) l[i]?
    rw [List.getD_eq_getElem?_getD, List.getElem?_eq_getElem hi]; rfl
  · rw [List.getElem?_eq_none (by simp; omega), List.getElem?_eq_none (by simp; omega)]
set_option maxHeartbeats 4000000 in
theorem own_specG {G h : AH} {colc : Nat → Nat} (S : HS G h colc) {n : Int} {v : AV} {t : List (List Int)} {cv : Nat → AV} (D : CnfAt G n v t cv) (nz : ∀ i, i < t.length → NZ (cv i)) (hb : ∀ l ∈ t, l.length ≤ 2 ^ 36) (hm : t.length ≤ 2 ^ 30) :
    EvF (TT gt) X 55 [v] h (fun r h' => (h.le h' ∧ WF h') ∧ ∃ G', HS G' h' colc ∧ G.le G' ∧ (∃ cv', CnfAt G' n r t cv') ∧ NZ r) := by
  have S0 : HS G h (fun _ => 0) := ⟨S.wf, S.le, fun _ _ _ => rfl, fun _ _ => rfl⟩
  have lt := fun h' => D.rows.len_any (T := TT gt) (t := 22) rfl h'
  have lt0 := lt h
  refine EvF.enter rfl rfl rfl ?_
  repeat (first | refine EvO.plain rfl rfl rfl rfl rfl rfl ?_ | refine EvO.plain rfl rfl rfl rfl rfl (by assumption) ?_ | refine EvC.seq ?_ | refine EvC.region rfl ?_ | refine EvO.nil ?_ | refine at_normal ?_ | refine EvC.block ?_)
  clear lt0
  refine EvC.loop (fun m σ h' => ∃ (i : Nat) (w : AV) (cells : List AV) (Gk : AH) (col : Nat → Nat) (E : Nat → AV), HS Gk h' col ∧ G.le Gk ∧ (∀ i o, Gk.t.get i = some o → G.t.get i = some o ∨ h.next ≤ i) ∧ Step (fun c => c = 1 ∨ c = 2) (fun _ => 0) h col h' ∧ Vec col 1 h' 25 1 w i cells ∧ (∀ j, j < i → ∃ a, cells[j]? = some a ∧ IntRow Gk a (t.getD j [])) ∧ i ≤ t.length ∧ m = t.length - i ∧ σ = upds [(3, w), (6, v), (7, .int .i64 t.length), (8, .int .i64 i)] E) (t.length) ?_ ?_
  · exact ⟨0, _, [], G, _, _, S0, fun _ _ e => e, fun _ _ e => .inl e, Step.refl S0, .nil, fun j hj => absurd hj (Nat.not_lt_zero _), Nat.zero_le _, rfl, hold ⟨rfl, rfl, rfl, rfl, trivial⟩⟩
  · have Sc := S
    clear S
    rintro m _ h3 ⟨i, w, cells, Gk, col, E, S, hG, hGn, A, V, hel, hi, rfl, rfl⟩
    repeat (first | refine EvO.plain rfl rfl rfl rfl rfl rfl ?_ | refine EvC.seq ?_ | refine EvC.region rfl ?_ | refine EvO.nil ?_ | refine at_normal ?_)
    refine EvC.decide rfl (fun hc => ?_) (fun hc => ?_)
    · have hlt : i < t.length := by omega
      have hle3 : G.le h3 := AH.le.trans' hG S.le
      have hOB := (D.rows.mono hle3).at1 (T := TT gt) (t := 22) (e := 25) rfl rfl rfl rfl (k := .i64) (i := i) (by omega) (by omega)
      obtain ⟨q, b1, b2⟩ := hOB
      rw [Int.toNat_natCast] at b2
      have hlb := hb _ (getDL_mem hlt)
      repeat (first | refine EvO.plain rfl rfl rfl rfl rfl rfl ?_ | refine EvO.plain rfl rfl rfl rfl rfl (by assumption) ?_ | refine EvC.seq ?_ | refine EvC.region rfl ?_ | refine EvO.nil ?_ | refine at_normal ?_ | refine EvC.skip ?_ | refine EvC.block ?_)
      clear b1 b2
      (refine EvO.cons rfl rfl rfl (EvP.newC (b := .cells [] 3 false) (mk := .slice 0 0 true) S 2 rfl rfl (by decide) (fun h4 id4 col4 A4 S4 o4 c4 _ => ?_)))
      have V4 : Vec col4 2 h4 3 1 (.slice id4 0 0 0 true) 0 [] := .mk (tail := []) o4 c4 rfl (fun _ => ⟨Nat.le_refl _, rfl⟩)
      repeat (refine EvO.plain rfl rfl rfl rfl rfl rfl ?_)
      (refine EvO.cons rfl rfl rfl (EvP.appendRow S4 V4 (by decide) (RowOf.mono (AH.le.trans' hG S4.le) (D.ints i hlt)) (nz i hlt) (fun _ _ => rfl) rfl rfl rfl rfl rfl rfl rfl rfl rfl rfl (by show (0 + (t.getD i []).length) * 8 ≤ 70368744177664; omega) (by omega) (fun v5 h5 col5 A5 S5 V5 => ?_)))
      rw [range_ints, List.nil_append, Nat.zero_add] at V5
      have VV := (V.step A4 S.wf (by decide)).step A5 S4.wf (by decide)
      have A5 := (A.trans (A4.mono (fun _ e => .inr e))).trans (A5.mono (fun _ e => .inr e))
      have hOB := freezeV S5 V5 (by decide)
      obtain ⟨G6, col6, S6, hG6, V6, htr, hcol6, hG6n⟩ := hOB
      have A6 := Step.freeze A5 hcol6
      have VV := htr _ _ _ _ _ _ (by decide) (by decide) VV
      have row6 : IntRow G6 v5 (t.getD i []) := row_ints V6.row
      have sc := RowOf.sc row6
      skip
      (refine EvO.cons rfl rfl rfl (EvP.newR (b := .cells [v5] 25 false) (mk := .slice 1 1 true) S6 rfl (show abuildSlice (TT gt) 22 1 [(0, v5)] = _ from build1 rfl rfl rfl rfl sc) (fun h7 id7 A7 S7 hle7 o7 _ _ => ?_)))
      have V7 := VV.step A7 S6.wf (fun e => e)
      (refine EvO.cons rfl rfl rfl (EvP.appendC S7 V7 (by decide) rfl rfl rfl rfl rfl rfl rfl rfl rfl (by decide) rfl rfl (afirst_all o7 rfl) rfl (by decide) (by simp [sc.2]) (by show (i + 1) * 24 ≤ 70368744177664; omega) (by show i + 1 ≤ 1099511627776; omega) (fun w8 h8 col8 A8 S8 V8 => ?_)))
      repeat (first | refine EvO.plain rfl rfl rfl rfl rfl rfl ?_ | refine EvC.region rfl ?_ | refine EvO.nil ?_ | refine at_normal ?_ | refine be_normal ?_ | refine ro_normal ?_ | refine EvO.cons rfl rfl rfl (EvP.add64 rfl rfl (by omega) ?_))
      have hcl : cells.length = i := by have := V.count; omega
      refine ⟨t.length - (i + 1), by omega, i + 1, w8, cells ++ [v5], G6, col8, _, S8.down hle7, AH.le.trans' hG hG6, fun i o e => ?_, (A6.trans (A7.mono (fun _ e => e.elim))).trans (A8.mono (fun _ e => .inl e)), V8, fun j hj => ?_, by omega, rfl, hold ⟨rfl, rfl, rfl, rfl, trivial⟩⟩
      · have hOB := hG6n i o e
        rcases hOB with h' | h'
        · exact hGn i o h'
        · refine .inr ?_
          have hOB := Nat.lt_or_ge i h.next
          rcases hOB with h'' | h''
          · exact absurd (A5.old i h'') h'
          · exact h''
      have hOB := Nat.lt_or_ge j i
      rcases hOB with h' | h'
      · have hOB := hel j h'
        obtain ⟨a, k1, k2⟩ := hOB
        exact ⟨a, by rw [List.getElem?_append_left (by omega)]; exact k1, k2.mono hG6⟩
      · have hOB : j = i := by omega
        obtain rfl := hOB
        exact ⟨v5, by rw [List.getElem?_append_right (by omega), hcl]; simp, row6⟩
    · have hOB : i = t.length := by omega
      obtain rfl := hOB
      repeat (first | refine EvO.plain rfl rfl rfl rfl rfl rfl ?_ | refine EvC.seq ?_ | refine EvC.region rfl ?_ | refine EvO.nil ?_ | refine at_normal ?_ | refine EvC.ret ?_ | refine EvC.exit ?_ | refine at_exit ?_ | refine be_same rfl ?_ | refine ro_exit ?_)
      (refine ret_is (v := w) rfl rfl ?_)
      have S1 := HS.hide Sc A (by rintro (e | e) <;> cases e)
      have Sk : HS Gk h3 colc := ⟨S.wf, S.le, fun i o e => (hGn i o e).elim (Sc.ro i o) (Sc.fresh i), fun i hi => Sc.fresh i (Nat.le_trans A.nx hi)⟩
      have hle : h.le h3 := fun i o e => by rw [A.same i (Sc.wf.lt e) (by rintro (e | e) <;> cases e)]; exact e
      refine ⟨⟨hle, S.wf⟩, ?_⟩
      have fin : ∀ {G' : AH}, HS G' h3 colc → Gk.le G' → RowOf G' 1 w t.length (fun i => (cells.drop (i * 1)).take 1) → ∃ G', HS G' h3 colc ∧ G.le G' ∧ (∃ cv', CnfAt G' n w t cv') ∧ NZ w := fun {G'} s1 s2 row => by
        refine ⟨G', s1, AH.le.trans' hG s2, ⟨fun i => cells.getD i .undef, row.congr fun i hi => ?_, fun i hi => ?_, D.lens, D.many⟩, V.nz⟩
        · have hOB := hel i hi
          obtain ⟨a, h1, _⟩ := hOB
          rw [Nat.mul_one, List.take_one, List.head?_drop, h1, List.getD_eq_getElem?_getD, h1]; rfl
        · have hOB := hel i hi
          obtain ⟨a, h1, h2⟩ := hOB
          rw [List.getD_eq_getElem?_getD, h1]; exact h2.mono s2
      have hV : ∃ q, q = t.length ∧ Vec col 1 h3 25 1 w q cells := ⟨_, rfl, V⟩
      obtain ⟨q, hq, V⟩ := hV
      cases V with
      | nil => exact fin Sk (fun _ _ e => e) (by rw [← hq]; exact .nil)
      | @mk id _ cap ex _ tail hg hc hn hx =>
        have hid : h.next ≤ id := by
          have hOB := Nat.lt_or_ge id h.next
          rcases hOB with h' | h'
          · rw [A.old id h'] at hc; cases hc
          · exact h'
        exact fin (Sk.add hg (Sc.fresh id hid)) (Sk.le_add hg) (by rw [← hq]; exact Vec.row (.mk (col := fun _ => 0) (c := 0) (AH.get_add ..) rfl hn hx))
theorem own_spec {h : AH} (hw : WF h) {n : Int} {v : AV} {t : List (List Int)} {cv : Nat → AV} (D : CnfAt h n v t cv) (nz : ∀ i, i < t.length → NZ (cv i)) (hb : ∀ l ∈ t, l.length ≤ 2 ^ 36) (hm : t.length ≤ 2 ^ 30) :
    EvF (TT gt) X 55 [v] h (fun r h' => (h.le h' ∧ WF h') ∧ (∃ cv', CnfAt h' n r t cv') ∧ NZ r) := by
  refine EvF.mono (own_specG (HS.all hw) D nz hb hm) ?_
  rintro r h' _ ⟨h1, G', S, hG, ⟨cv', C⟩, nz⟩
  exact ⟨h1, ⟨cv', C.mono S.le⟩, nz⟩
theorem sameClauses_spec {h : AH} {n : Int} {u v : AV} {t : List (List Int)} {cu cv : Nat → AV} (C : CnfAt h n u t cu) (D : CnfAt h n v t cv) :
    EvF (TT gt) X 56 [u, v] h (fun r h' => h' = h ∧ r = .bool true) := by
  have hmany := C.many
  have lu := C.rows.len_any (T := TT gt) (t := 22) rfl h
  have lv := D.rows.len_any (T := TT gt) (t := 22) rfl h
  refine EvF.enter rfl rfl rfl ?_
  repeat (first | refine EvO.plain rfl rfl rfl rfl rfl rfl ?_ | refine EvO.plain rfl rfl rfl rfl rfl (by assumption) ?_ | refine EvC.seq ?_ | refine EvC.region rfl ?_ | refine EvO.nil ?_ | refine at_normal ?_)
  refine EvC.cond (t := false) (isT (bne_eq_false_iff_eq.2 rfl)) (fun e => nomatch e) (fun _ => ?_)
  repeat (first | refine EvO.plain rfl rfl rfl rfl rfl rfl ?_ | refine EvO.plain rfl rfl rfl rfl rfl (by assumption) ?_ | refine EvC.seq ?_ | refine EvC.region rfl ?_ | refine EvO.nil ?_ | refine at_normal ?_ | refine EvC.skip ?_ | refine EvC.block ?_)
  clear lu lv
  refine EvC.loop (fun m σ h' => h' = h ∧ ∃ (i : Nat) (E : Nat → AV), i ≤ t.length ∧ m = t.length - i ∧ σ = upds [(0, u), (1, v), (11, u), (12, .int .i64 t.length), (13, .int .i64 i)] E) (t.length) ?_ ?_
  · exact ⟨rfl, 0, _, Nat.zero_le _, rfl, hold ⟨rfl, rfl, rfl, rfl, rfl, trivial⟩⟩
  · rintro m _ h ⟨rfl, i, E, hi, rfl, rfl⟩
    repeat (first | refine EvO.plain rfl rfl rfl rfl rfl rfl ?_ | refine EvC.seq ?_ | refine EvC.region rfl ?_ | refine EvO.nil ?_ | refine at_normal ?_)
    refine EvC.decide rfl (fun hc => ?_) (fun hc => ?_)
    · have hlt : i < t.length := by omega
      have hle := C.lens _ (getDL_mem hlt)
      have hOB := C.rows.at1 (T := TT gt) (t := 22) (e := 25) rfl rfl rfl rfl (k := .i64) (i := i) (by omega) (by omega)
      obtain ⟨p, a1, a2⟩ := hOB
      have hOB := D.rows.at1 (T := TT gt) (t := 22) (e := 25) rfl rfl rfl rfl (k := .i64) (i := i) (by omega) (by omega)
      obtain ⟨q, b1, b2⟩ := hOB
      rw [Int.toNat_natCast] at a2 b2
      repeat (first | refine EvO.plain rfl rfl rfl rfl rfl rfl ?_ | refine EvC.seq ?_ | refine EvC.region rfl ?_ | refine EvO.nil ?_ | refine at_normal ?_ | refine EvC.skip ?_ | refine EvC.block ?_)
      refine EvC.drawnH 0 (h) (p := [⟨0, false, 0, 0⟩, ⟨1, false, 0, 0⟩, ⟨2, false, 0, 0⟩, ⟨3, false, 0, 0⟩, ⟨4, false, 0, 0⟩, ⟨5, false, 0, 0⟩, ⟨6, false, 0, 0⟩, ⟨7, false, 0, 0⟩, ⟨8, true, 0, 1⟩, ⟨9, false, 1, 1⟩]) rfl (by kernel_rfl) (by kernel_rfl) ?_
      repeat (first | refine EvH.easy1 rfl rfl rfl rfl rfl rfl rfl rfl rfl rfl ?_ | refine EvH.easy1 rfl rfl rfl rfl rfl rfl rfl rfl rfl (by assumption) ?_)
      refine EvH.act rfl rfl rfl rfl rfl rfl rfl (EvP.callF rfl rfl rfl rfl (EvF.mono (sameInts_spec (C.ints i hlt) (D.ints i hlt) (by omega)) ?_))
      rintro _ h _ ⟨rfl, rfl⟩
      refine ⟨fun e => absurd e (by decide), ?_⟩
      repeat (refine EvH.easy1 rfl rfl rfl rfl rfl rfl rfl rfl rfl rfl ?_)
      repeat (first | refine at_normal ?_ | refine EvH.nil ?_)
      refine EvC.cond (t := false) rfl (fun e => nomatch e) (fun _ => ?_)
      repeat (first | refine EvO.plain rfl rfl rfl rfl rfl rfl ?_ | refine EvC.region rfl ?_ | refine EvO.nil ?_ | refine at_normal ?_ | refine EvC.skip ?_ | refine be_normal ?_ | refine ro_normal ?_ | refine EvO.cons rfl rfl rfl (EvP.add64 rfl rfl (by omega) ?_))
      exact ⟨t.length - (i + 1), by omega, rfl, i + 1, _, by omega, rfl, hold ⟨rfl, rfl, rfl, rfl, rfl, trivial⟩⟩
    · repeat (first | refine EvO.plain rfl rfl rfl rfl rfl rfl ?_ | refine EvC.seq ?_ | refine EvC.region rfl ?_ | refine EvO.nil ?_ | refine at_normal ?_ | refine EvC.ret ?_ | refine EvC.exit ?_ | refine at_exit ?_ | refine be_same rfl ?_ | refine ro_exit ?_)
      (refine ret_is (v := .bool true) rfl rfl ?_)
      exact ⟨rfl, rfl⟩
/-- What is read of an argument has no odd empty rows. -/
theorem nz_cells {W : World} {v : AV} {n : Nat} {g : Nat → AV} (r : RowOf (embH W) 1 v n (fun i => [g i])) : ∀ i, i < n → NZ (g i) := fun i hi => by
  cases r with
  | nil => omega
  | empty => omega
  | @mk id off _ cap ex cs _ hc hg =>
    have hOB := sub_one (hg i hi)
    obtain ⟨x, h1, h2⟩ := hOB
    injection h1 with h1 _
    rw [h1]
    unfold cellsOf at hc
    rw [embH_get] at hc
    cases hb : W.heap[id]? with
    | none => rw [hb] at hc; cases hc
    | some o =>
      rw [hb] at hc
      cases o with
      | cells c e fz =>
        have hc : some (c.toList.map (embC W)) = some cs := hc
        cases hc
        rw [lget_eq, List.getElem?_map] at h2
        cases hu : c.toList[off + i * 1]? with
        | none => rw [hu] at h2; cases h2
        | some u => rw [hu] at h2; cases h2; exact Sa.nz_emb W u
      | _ => cases hc
theorem buildCn {n : Int} {v : AV} (hv : v.cells = [v] ∧ scalar v = true) : abuild (TT gt) 24 [(0, .int .i64 n), (1, v)] = some (.agg [.int .i64 n, v]) := by
  obtain ⟨h1, h2⟩ := hv
  cases v <;> first | rfl | (cases h2)
theorem fres_cell {T : Tab} {σ : Nat → AV} {h : AH} {a : Nat} {t : TypeId} {v : AV} (e : aload T h t (σ a) = some v) : fresults T σ h [.cell a t] = some [v] := by
  simp only [fresults, e]; rfl
/-- A copy of a set. -/
theorem Own_spec {h : AH} (hw : WF h) {n : Int} {cl : AV} {L : List (List Int)} {cv : Nat → AV} (C : CnfAt h n cl L cv) (nz : ∀ i, i < L.length → NZ (cv i)) (hb : ∀ l ∈ L, l.length ≤ 2 ^ 36) (hm : L.length ≤ 2 ^ 30) :
    EvF (TT gt) X 33 [.agg [.int .i64 n, cl]] h (fun r h' => (h.le h' ∧ WF h') ∧ ∃ w, r = .agg [.int .i64 n, w] ∧ (∃ cv', CnfAt h' n w L cv') ∧ NZ w) := by
  have S0 := HS.all hw
  refine EvF.enter rfl rfl rfl ?_
  repeat (first | refine EvC.seq ?_ | refine EvC.region rfl ?_)
  (refine EvO.cons rfl rfl rfl (EvP.newR (b := .cells [.int .i64 n, cl] 24 false) (mk := .ptr) S0 rfl rfl (fun h1 b1 A1 S1 hle1 o1 _ _ => ?_)))
  skip
  (refine EvO.cons rfl rfl rfl (EvP.newC (b := .cells [.int .i64 0, .nilSlice] 24 false) (mk := .ptr) S1 1 rfl rfl (by decide) (fun h2 p2 col2 A2 S2 o2 c2 _ => ?_)))
  have b2 := S2.le _ _ (AH.get_add h b1 (.cells [.int .i64 n, cl] 24 false))
  have hle2 : h.le h2 := AH.le.trans' hle1 S2.le
  have f1 := load1 (T := TT gt) (t := 3) (off := 0) b2 rfl rfl rfl
  have f2 := load1 (T := TT gt) (t := 22) (off := 1) b2 rfl rfl rfl
  have hGG : h2.le h2 := fun _ _ e => e
  repeat (first | refine EvC.seq ?_ | refine EvO.nil ?_ | refine at_normal ?_)
  refine EvC.drawnH 1 (h2) (p := [⟨0, false, 0, 1⟩, ⟨1, false, 0, 1⟩, ⟨2, false, 0, 0⟩, ⟨3, false, 0, 0⟩, ⟨4, true, 0, 1⟩, ⟨5, false, 1, 1⟩, ⟨6, true, 1, 2⟩]) rfl (by kernel_rfl) (by kernel_rfl) ?_
  repeat (first | refine EvH.easy1 rfl rfl rfl rfl rfl rfl rfl rfl rfl rfl ?_ | refine EvH.easy1 rfl rfl rfl rfl rfl rfl rfl rfl rfl (by assumption) ?_ | refine EvH.easyG (by assumption) rfl rfl rfl rfl rfl rfl rfl rfl rfl rfl (by first | exact veq_s rfl | assumption) ?_ | refine EvH.easyG (by assumption) rfl rfl rfl rfl rfl rfl rfl rfl rfl (by assumption) (by first | exact veq_s rfl | assumption) ?_)
  refine EvH.act rfl rfl rfl rfl rfl rfl rfl (EvP.callF rfl rfl rfl rfl (EvF.mono (own_specG S2 (C.mono hle1) nz hb hm) ?_))
  rintro r h3 hn3 ⟨⟨hl3, hw3⟩, G3, S3, hG3, ⟨cv', D3⟩, nzr⟩
  refine ⟨fun _ => hl3, ?_⟩
  clear f1 f2
  have sc := D3.rows.sc
  skip
  (refine EvH.quiet1 rfl rfl rfl rfl rfl rfl rfl rfl ((show abuild (TT gt) 24 [(0, .int .i64 n), (1, r)] = _ from buildCn sc)) ?_)
  (refine EvH.act0 rfl rfl rfl rfl rfl rfl (EvP.storeC (v := .agg [.int .i64 n, r]) S3 1 (hl3 _ _ o2) c2 (by decide) rfl rfl rfl rfl (by show ([AV.int .i64 n, r].all Go.AI.scalar) = true; rw [List.all_cons, List.all_cons, sc.2]; rfl) (by show 0 + 2 ≤ 2; decide) (fun h4 A4 S4 o4 hoth _ => ⟨fun e => absurd e (by decide), ?_⟩)))
  have o4 : h4.t.get p2 = some (.cells [.int .i64 n, r] 24 false) := o4
  have f5 := loadAgg (T := TT gt) (t := 24) (off := 0) (n := 2) (r := [.int .i64 n, r]) o4 rfl rfl
  have hl4 : h.le h4 := AH.le.trans' hle1 (AH.le.trans' hG3 S4.le)
  have D4 := D3.mono S4.le
  repeat (first | refine at_normal ?_ | refine EvC.ret ?_ | refine EvH.nil ?_)
  refine end_ret (vs := [.agg [.int .i64 n, r]]) ?_ ?_
  · exact fres_cell (a := 2) f5
  exact ⟨⟨hl4, S4.wf⟩, r, rfl, ⟨cv', D4⟩, nzr⟩
theorem Same_spec {h : AH} (hw : WF h) {n : Int} {u v : AV} {t : List (List Int)} {cu cv : Nat → AV} (C : CnfAt h n u t cu) (D : CnfAt h n v t cv) :
    EvF (TT gt) X 34 [.agg [.int .i64 n, u], .agg [.int .i64 n, v]] h (fun r h' => (h.le h' ∧ WF h') ∧ r = .bool true) := by
  have S0 := HS.all hw
  refine EvF.enter rfl rfl rfl ?_
  repeat (first | refine EvC.seq ?_ | refine EvC.region rfl ?_)
  (refine EvO.cons rfl rfl rfl (EvP.newR (b := .cells [.int .i64 n, u] 24 false) (mk := .ptr) S0 rfl rfl (fun h1 b1 A1 S1 hle1 o1 _ _ => ?_)))
  skip
  (refine EvO.cons rfl rfl rfl (EvP.newR (b := .cells [.int .i64 n, v] 24 false) (mk := .ptr) S1 rfl rfl (fun h2 b2 A2 S2 hle2 o2 _ _ => ?_)))
  have e1 := S2.le _ _ (hle2 _ _ (AH.get_add h b1 (.cells [.int .i64 n, u] 24 false)))
  have f1 := load1 (T := TT gt) (t := 3) (off := 0) e1 rfl rfl rfl
  have f2 := load1 (T := TT gt) (t := 22) (off := 1) e1 rfl rfl rfl
  have f3 := load1 (T := TT gt) (t := 3) (off := 0) o2 rfl rfl rfl
  have f4 := load1 (T := TT gt) (t := 22) (off := 1) o2 rfl rfl rfl
  have hle : h.le h2 := AH.le.trans' hle1 (AH.le.trans' hle2 S2.le)
  repeat (first | refine EvO.plain rfl rfl rfl rfl rfl rfl ?_ | refine EvO.plain rfl rfl rfl rfl rfl (by assumption) ?_ | refine EvC.seq ?_ | refine EvC.region rfl ?_ | refine EvO.nil ?_ | refine at_normal ?_)
  refine EvO.cons rfl rfl rfl (EvP.quiet rfl (isB (q := true) (beq_true rfl)) ?_)
  repeat (first | refine EvO.plain rfl rfl rfl rfl rfl rfl ?_ | refine EvO.plainOn rfl rfl rfl rfl rfl rfl ?_ | refine EvO.plainOn rfl rfl rfl rfl rfl (by assumption) ?_)
  refine EvO.on rfl rfl rfl (EvP.callF rfl rfl rfl rfl (EvF.mono (sameClauses_spec (C.mono hle) (D.mono hle)) ?_))
  rintro _ h2 _ ⟨rfl, rfl⟩
  repeat (first | refine EvO.plain rfl rfl rfl rfl rfl rfl ?_ | refine EvO.nil ?_ | refine at_normal ?_ | refine EvC.ret ?_)
  (refine ret_is (v := .bool true) rfl rfl ?_)
  exact ⟨⟨hle, S2.wf⟩, rfl⟩
end Pf
end Go.Proofs.YtheiionmocfleaaDoor
/- Whether a set is small: the law's own question, with what it says. -/
namespace Go.Proofs.YtheiionmocfleaaDoor
namespace Pf
namespace Sa
open Go Go.AI Go.Proofs
variable {gt : Tree (List AV)}
set_option maxHeartbeats 4000000 in
theorem few2_spec {h : AH} (hw : WF h) {vars : Int} {cl : AV} {L : List (List Int)} {cv : Nat → AV} (C : CnfAt h vars cl L cv) :
    EvF (TT gt) X 11 [.agg [.int .i64 vars, cl]] h (fun r h' => (h.le h' ∧ WF h') ∧ ∃ q, r = .bool q ∧ (q = true → L.length ≤ 120 ∧ total L ≤ 500)) := by
  have S0 := HS.all hw
  have hmany := C.many
  refine EvF.enter rfl rfl rfl ?_
  repeat (first | refine EvC.seq ?_ | refine EvC.region rfl ?_)
  (refine EvO.cons rfl rfl rfl (EvP.newR (b := .cells [.int .i64 vars, cl] 24 false) (mk := .ptr) S0 rfl rfl (fun h1 b A1 S1 hle1 o1 _ _ => ?_)))
  have hle : h.le h1 := fun i o e => S1.le _ _ (hle1 _ _ e)
  have f1 := load1 (T := TT gt) (t := 22) (off := 1) o1 rfl rfl rfl
  have ln := RowOf.len_any (T := TT gt) (t := 22) C.rows rfl h1
  repeat (first | refine EvO.plain rfl rfl rfl rfl rfl rfl ?_ | refine EvO.plain rfl rfl rfl rfl rfl (by assumption) ?_ | refine EvC.seq ?_ | refine EvC.region rfl ?_ | refine EvO.nil ?_ | refine at_normal ?_)
  by_cases h120 : (L.length : Int) > 120
  · refine EvC.cond (t := true) (isT (decide_eq_true h120)) (fun _ => ?_) (fun e => nomatch e)
    clear f1 ln
    repeat (first | refine EvO.plain rfl rfl rfl rfl rfl rfl ?_ | refine EvC.seq ?_ | refine EvC.region rfl ?_ | refine EvO.nil ?_ | refine at_normal ?_ | refine EvC.ret ?_ | refine at_ret ?_)
    (refine ret_is (v := .bool false) rfl rfl ?_)
    exact ⟨⟨hle, S1.wf⟩, false, rfl, fun e => nomatch e⟩
  · refine EvC.cond (t := false) (isT (decide_eq_false h120)) (fun e => nomatch e) (fun _ => ?_)
    repeat (first | refine EvO.plain rfl rfl rfl rfl rfl rfl ?_ | refine EvO.plain rfl rfl rfl rfl rfl (by assumption) ?_ | refine EvC.seq ?_ | refine EvC.region rfl ?_ | refine EvO.nil ?_ | refine at_normal ?_ | refine EvC.skip ?_ | refine EvC.block ?_)
    clear f1 ln
    refine EvC.loop (fun m σ h' => h' = h1 ∧ ∃ (i : Nat) (E : Nat → AV), i ≤ L.length ∧ total (L.take i) ≤ i * 2 ^ 48 ∧ m = L.length - i ∧ σ = upds [(1, .ptr b 0), (3, .int .i64 (total (L.take i) : Nat)), (11, cl), (12, .int .i64 L.length), (13, .int .i64 i)] E) (L.length) ?_ ?_
    · exact ⟨rfl, 0, _, Nat.zero_le _, by simp [total], rfl, hold ⟨rfl, rfl, rfl, rfl, rfl, trivial⟩⟩
    · rintro m _ h1 ⟨rfl, i, E, hi, ht, rfl, rfl⟩
      repeat (first | refine EvO.plain rfl rfl rfl rfl rfl rfl ?_ | refine EvC.seq ?_ | refine EvC.region rfl ?_ | refine EvO.nil ?_ | refine at_normal ?_)
      refine EvC.decide rfl (fun hlt => ?_) (fun hlt => ?_)
      · have hlt : i < L.length := by omega
        have hOB := (RowOf.mono hle C.rows).at1 (T := TT gt) (t := 22) (e := 25) rfl rfl rfl rfl (k := .i64) (i := i) (by omega) (by omega)
        obtain ⟨qa, b1, b2⟩ := hOB
        rw [Int.toNat_natCast] at b2
        have ll := RowOf.len_any (T := TT gt) (t := 25) (C.ints i hlt) rfl h1
        have hln : (L.getD i []).length ≤ 2 ^ 48 := C.lens _ (getDL_mem hlt)
        have htk := total_take hlt
        have hmul : (i + 1) * 2 ^ 48 = i * 2 ^ 48 + 2 ^ 48 := Nat.succ_mul ..
        have hib : i * 2 ^ 48 ≤ 120 * 2 ^ 48 := Nat.mul_le_mul_right _ (by omega)
        repeat (first | refine EvO.plain rfl rfl rfl rfl rfl rfl ?_ | refine EvO.plain rfl rfl rfl rfl rfl (by assumption) ?_ | refine EvC.seq ?_ | refine EvC.region rfl ?_ | refine EvO.nil ?_ | refine at_normal ?_ | refine EvC.skip ?_ | refine EvC.block ?_ | refine be_normal ?_ | refine ro_normal ?_ | refine EvO.cons rfl rfl rfl (EvP.add64 rfl rfl (by omega) ?_))
        clear b1 b2 ll
        exact ⟨L.length - (i + 1), by omega, rfl, i + 1, _, by omega, by omega, rfl, hold ⟨rfl, congrArg (AV.int .i64) (by omega), rfl, rfl, rfl, trivial⟩⟩
      · have hend : i = L.length := by omega
        subst hend
        rw [List.take_length]
        have f2 := load1 (T := TT gt) (t := 3) (off := 0) o1 rfl rfl rfl
        repeat (first | refine EvO.plain rfl rfl rfl rfl rfl rfl ?_ | refine EvC.seq ?_ | refine EvC.region rfl ?_ | refine at_normal ?_ | refine EvC.exit ?_ | refine at_exit ?_ | refine be_same rfl ?_ | refine ro_exit ?_)
        by_cases h500 : ((total L : Nat) : Int) ≤ 500
        · refine EvO.on rfl rfl rfl (EvP.quiet (v := .bool true) rfl (isB (decide_eq_true h500)) ?_)
          repeat (first | refine EvO.plain rfl rfl rfl rfl rfl rfl ?_ | refine EvO.plainOn rfl rfl rfl rfl rfl rfl ?_ | refine EvO.plainOn rfl rfl rfl rfl rfl (by assumption) ?_)
          by_cases h30 : vars ≤ 30
          · refine EvO.on rfl rfl rfl (EvP.quiet (v := .bool true) rfl (isB (decide_eq_true h30)) ?_)
            repeat (first | refine EvO.plain rfl rfl rfl rfl rfl rfl ?_ | refine EvO.nil ?_ | refine at_normal ?_ | refine EvC.ret ?_ | refine EvO.off rfl rfl rfl ?_ | refine EvO.plainOn rfl rfl rfl rfl rfl rfl ?_)
            (refine ret_is (v := .bool true) rfl rfl ?_)
            exact ⟨⟨hle, S1.wf⟩, true, rfl, fun _ => ⟨by omega, by omega⟩⟩
          · refine EvO.on rfl rfl rfl (EvP.quiet (v := .bool false) rfl (isB (decide_eq_false h30)) ?_)
            repeat (first | refine EvO.plainOn rfl rfl rfl rfl rfl rfl ?_ | refine EvO.plainOn rfl rfl rfl rfl rfl (by assumption) ?_)
            refine EvO.on rfl rfl rfl (EvP.quiet (v := .bool (decide (vars > 50000))) rfl rfl ?_)
            repeat (first | refine EvO.plain rfl rfl rfl rfl rfl rfl ?_ | refine EvO.nil ?_ | refine at_normal ?_ | refine EvC.ret ?_ | refine EvO.plainOn rfl rfl rfl rfl rfl rfl ?_)
            (refine ret_is (v := .bool (decide (vars > 50000))) rfl rfl ?_)
            exact ⟨⟨hle, S1.wf⟩, _, rfl, fun _ => ⟨by omega, by omega⟩⟩
        · refine EvO.on rfl rfl rfl (EvP.quiet (v := .bool false) rfl (isB (decide_eq_false h500)) ?_)
          repeat (first | refine EvO.plain rfl rfl rfl rfl rfl rfl ?_ | refine EvO.nil ?_ | refine at_normal ?_ | refine EvC.ret ?_ | refine EvO.off rfl rfl rfl ?_)
          (refine ret_is (v := .bool false) rfl rfl ?_)
          exact ⟨⟨hle, S1.wf⟩, false, rfl, fun e => nomatch e⟩
end Sa
end Pf
end Go.Proofs.YtheiionmocfleaaDoor
