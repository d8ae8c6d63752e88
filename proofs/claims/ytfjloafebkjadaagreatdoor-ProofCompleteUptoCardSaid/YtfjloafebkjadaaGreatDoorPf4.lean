/- A new propagation; a clause more. -/
import Derived.Test.YtfjloafebkjadaaGreatDoorPf2
namespace Go.Proofs.YtfjloafebkjadaaGreatDoor
namespace Pf
open Go Go.AI Go.Proofs
variable {gt : Tree (List AV)}
theorem row_ints {G : AH} {v : AV} {l : List Int} (r : RowOf G 1 v l.length (fun i => ((l.map (AV.int .i64)).drop (i * 1)).take 1)) : IntRow G v l := by
  refine r.congr fun i hi => ?_
  rw [Nat.mul_one, List.take_one, List.head?_drop, List.getElem?_map, List.getElem?_eq_getElem hi, List.getD_eq_getElem?_getD, List.getElem?_eq_getElem hi]
  rfl
theorem rep_one {α : Type} : ∀ (n : Nat) (z : α), rep n [z] = List.replicate n z
  | 0, _ => rfl
  | n + 1, z => by rw [rep, rep_one n z, List.replicate_succ]; rfl
theorem opposites_spec {G h : AH} {col : Nat → Nat} (S : HS G h col) {v : AV} {l : List Int} (row : IntRow G v l) (hl : l.length ≤ 2 ^ 36) (hr : ∀ x ∈ l, -1000000 ≤ x ∧ x ≤ 1000000) :
    EvF (TT gt) X 60 [v] h (fun r h' => Step (fun _ => False) col h col h' ∧ ∃ G', HS G' h' col ∧ G.le G' ∧ IntRow G' r (l.map (- ·))) := by
  have S0 : HS G h (fun _ => 0) := ⟨S.wf, S.le, fun _ _ _ => rfl, fun _ _ => rfl⟩
  have ln := (row.mono S.le).len (T := TT gt) (t := 35) rfl
  refine EvF.enter rfl rfl rfl ?_
  repeat (first | refine EvO.plain rfl rfl rfl rfl rfl rfl ?_ | refine EvO.plain rfl rfl rfl rfl rfl (by assumption) ?_ | refine EvC.seq ?_ | refine EvC.region rfl ?_ | refine EvO.nil ?_ | refine at_normal ?_ | refine EvC.block ?_)
  refine EvC.loop (fun m σ h' => ∃ (i : Nat) (w : AV) (col1 : Nat → Nat) (E : Nat → AV), Step (fun x => x = 1) (fun _ => 0) h col1 h' ∧ Vec col1 1 h' 3 1 w i (((l.take i).map (- ·)).map (AV.int .i64)) ∧ i ≤ l.length ∧ m = l.length - i ∧ σ = upds [(3, w), (6, v), (7, .int .i64 l.length), (8, .int .i64 i)] E) (l.length) ?_ ?_
  · exact ⟨0, _, _, _, Step.refl S0, .nil, Nat.zero_le _, rfl, hold ⟨rfl, rfl, rfl, rfl, trivial⟩⟩
  · rintro m _ h1 ⟨i, w, col1, E, A, V, hi, rfl, rfl⟩
    have S1 := S0.step A (by decide)
    repeat (first | refine EvO.plain rfl rfl rfl rfl rfl rfl ?_ | refine EvC.seq ?_ | refine EvC.region rfl ?_ | refine EvO.nil ?_ | refine at_normal ?_)
    refine EvC.decide rfl (fun hc => ?_) (fun hc => ?_)
    · have hlt : i < l.length := by omega
      have hOB := (row.mono S1.le).at1 (T := TT gt) (t := 35) (e := 3) rfl rfl rfl rfl (k := .i64) (i := i) (by omega) (by omega)
      obtain ⟨q, b1, b2⟩ := hOB
      rw [Int.toNat_natCast] at b2
      have hx := hr _ (getD_mem hlt)
      repeat (first | refine EvO.plain rfl rfl rfl rfl rfl rfl ?_ | refine EvO.plain rfl rfl rfl rfl rfl (by assumption) ?_ | refine EvC.seq ?_ | refine EvC.region rfl ?_ | refine EvO.nil ?_ | refine at_normal ?_ | refine EvC.skip ?_ | refine EvC.block ?_ | refine EvO.cons rfl rfl rfl (EvP.neg64 rfl (by omega) ?_))
      (refine EvO.cons rfl rfl rfl (EvP.newR (b := .cells [.int .i64 (-l.getD i 0)] 3 false) (mk := .slice 1 1 true) S1 rfl rfl (fun h2 id A2 S2 hle o2 _ _ => ?_)))
      refine EvO.cons rfl rfl rfl (EvP.appendC S2 (V.step A2 S1.wf (fun e => e)) (by decide) rfl rfl rfl rfl rfl rfl rfl rfl rfl (by decide) rfl rfl (afirst_all o2 rfl) rfl (by decide) rfl (by show (i + 1) * 8 ≤ 70368744177664; omega) (by show i + 1 ≤ 1099511627776; omega) (fun w' h3 col3 A3 S3 V3 => ?_))
      have B := (A.trans (A2.mono (fun _ e => e.elim))).trans A3
      clear b1 b2
      repeat (first | refine EvO.plain rfl rfl rfl rfl rfl rfl ?_ | refine EvC.region rfl ?_ | refine EvO.nil ?_ | refine at_normal ?_ | refine be_normal ?_ | refine ro_normal ?_ | refine EvO.cons rfl rfl rfl (EvP.add64 rfl rfl (by omega) ?_))
      refine ⟨l.length - (i + 1), by omega, i + 1, w', col3, _, B, ?_, by omega, rfl, hold ⟨rfl, rfl, rfl, rfl, trivial⟩⟩
      have ht : l.take (i + 1) = l.take i ++ [l.getD i 0] := by
        rw [List.take_add_one, List.getD_eq_getElem?_getD, List.getElem?_eq_getElem hlt]; rfl
      rw [ht, List.map_append, List.map_append]
      exact V3
    · have hend : i = l.length := by omega
      subst hend
      rw [List.take_length] at V
      repeat (first | refine EvO.plain rfl rfl rfl rfl rfl rfl ?_ | refine EvC.seq ?_ | refine EvC.region rfl ?_ | refine EvO.nil ?_ | refine at_normal ?_ | refine EvC.ret ?_ | refine EvC.exit ?_ | refine at_exit ?_ | refine be_same rfl ?_ | refine ro_exit ?_)
      (refine ret_is (v := w) rfl rfl ?_)
      refine ⟨Step.hide S A (by decide), ?_⟩
      have hOB := Vec.publish S A (by decide) V (by decide)
      obtain ⟨G', s1, s2, s3⟩ := hOB
      refine ⟨G', s1, s2, row_ints ?_⟩
      rw [List.length_map]; exact s3
theorem begin_spec {G h : AH} (S : HS G h (fun _ => 0)) (n : Nat) (hn : n ≤ 1000000) :
    EvF (TT gt) X 57 [.int .i64 n] h (fun r h' => ∃ V col', r = .ptr V.p 0 ∧ ChAt G h' col' n V { all := [], trail := [], why := List.replicate (n + 1) 0, uses := List.replicate (2 * n + 2) [] }) := by
  refine EvF.enter rfl rfl rfl ?_
  repeat (first | refine EvO.plain rfl rfl rfl rfl rfl rfl ?_ | refine EvC.seq ?_ | refine EvC.region rfl ?_ | refine EvO.nil ?_ | refine at_normal ?_)
  refine EvC.drawn (p := [⟨0, false, 0, 0⟩, ⟨1, false, 0, 0⟩, ⟨2, false, 0, 0⟩, ⟨3, false, 0, 0⟩, ⟨4, false, 0, 0⟩, ⟨5, false, 0, 0⟩, ⟨6, false, 0, 0⟩, ⟨7, false, 0, 0⟩, ⟨8, false, 0, 0⟩, ⟨9, false, 0, 0⟩, ⟨10, false, 0, 0⟩, ⟨11, false, 0, 0⟩, ⟨12, false, 0, 0⟩]) rfl (by kernel_rfl) (by kernel_rfl) rfl ?_
  repeat (first | refine EvR.plain rfl rfl rfl rfl rfl rfl rfl ?_ | refine EvR.cons rfl rfl rfl rfl (EvP.add64 rfl rfl (by omega) ?_))
  have e1 : ((n : Int) + 1) = ((n + 1 : Nat) : Int) := by omega
  have e2 : (2 * (n : Int) + 2) = ((2 * n + 2 : Nat) : Int) := by omega
  (refine EvR.cons rfl rfl rfl rfl (EvP.newC S 3 rfl (make_vec (T := TT gt) (n := n + 1) (t := 107) rfl rfl rfl (by omega) (by show ((n + 1 : Nat) : Int) * (1 : Nat) ≤ ((70368744177664 : Nat) : Int); omega)) (by decide) (fun h1 i1 col1 A1 S1 g1 c1 _ => ?_)))
  repeat (first | refine EvR.plain rfl rfl rfl rfl rfl rfl rfl ?_ | refine EvR.cons rfl rfl rfl rfl (EvP.add64 rfl rfl (by omega) ?_))
  (refine EvR.cons rfl rfl rfl rfl (EvP.newC S1 4 rfl (make_vec (T := TT gt) (n := n + 1) (t := 35) rfl rfl rfl (by omega) (by show ((n + 1 : Nat) : Int) * (8 : Nat) ≤ ((70368744177664 : Nat) : Int); omega)) (by decide) (fun h2 i2 col2 A2 S2 g2 c2 _ => ?_)))
  repeat (first | refine EvR.plain rfl rfl rfl rfl rfl rfl rfl ?_ | refine EvR.cons rfl rfl rfl rfl (EvP.add64 rfl rfl (by omega) ?_) | refine EvR.cons rfl rfl rfl rfl (EvP.mul64 rfl rfl (by omega) ?_))
  (refine EvR.cons rfl rfl rfl rfl (EvP.newC S2 6 rfl (make_vec (T := TT gt) (n := 2 * n + 2) (t := 22) rfl rfl rfl (by omega) (by show ((2 * n + 2 : Nat) : Int) * (24 : Nat) ≤ ((70368744177664 : Nat) : Int); omega)) (by decide) (fun h3 i3 col3 A3 S3 g3 c3 _ => ?_)))
  repeat (refine EvR.plain rfl rfl rfl rfl rfl rfl rfl ?_)
  (refine EvR.cons rfl rfl rfl rfl (EvP.newC (b := .cells [.nilSlice, .slice i1 0 (n + 1) (n + 1) true, .slice i2 0 (n + 1) (n + 1) true, .nilSlice, .slice i3 0 (2 * n + 2) (2 * n + 2) true] 109 false) (mk := .ptr) S3 1 rfl rfl (by decide) (fun h4 i4 col4 A4 S4 g4 c4 _ => ?_)))
  repeat (first | refine at_normal ?_ | refine EvC.ret ?_ | refine EvR.nil ?_ | refine EvR.plain rfl rfl rfl rfl rfl rfl rfl ?_)
  (refine ret_is (v := .ptr i4 0) rfl rfl ?_)
  have v1 : Vec col1 3 h1 141 1 (.slice i1 0 (n + 1) (n + 1) true) (n + 1) (List.replicate (n + 1) (.int .i8 0)) := .mk (tail := []) (by rw [List.append_nil, ← rep_one]; exact g1) c1 (by simp) (fun _ => ⟨Nat.le_refl _, by simp⟩)
  have v2 : Vec col2 4 h2 3 1 (.slice i2 0 (n + 1) (n + 1) true) (n + 1) (List.replicate (n + 1) (.int .i64 0)) := .mk (tail := []) (by rw [List.append_nil, ← rep_one]; exact g2) c2 (by simp) (fun _ => ⟨Nat.le_refl _, by simp⟩)
  have v3 : Vec col3 6 h3 35 1 (.slice i3 0 (2 * n + 2) (2 * n + 2) true) (2 * n + 2) (List.replicate (2 * n + 2) .nilSlice) := .mk (tail := []) (by rw [List.append_nil, ← rep_one]; exact g3) c3 (by simp) (fun _ => ⟨Nat.le_refl _, by simp⟩)
  refine ⟨⟨i4, .nilSlice, .slice i1 0 (n + 1) (n + 1) true, .slice i2 0 (n + 1) (n + 1) true, .nilSlice, .slice i3 0 (2 * n + 2) (2 * n + 2) true, [], List.replicate (2 * n + 2) .nilSlice, []⟩, col4, rfl, ?_⟩
  refine ⟨S4, g4, c4, .nil, fun i hi => absurd hi (Nat.not_lt_zero _), ?_, ?_, .nil, v3.step A4 S3.wf (by decide), fun j hj => ?_, hn, fun x hx => nomatch hx⟩
  · have : valT n [] = List.replicate (n + 1) (.int .i8 0) := by
      apply List.ext_getElem?
      intro i
      by_cases hi : i < n + 1
      · rw [valT_at hi, List.getElem?_replicate, if_pos hi]; rfl
      · rw [List.getElem?_eq_none (by simp [valT]; omega), List.getElem?_replicate, if_neg hi]
    show Vec col4 3 h4 141 1 _ (n + 1) (valT n [])
    rw [this]
    exact ((v1.step A2 S1.wf (by decide)).step A3 S2.wf (by decide)).step A4 S3.wf (by decide)
  · show Vec col4 4 h4 3 1 _ (n + 1) ((List.replicate (n + 1) 0).map (AV.int .i64))
    rw [List.map_replicate]
    exact (v2.step A3 S2.wf (by decide)).step A4 S3.wf (by decide)
  · refine ⟨.nilSlice, by simp [hj], ?_⟩
    have : (List.replicate (2 * n + 2) ([] : List Int)).getD j [] = [] := by
      rw [List.getD_eq_getElem?_getD, List.getElem?_replicate]; split <;> rfl
    show Vec col4 (7 + j) h4 3 1 .nilSlice ((List.replicate (2 * n + 2) ([] : List Int)).getD j []).length (((List.replicate (2 * n + 2) ([] : List Int)).getD j []).map (AV.int .i64))
    rw [this]; exact .nil
end Pf
end Go.Proofs.YtfjloafebkjadaaGreatDoor
namespace Go.Proofs.YtfjloafebkjadaaGreatDoor
namespace Pf
open Go Go.AI Go.Proofs
variable {gt : Tree (List AV)}
theorem getD_set {U : List (List Int)} {j j' : Nat} {us : List Int} (hj : j < U.length) : (U.set j us).getD j' [] = if j = j' then us else U.getD j' [] := by
  rw [List.getD_eq_getElem?_getD, List.getElem?_set]
  by_cases e : j = j'
  · subst e; rw [if_pos rfl, if_pos hj, if_pos rfl]; rfl
  · rw [if_neg e, if_neg e, List.getD_eq_getElem?_getD]
def addUse (k : Int) (l : List Int) (U : List (List Int)) : List (List Int) := l.foldl (fun U x => U.set (ix x).toNat (U.getD (ix x).toNat [] ++ [k])) U
theorem addUse_len (k : Int) : ∀ (l : List Int) (U : List (List Int)), (addUse k l U).length = U.length
  | [], _ => rfl
  | x :: l, U => by
    show (addUse k l _).length = _
    rw [addUse_len k l, List.length_set]
theorem addUse_snoc (k : Int) (l : List Int) (x : Int) (U : List (List Int)) : addUse k (l ++ [x]) U = (addUse k l U).set (ix x).toNat ((addUse k l U).getD (ix x).toNat [] ++ [k]) := by
  simp [addUse, List.foldl_append]
theorem addUse_mem {k : Int} {n : Nat} : ∀ (l : List Int) (U : List (List Int)), U.length = 2 * n + 2 → (∀ x ∈ l, ok n x) → ∀ (j : Nat) (u : Int), u ∈ (addUse k l U).getD j [] ↔ u ∈ U.getD j [] ∨ (u = k ∧ ∃ x ∈ l, (ix x).toNat = j)
  | [], U, _, _, j, u => by simp [addUse]
  | x :: l, U, hU, hl, j, u => by
    show u ∈ (addUse k l _).getD j [] ↔ _
    have hix := ix_rng (hl x (List.mem_cons_self ..))
    rw [addUse_mem l _ (by rw [List.length_set]; exact hU) (fun y hy => hl y (List.mem_cons_of_mem _ hy)), getD_set (by omega)]
    by_cases e : (ix x).toNat = j
    · rw [if_pos e, List.mem_append, List.mem_singleton, e]
      constructor
      · rintro ((h | h) | ⟨h1, y, h2, h3⟩)
        · exact .inl h
        · exact .inr ⟨h, x, List.mem_cons_self .., e⟩
        · exact .inr ⟨h1, y, List.mem_cons_of_mem _ h2, h3⟩
      · rintro (h | ⟨h1, y, h2, h3⟩)
        · exact .inl (.inl h)
        · exact .inl (.inr h1)
    · rw [if_neg e]
      constructor
      · rintro (h | ⟨h1, y, h2, h3⟩)
        · exact .inl h
        · exact .inr ⟨h1, y, List.mem_cons_of_mem _ h2, h3⟩
      · rintro (h | ⟨h1, y, h2, h3⟩)
        · exact .inl h
        · have hOB := List.mem_cons.1 h2
          rcases hOB with rfl | h2
          · exact absurd h3 e
          · exact .inr ⟨h1, y, h2, h3⟩
theorem addUse_bound {k : Int} {n : Nat} : ∀ (l : List Int) (U : List (List Int)), U.length = 2 * n + 2 → (∀ x ∈ l, ok n x) → ∀ (j : Nat), ((addUse k l U).getD j []).length ≤ (U.getD j []).length + l.length
  | [], U, _, _, j => by simp [addUse]
  | x :: l, U, hU, hl, j => by
    show ((addUse k l _).getD j []).length ≤ _
    have hix := ix_rng (hl x (List.mem_cons_self ..))
    refine Nat.le_trans (addUse_bound l _ (by rw [List.length_set]; exact hU) (fun y hy => hl y (List.mem_cons_of_mem _ hy)) j) ?_
    rw [getD_set (by omega)]
    split
    · rename_i e; rw [List.length_append, e, List.length_cons, List.length_cons, List.length_nil]; omega
    · rw [List.length_cons]; omega
theorem ChM.setUse {G h h1 h2 : AH} {col col1 col2 : Nat → Nat} {n : Nat} {V : Lay} {S : Ch} {vals : List AV} (C : ChM G h col n V S vals) {j : Nat} (hj : j < 2 * n + 2) (hlen : S.uses.length = 2 * n + 2) (A : Step (fun x => x = 7 + j) col h col1 h1) {u : AV} {us : List Int} (v1 : Vec col1 (7 + j) h1 3 1 u us.length (us.map (AV.int .i64)))
    (B : Step (fun x => x = 6) col1 h1 col2 h2) (hs2 : HS G h2 col2) (v2 : Vec col2 6 h2 35 1 V.uv (2 * n + 2) (V.ru.set j u)) : ChM G h2 col2 n { V with ru := V.ru.set j u } { S with uses := S.uses.set j us } vals where
  hs := hs2
  obj := by
    have h3 := A.get C.hs.wf C.obj (by rw [C.cp]; omega)
    exact (B.get A.wf h3.1 (by rw [h3.2, C.cp]; decide)).1
  cp := by
    have h3 := A.get C.hs.wf C.obj (by rw [C.cp]; omega)
    exact (B.old V.p (A.wf.lt h3.1)).trans (h3.2.trans C.cp)
  all := (C.all.step A C.hs.wf (by omega)).step B A.wf (by decide)
  alls := C.alls
  val := (C.val.step A C.hs.wf (by omega)).step B A.wf (by decide)
  why := (C.why.step A C.hs.wf (by omega)).step B A.wf (by decide)
  trail := (C.trail.step A C.hs.wf (by omega)).step B A.wf (by decide)
  uses := v2
  use := fun j' hj' => by
    have hrl : V.ru.length = 2 * n + 2 := by have := C.uses.count; omega
    show ∃ w, (V.ru.set j u)[j']? = some w ∧ Vec col2 (7 + j') h2 3 1 w ((S.uses.set j us).getD j' []).length (((S.uses.set j us).getD j' []).map (AV.int .i64))
    rw [List.getElem?_set, getD_set (by omega)]
    by_cases e : j = j'
    · subst e
      rw [if_pos rfl, if_pos (by omega), if_pos rfl]
      exact ⟨u, rfl, v1.step B A.wf (by omega)⟩
    · rw [if_neg e, if_neg e]
      have hOB := C.use j' hj'
      obtain ⟨w, h3, h4⟩ := hOB
      exact ⟨w, h3, (h4.step A C.hs.wf (by omega)).step B A.wf (by omega)⟩
  sml := C.sml
  fr := fun x hx => by
    have hOB := C.frs A (fun c h e => by omega) x hx
    obtain ⟨k1, k2, k3⟩ := hOB
    have k4 := B.get A.wf k1 (by rw [k2]; intro e; omega)
    exact ⟨k4.1, k4.2.trans k2, k3⟩
theorem ChM.setAll {G G' h h1 h2 : AH} {col col1 col2 : Nat → Nat} {n : Nat} {V : Lay} {S : Ch} {vals : List AV} (C : ChM G h col n V S vals) (A : Step (fun x => x = 2) col h col1 h1) {av v : AV} {l : List Int} (v1 : Vec col1 2 h1 35 1 av (S.all.length + 1) (V.ra ++ [v]))
    (B : Step (fun x => x = 1) col1 h1 col2 h2) (hs2 : HS G' h2 col2) (hl : ∀ i, i < S.all.length → ∃ a, V.ra[i]? = some a ∧ IntRow G' a (S.all.getD i [])) (row : IntRow G' v l) (o2 : h2.t.get V.p = some (.cells [av, V.vv, V.wv, V.tv, V.uv] 109 false)) : ChM G' h2 col2 n { V with av := av, ra := V.ra ++ [v] } { S with all := S.all ++ [l] } vals where
  hs := hs2
  obj := o2
  cp := by
    have h3 := A.get C.hs.wf C.obj (by rw [C.cp]; decide)
    exact (B.old V.p (A.wf.lt h3.1)).trans (h3.2.trans C.cp)
  all := by
    show Vec col2 2 h2 35 1 av (S.all ++ [l]).length (V.ra ++ [v])
    rw [List.length_append]
    exact v1.step B A.wf (by decide)
  alls := fun i hi => by
    have hrl : V.ra.length = S.all.length := by have := C.all.count; omega
    show ∃ a, (V.ra ++ [v])[i]? = some a ∧ IntRow G' a ((S.all ++ [l]).getD i [])
    have hi : i < (S.all ++ [l]).length := hi
    rw [List.length_append] at hi
    rw [List.getD_eq_getElem?_getD]
    have hOB := Nat.lt_or_ge i S.all.length
    rcases hOB with h3 | h3
    · rw [List.getElem?_append_left (by omega), List.getElem?_append_left h3, ← List.getD_eq_getElem?_getD]
      exact hl i h3
    · have : i = S.all.length := by simp at hi; omega
      subst this
      rw [List.getElem?_append_right (by omega), List.getElem?_append_right (Nat.le_refl _), hrl]
      exact ⟨v, by simp, by simpa using row⟩
  val := (C.val.step A C.hs.wf (by decide)).step B A.wf (by decide)
  why := (C.why.step A C.hs.wf (by decide)).step B A.wf (by decide)
  trail := (C.trail.step A C.hs.wf (by decide)).step B A.wf (by decide)
  uses := (C.uses.step A C.hs.wf (by decide)).step B A.wf (by decide)
  use := fun j hj => by
    have hOB := C.use j hj
    obtain ⟨u, h3, h4⟩ := hOB
    exact ⟨u, h3, (h4.step A C.hs.wf (by omega)).step B A.wf (by omega)⟩
  sml := C.sml
  fr := fun x hx => by
    have hOB := C.frs A (fun c h e => by omega) x hx
    obtain ⟨k1, k2, k3⟩ := hOB
    have k4 := B.get A.wf k1 (by rw [k2]; intro e; omega)
    exact ⟨k4.1, k4.2.trans k2, k3⟩
theorem add_spec {G h : AH} {col : Nat → Nat} {n : Nat} {V : Lay} {S : Ch} (C : ChAt G h col n V S) (hU : S.uses.length = 2 * n + 2) {v : AV} {l : List Int} (row : IntRow G v l) (hok : ∀ x ∈ l, ok n x) (hul : ∀ j, (S.uses.getD j []).length + l.length ≤ 2 ^ 36) (hal : S.all.length ≤ 2 ^ 30) :
    EvF (TT gt) X 58 [.ptr V.p 0, v] h (fun r h' => ∃ col' av ra ru, ChAt G h' col' n { V with av := av, ra := ra, ru := ru } { S with all := S.all ++ [l], uses := addUse S.all.length l S.uses }) := by
  have hs := C.sml
  have ln := (row.mono C.hs.le).len (T := TT gt) (t := 35) rfl
  have hll : l.length ≤ 2 ^ 36 := by have := hul 0; omega
  refine EvF.enter rfl rfl rfl ?_
  repeat (first | refine EvO.plain rfl rfl rfl rfl rfl rfl ?_ | refine EvO.plain rfl rfl rfl rfl rfl (by assumption) ?_ | refine EvC.seq ?_ | refine EvC.region rfl ?_ | refine EvO.nil ?_ | refine at_normal ?_ | refine EvC.block ?_)
  refine EvC.loop (fun m σ h' => ∃ (i : Nat) (ru : List AV) (col1 : Nat → Nat) (E : Nat → AV), ChAt G h' col1 n { V with ru := ru } { S with uses := addUse S.all.length (l.take i) S.uses } ∧ i ≤ l.length ∧ m = l.length - i ∧ σ = upds [(0, .ptr V.p 0), (1, v), (6, v), (7, .int .i64 l.length), (8, .int .i64 i)] E) (l.length) ?_ ?_
  · exact ⟨0, V.ru, col, _, C, Nat.zero_le _, rfl, hold ⟨rfl, rfl, rfl, rfl, rfl, trivial⟩⟩
  · clear C ln
    rintro m _ h1 ⟨i, ru, col1, E, C1, hi, rfl, rfl⟩
    repeat (first | refine EvO.plain rfl rfl rfl rfl rfl rfl ?_ | refine EvC.seq ?_ | refine EvC.region rfl ?_ | refine EvO.nil ?_ | refine at_normal ?_)
    refine EvC.decide rfl (fun hc => ?_) (fun hc => ?_)
    · have hlt : i < l.length := by omega
      have hox := hok _ (getD_mem hlt)
      have hix := ix_rng hox
      obtain ⟨o0, o1, o2⟩ := hox
      have hOB := (row.mono C1.hs.le).at1 (T := TT gt) (t := 35) (e := 3) rfl rfl rfl rfl (k := .i64) (i := i) (by omega) (by omega)
      obtain ⟨q, b1, b2⟩ := hOB
      rw [Int.toNat_natCast] at b2
      repeat (first | refine EvO.plain rfl rfl rfl rfl rfl rfl ?_ | refine EvO.plain rfl rfl rfl rfl rfl (by assumption) ?_ | refine EvC.seq ?_ | refine EvC.region rfl ?_ | refine EvO.nil ?_ | refine at_normal ?_ | refine EvC.skip ?_ | refine EvC.block ?_)
      clear b1 b2
      have hOB := C1.uses.block (by omega)
      obtain ⟨uid, ucap, uex, utail, hu1, hu2, hu3⟩ := hOB
      have hne : V.p ≠ uid := fun e => by have := C1.cp; rw [show ({ V with ru := ru } : Lay).p = V.p from rfl, e, hu3] at this; cases this
      have o1' : h1.t.get V.p = some (.cells [V.av, V.vv, V.wv, V.tv, V.uv] 109 false) := C1.obj
      have gl : ((G.add V.p (.cells [V.av, V.vv, V.wv, V.tv, V.uv] 109 false)).add uid (.cells (ru ++ utail) 35 false)).le h1 := AH.add_le (AH.add_le C1.hs.le o1') hu2
      have gp : ((G.add V.p (.cells [V.av, V.vv, V.wv, V.tv, V.uv] 109 false)).add uid (.cells (ru ++ utail) 35 false)).t.get V.p = some (.cells [V.av, V.vv, V.wv, V.tv, V.uv] 109 false) := by rw [AH.get_add_ne hne]; exact AH.get_add ..
      have f1 := load1 (T := TT gt) (t := 22) (off := 4) gp rfl rfl rfl
      have f2 := load1 (T := TT gt) (t := 22) (off := 0) gp rfl rfl rfl
      have f3 := C1.all.row.len_any (T := TT gt) (t := 22) rfl ((G.add V.p (.cells [V.av, V.vv, V.wv, V.tv, V.uv] 109 false)).add uid (.cells (ru ++ utail) 35 false))
      have q1 := C1.uses.veq
      have q2 := C1.all.veq
      refine EvC.drawnH 3 ((G.add V.p (.cells [V.av, V.vv, V.wv, V.tv, V.uv] 109 false)).add uid (.cells (ru ++ utail) 35 false)) (p := [⟨0, false, 0, 3⟩, ⟨1, false, 0, 3⟩, ⟨2, false, 0, 3⟩, ⟨3, false, 0, 3⟩, ⟨4, false, 0, 0⟩, ⟨6, false, 0, 2⟩, ⟨7, false, 0, 2⟩, ⟨8, false, 0, 2⟩, ⟨9, false, 0, 2⟩, ⟨10, false, 0, 1⟩, ⟨14, false, 0, 2⟩, ⟨15, false, 0, 2⟩, ⟨16, false, 0, 2⟩, ⟨17, false, 0, 2⟩, ⟨18, false, 0, 2⟩, ⟨19, false, 0, 2⟩, ⟨5, true, 0, 1⟩, ⟨11, true, 1, 2⟩, ⟨12, false, 2, 2⟩, ⟨13, false, 2, 2⟩, ⟨20, true, 2, 3⟩, ⟨21, false, 3, 3⟩, ⟨22, true, 3, 4⟩]) rfl (by kernel_rfl) (by kernel_rfl) ?_
      have keep : ∀ h', G.le h' → h'.t.get V.p = some (.cells [V.av, V.vv, V.wv, V.tv, V.uv] 109 false) → h'.t.get uid = some (.cells (ru ++ utail) 35 false) → ((G.add V.p (.cells [V.av, V.vv, V.wv, V.tv, V.uv] 109 false)).add uid (.cells (ru ++ utail) 35 false)).le h' := fun h' k1 k2 k3 => AH.add_le (AH.add_le k1 k2) k3
      generalize (G.add V.p (.cells [V.av, V.vv, V.wv, V.tv, V.uv] 109 false)).add uid (.cells (ru ++ utail) 35 false) = GR at *
      have hOB := C1.use (ix (l.getD i 0)).toNat (by omega)
      obtain ⟨u, hu, VU⟩ := hOB
      have hOB := C1.uses.at1 (T := TT gt) (t := 22) (k := .i64) (i := ix (l.getD i 0)) rfl rfl rfl rfl (by omega) (by omega)
      obtain ⟨p1, u1, c1, c2, c3⟩ := hOB
      have hu' : u1 = u := by
        have hu : ru[(ix (l.getD i 0)).toNat]? = some u := hu
        have c3 : ru[(ix (l.getD i 0)).toNat]? = some u1 := c3
        rw [hu] at c3; simpa using c3.symm
      subst hu'
      repeat (first | refine EvH.easy1 rfl rfl rfl rfl rfl rfl rfl rfl rfl rfl ?_ | refine EvH.easyG (by assumption) rfl rfl rfl rfl rfl rfl rfl rfl rfl rfl (by first | exact veq_s rfl | assumption) ?_ | refine EvH.easyG (by assumption) rfl rfl rfl rfl rfl rfl rfl rfl rfl (by assumption) (by first | exact veq_s rfl | assumption) ?_)
      refine EvH.new (b := .cells [.int .i64 S.all.length] 3 false) (mk := .slice 1 1 true) C1.hs gl rfl rfl rfl rfl rfl rfl rfl rfl rfl (by simp [oeq, veqs, veq]) (fun h2 id A2 S2 hle gl2 _ o2 cid hid => ?_)
      have C2 := C1.more A2 S2 hle
      refine EvH.act rfl rfl rfl rfl rfl rfl rfl (EvP.callF rfl rfl rfl rfl (EvF.mono (index_spec (l.getD i 0) (by omega)) ?_))
      rintro _ h2 _ ⟨rfl, rfl⟩
      refine ⟨fun _ => gl2, ?_⟩
      refine EvH.act rfl rfl rfl rfl rfl rfl rfl (EvP.callF rfl rfl rfl rfl (EvF.mono (index_spec (l.getD i 0) (by omega)) ?_))
      rintro _ h2 _ ⟨rfl, rfl⟩
      refine ⟨fun _ => gl2, ?_⟩
      have c2' : aload (TT gt) h2 35 p1 = some u1 := load_mono (fun i' o' e' => (A2.same i' (C1.hs.wf.lt e') (fun e => e)).trans e') c2
      clear c2
      repeat (refine EvH.easy1 rfl rfl rfl rfl rfl rfl rfl rfl rfl (by assumption) ?_)
      have hb : ((addUse S.all.length (l.take i) S.uses).getD (ix (l.getD i 0)).toNat []).length ≤ 2 ^ 36 := by
        have h3 := addUse_bound (n := n) (k := S.all.length) (l.take i) S.uses hU (fun x hx => hok x (List.mem_of_mem_take hx)) (ix (l.getD i 0)).toNat
        have h4 := hul (ix (l.getD i 0)).toNat
        rw [List.length_take] at h3
        omega
      have VU2 := VU.step A2 C1.hs.wf (fun e => e)
      (refine EvH.act rfl rfl rfl rfl rfl rfl rfl (EvP.appendC S2 VU2 (by omega) rfl rfl rfl rfl rfl rfl rfl rfl rfl (by decide) rfl rfl (afirst_all o2 rfl) rfl (by decide) rfl (by show (((addUse S.all.length (l.take i) S.uses).getD (ix (l.getD i 0)).toNat []).length + 1) * 8 ≤ 70368744177664; omega) (by show ((addUse S.all.length (l.take i) S.uses).getD (ix (l.getD i 0)).toNat []).length + 1 ≤ 1099511627776; omega) (fun u2 h3 col3 A3 S3 V3 => ⟨fun _ => ?_, ?_⟩)))
      · have g1 := C2.obj
        have g2 := (A2.get C1.hs.wf hu2 (fun e => e)).1
        refine AH.add_le (keep h3 ?_ (A3.get C2.hs.wf g1 ?_).1 (A3.get C2.hs.wf g2 ?_).1) (A3.get C2.hs.wf o2 ?_).1
        · exact fun i' o' e' => S3.le i' o' (hle i' o' e')
        · rw [C2.cp]; omega
        · rw [hu3]; omega
        · rw [cid]; omega
      · clear c2' f1 f2 f3
        have VS3 := C2.uses.step A3 C2.hs.wf (by omega)
        repeat (refine EvH.easy1 rfl rfl rfl rfl rfl rfl rfl rfl rfl (by assumption) ?_)
        (refine EvH.act0 rfl rfl rfl rfl rfl rfl (EvP.setV (T := TT gt) (t := 22) (u := u2) S3 VS3 (by decide) rfl rfl rfl (by omega) (by omega) c1 rfl rfl V3.sc.1 V3.sc.2 (fun h4 A4 S4 V4 _ => ⟨fun e => absurd e (by decide), ?_⟩)))
        have hlu : (addUse S.all.length (l.take i) S.uses).length = 2 * n + 2 := by rw [addUse_len]; exact hU
        have C4 := C2.setUse (us := (addUse S.all.length (l.take i) S.uses).getD (ix (l.getD i 0)).toNat [] ++ [(S.all.length : Int)]) (by omega) hlu A3 (by simpa using V3) A4 S4 V4
        have C5 := C4.less (G' := G) hle C1.alls
        clear c1
        repeat (first | refine EvO.plain rfl rfl rfl rfl rfl rfl ?_ | refine EvC.region rfl ?_ | refine EvO.nil ?_ | refine at_normal ?_ | refine be_normal ?_ | refine EvH.nil ?_ | refine ro_normal ?_ | refine EvO.cons rfl rfl rfl (EvP.add64 rfl rfl (by omega) ?_))
        refine ⟨l.length - (i + 1), by omega, i + 1, ru.set (ix (l.getD i 0)).toNat u2, col3, _, ?_, by omega, rfl, hold ⟨rfl, rfl, rfl, rfl, rfl, trivial⟩⟩
        have ht : l.take (i + 1) = l.take i ++ [l.getD i 0] := by
          rw [List.take_add_one, List.getD_eq_getElem?_getD, List.getElem?_eq_getElem hlt]; rfl
        rw [ht, addUse_snoc]
        exact C5
    · have hend : i = l.length := by omega
      subst hend
      rw [List.take_length] at C1
      have f1 := C1.fld (gt := gt) (t := 22) (off := 0) rfl rfl rfl
      repeat (first | refine EvO.plain rfl rfl rfl rfl rfl rfl ?_ | refine EvO.plain rfl rfl rfl rfl rfl (by assumption) ?_ | refine EvC.region rfl ?_ | refine at_normal ?_ | refine EvC.exit ?_ | refine at_exit ?_ | refine be_same rfl ?_ | refine ro_exit ?_)
      (refine EvO.cons rfl rfl rfl (EvP.newR (b := .cells [v] 35 false) (mk := .slice 1 1 true) C1.hs rfl (show abuildSlice (TT gt) 22 1 [(0, v)] = _ from build1 rfl rfl rfl rfl row.sc) (fun h2 id A2 S2 hle o2 _ _ => ?_)))
      have C2 := C1.more A2 S2 hle
      refine EvO.cons rfl rfl rfl (EvP.appendC S2 C2.all (by decide) rfl rfl rfl rfl rfl rfl rfl rfl rfl (by decide) rfl rfl (afirst_all o2 rfl) rfl (by decide) (by simp [row.sc.2]) (by show (S.all.length + 1) * 24 ≤ 70368744177664; omega) (by show S.all.length + 1 ≤ 1099511627776; omega) (fun av h3 col3 A3 S3 V3 => ?_))
      repeat (refine EvO.plain rfl rfl rfl rfl rfl rfl ?_)
      refine EvO.cons0 rfl rfl (EvP.store1 (u := av) S3 1 (A3.get C2.hs.wf C2.obj (by rw [C2.cp]; decide)).1 ((A3.get C2.hs.wf C2.obj (by rw [C2.cp]; decide)).2.trans C2.cp) (by decide) rfl rfl rfl rfl V3.sc (by show 0 < 5; decide) (fun h4 A4 S4 o4 _ _ => ?_))
      have C5 := C2.setAll (av := av) (v := v) (l := l) A3 V3 A4 (S4.down hle) C1.alls row o4
      clear f1
      repeat (refine EvO.nil ?_)
      exact end_normal rfl ⟨_, av, V.ra ++ [v], ru, C5⟩
end Pf
end Go.Proofs.YtfjloafebkjadaaGreatDoor
