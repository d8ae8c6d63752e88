/- A new propagation; the opposites of literals. -/
import Derived.Test.YtfjloafebkjadaaGreatDoorPf3
namespace Go.Proofs.YtfjloafebkjadaaGreatDoor
namespace Pf
open Go Go.AI Go.Proofs
variable {gt : Tree (List AV)}
theorem row_ints {G : AH} {v : AV} {l : List Int} (r : RowOf G 1 v l.length (fun i => ((l.map (AV.int .i64)).drop (i * 1)).take 1)) : IntRow G v l := by
  refine r.congr fun i hi => ?_
  rw [Nat.mul_one, List.take_one, List.head?_drop, List.getElem?_map, List.getElem?_eq_getElem hi, List.getD_eq_getElem?_getD, List.getElem?_eq_getElem hi]
  rfl
theorem rep_one {α : Type} : ∀ (n : Nat) (z : α), rep n [z] = List.replicate n z
  | 0, _ => rfl
  | n + 1, z => by rw [rep, rep_one n z, List.replicate_succ]; rfl
theorem opposites_spec {G h : AH} {col : Nat → Nat} (S : HS G h col) {v : AV} {l : List Int} (row : IntRow G v l) (hl : l.length ≤ 2 ^ 36) (hr : ∀ x ∈ l, -1000000 ≤ x ∧ x ≤ 1000000) :
    EvF (TT gt) X 60 [v] h (fun r h' => Step (fun _ => False) col h col h' ∧ ∃ G', HS G' h' col ∧ G.le G' ∧ IntRow G' r (l.map (- ·))) := by
  have S0 : HS G h (fun _ => 0) := ⟨S.wf, S.le, fun _ _ _ => rfl, fun _ _ => rfl⟩
  have ln := (row.mono S.le).len (T := TT gt) (t := 35) rfl
  refine EvF.enter rfl rfl rfl ?_
  repeat (first | refine EvO.plain rfl rfl rfl rfl rfl rfl ?_ | refine EvO.plain rfl rfl rfl rfl rfl (by assumption) ?_ | refine EvC.seq ?_ | refine EvC.region rfl ?_ | refine EvO.nil ?_ | refine at_normal ?_ | refine EvC.block ?_)
  refine EvC.loop (fun m σ h' => ∃ (i : Nat) (w : AV) (col1 : Nat → Nat) (E : Nat → AV), Step (fun x => x = 1) (fun _ => 0) h col1 h' ∧ Vec col1 1 h' 3 1 w i (((l.take i).map (- ·)).map (AV.int .i64)) ∧ i ≤ l.length ∧ m = l.length - i ∧ σ = upds [(3, w), (6, v), (7, .int .i64 l.length), (8, .int .i64 i)] E) (l.length) ?_ ?_
  · exact ⟨0, _, _, _, Step.refl S0, .nil, Nat.zero_le _, rfl, hold ⟨rfl, rfl, rfl, rfl, trivial⟩⟩
  · rintro m _ h1 ⟨i, w, col1, E, A, V, hi, rfl, rfl⟩
    have S1 := S0.step A (by decide)
    repeat (first | refine EvO.plain rfl rfl rfl rfl rfl rfl ?_ | refine EvC.seq ?_ | refine EvC.region rfl ?_ | refine EvO.nil ?_ | refine at_normal ?_)
    refine EvC.decide rfl (fun hc => ?_) (fun hc => ?_)
    · have hlt : i < l.length := by omega
      obtain ⟨q, b1, b2⟩ := (row.mono S1.le).at1 (T := TT gt) (t := 35) (e := 3) rfl rfl rfl rfl (k := .i64) (i := i) (by omega) (by omega)
      rw [Int.toNat_natCast] at b2
      have hx := hr _ (getD_mem hlt)
      repeat (first | refine EvO.plain rfl rfl rfl rfl rfl rfl ?_ | refine EvO.plain rfl rfl rfl rfl rfl (by assumption) ?_ | refine EvC.seq ?_ | refine EvC.region rfl ?_ | refine EvO.nil ?_ | refine at_normal ?_ | refine EvC.skip ?_ | refine EvC.block ?_ | refine EvO.cons rfl rfl rfl (EvP.neg64 rfl (by omega) ?_))
      (refine EvO.cons rfl rfl rfl (EvP.newR (b := .cells [.int .i64 (-l.getD i 0)] 3 false) (mk := .slice 1 1 true) S1 rfl rfl (fun h2 id A2 S2 hle o2 _ _ => ?_)))
      refine EvO.cons rfl rfl rfl (EvP.appendC S2 (V.step A2 S1.wf (fun e => e)) (by decide) rfl rfl rfl rfl rfl rfl rfl rfl rfl (by decide) rfl rfl (afirst_all o2 rfl) rfl (by decide) rfl (by show (i + 1) * 8 ≤ 70368744177664; omega) (by show i + 1 ≤ 1099511627776; omega) (fun w' h3 col3 A3 S3 V3 => ?_))
      have B := (A.trans (A2.mono (fun _ e => e.elim))).trans A3
      clear b1 b2
      repeat (first | refine EvO.plain rfl rfl rfl rfl rfl rfl ?_ | refine EvC.region rfl ?_ | refine EvO.nil ?_ | refine at_normal ?_ | refine be_normal ?_ | refine ro_normal ?_ | refine EvO.cons rfl rfl rfl (EvP.add64 rfl rfl (by omega) ?_))
      refine ⟨l.length - (i + 1), by omega, i + 1, w', col3, _, B, ?_, by omega, rfl, hold ⟨rfl, rfl, rfl, rfl, trivial⟩⟩
      have ht : l.take (i + 1) = l.take i ++ [l.getD i 0] := by
        rw [List.take_add_one, List.getD_eq_getElem?_getD, List.getElem?_eq_getElem hlt]; rfl
      rw [ht, List.map_append, List.map_append]
      exact V3
    · have hend : i = l.length := by omega
      subst hend
      rw [List.take_length] at V
      repeat (first | refine EvO.plain rfl rfl rfl rfl rfl rfl ?_ | refine EvC.seq ?_ | refine EvC.region rfl ?_ | refine EvO.nil ?_ | refine at_normal ?_ | refine EvC.ret ?_ | refine EvC.exit ?_ | refine at_exit ?_ | refine be_same rfl ?_ | refine ro_exit ?_)
      (refine ret_is (v := w) rfl rfl ?_)
      refine ⟨Step.hide S A (by decide), ?_⟩
      obtain ⟨G', s1, s2, s3⟩ := Vec.publish S A (by decide) V (by decide)
      refine ⟨G', s1, s2, row_ints ?_⟩
      rw [List.length_map]; exact s3
theorem begin_spec {G h : AH} (S : HS G h (fun _ => 0)) (n : Nat) (hn : n ≤ 1000000) :
    EvF (TT gt) X 57 [.int .i64 n] h (fun r h' => ∃ V col', r = .ptr V.p 0 ∧ ChAt G h' col' n V { all := [], trail := [], why := List.replicate (n + 1) 0, uses := List.replicate (2 * n + 2) [] }) := by
  refine EvF.enter rfl rfl rfl ?_
  repeat (first | refine EvO.plain rfl rfl rfl rfl rfl rfl ?_ | refine EvC.seq ?_ | refine EvC.region rfl ?_ | refine EvO.nil ?_ | refine at_normal ?_)
  refine EvC.drawn (p := [⟨0, false, 0, 0⟩, ⟨1, false, 0, 0⟩, ⟨2, false, 0, 0⟩, ⟨3, false, 0, 0⟩, ⟨4, false, 0, 0⟩, ⟨5, false, 0, 0⟩, ⟨6, false, 0, 0⟩, ⟨7, false, 0, 0⟩, ⟨8, false, 0, 0⟩, ⟨9, false, 0, 0⟩, ⟨10, false, 0, 0⟩, ⟨11, false, 0, 0⟩, ⟨12, false, 0, 0⟩]) rfl (by kernel_rfl) (by kernel_rfl) rfl ?_
  repeat (first | refine EvR.plain rfl rfl rfl rfl rfl rfl rfl ?_ | refine EvR.cons rfl rfl rfl rfl (EvP.add64 rfl rfl (by omega) ?_))
  have e1 : ((n : Int) + 1) = ((n + 1 : Nat) : Int) := by omega
  have e2 : (2 * (n : Int) + 2) = ((2 * n + 2 : Nat) : Int) := by omega
  (refine EvR.cons rfl rfl rfl rfl (EvP.newC S 3 rfl (make_vec (T := TT gt) (n := n + 1) (t := 107) rfl rfl rfl (by omega) (by show ((n + 1 : Nat) : Int) * (1 : Nat) ≤ ((70368744177664 : Nat) : Int); omega)) (by decide) (fun h1 i1 col1 A1 S1 g1 c1 _ => ?_)))
  repeat (first | refine EvR.plain rfl rfl rfl rfl rfl rfl rfl ?_ | refine EvR.cons rfl rfl rfl rfl (EvP.add64 rfl rfl (by omega) ?_))
  (refine EvR.cons rfl rfl rfl rfl (EvP.newC S1 4 rfl (make_vec (T := TT gt) (n := n + 1) (t := 35) rfl rfl rfl (by omega) (by show ((n + 1 : Nat) : Int) * (8 : Nat) ≤ ((70368744177664 : Nat) : Int); omega)) (by decide) (fun h2 i2 col2 A2 S2 g2 c2 _ => ?_)))
  repeat (first | refine EvR.plain rfl rfl rfl rfl rfl rfl rfl ?_ | refine EvR.cons rfl rfl rfl rfl (EvP.add64 rfl rfl (by omega) ?_) | refine EvR.cons rfl rfl rfl rfl (EvP.mul64 rfl rfl (by omega) ?_))
  (refine EvR.cons rfl rfl rfl rfl (EvP.newC S2 6 rfl (make_vec (T := TT gt) (n := 2 * n + 2) (t := 22) rfl rfl rfl (by omega) (by show ((2 * n + 2 : Nat) : Int) * (24 : Nat) ≤ ((70368744177664 : Nat) : Int); omega)) (by decide) (fun h3 i3 col3 A3 S3 g3 c3 _ => ?_)))
  repeat (refine EvR.plain rfl rfl rfl rfl rfl rfl rfl ?_)
  (refine EvR.cons rfl rfl rfl rfl (EvP.newC (b := .cells [.nilSlice, .slice i1 0 (n + 1) (n + 1) true, .slice i2 0 (n + 1) (n + 1) true, .nilSlice, .slice i3 0 (2 * n + 2) (2 * n + 2) true] 109 false) (mk := .ptr) S3 1 rfl rfl (by decide) (fun h4 i4 col4 A4 S4 g4 c4 _ => ?_)))
  repeat (first | refine at_normal ?_ | refine EvC.ret ?_ | refine EvR.nil ?_ | refine EvR.plain rfl rfl rfl rfl rfl rfl rfl ?_)
  (refine ret_is (v := .ptr i4 0) rfl rfl ?_)
  have v1 : Vec col1 3 h1 141 1 (.slice i1 0 (n + 1) (n + 1) true) (n + 1) (List.replicate (n + 1) (.int .i8 0)) := .mk (tail := []) (by rw [List.append_nil, ← rep_one]; exact g1) c1 (by simp) (fun _ => ⟨Nat.le_refl _, by simp⟩)
  have v2 : Vec col2 4 h2 3 1 (.slice i2 0 (n + 1) (n + 1) true) (n + 1) (List.replicate (n + 1) (.int .i64 0)) := .mk (tail := []) (by rw [List.append_nil, ← rep_one]; exact g2) c2 (by simp) (fun _ => ⟨Nat.le_refl _, by simp⟩)
  have v3 : Vec col3 6 h3 35 1 (.slice i3 0 (2 * n + 2) (2 * n + 2) true) (2 * n + 2) (List.replicate (2 * n + 2) .nilSlice) := .mk (tail := []) (by rw [List.append_nil, ← rep_one]; exact g3) c3 (by simp) (fun _ => ⟨Nat.le_refl _, by simp⟩)
  refine ⟨⟨i4, .nilSlice, .slice i1 0 (n + 1) (n + 1) true, .slice i2 0 (n + 1) (n + 1) true, .nilSlice, .slice i3 0 (2 * n + 2) (2 * n + 2) true, [], List.replicate (2 * n + 2) .nilSlice, []⟩, col4, rfl, ?_⟩
  refine ⟨S4, g4, c4, .nil, fun i hi => absurd hi (Nat.not_lt_zero _), ?_, ?_, .nil, v3.step A4 S3.wf (by decide), fun j hj => ?_, hn, fun x hx => nomatch hx⟩
  · have : valT n [] = List.replicate (n + 1) (.int .i8 0) := by
      apply List.ext_getElem?
      intro i
      by_cases hi : i < n + 1
      · rw [valT_at hi, List.getElem?_replicate, if_pos hi]; rfl
      · rw [List.getElem?_eq_none (by simp [valT]; omega), List.getElem?_replicate, if_neg hi]
    show Vec col4 3 h4 141 1 _ (n + 1) (valT n [])
    rw [this]
    exact ((v1.step A2 S1.wf (by decide)).step A3 S2.wf (by decide)).step A4 S3.wf (by decide)
  · show Vec col4 4 h4 3 1 _ (n + 1) ((List.replicate (n + 1) 0).map (AV.int .i64))
    rw [List.map_replicate]
    exact (v2.step A3 S2.wf (by decide)).step A4 S3.wf (by decide)
  · refine ⟨.nilSlice, by simp [hj], ?_⟩
    have : (List.replicate (2 * n + 2) ([] : List Int)).getD j [] = [] := by
      rw [List.getD_eq_getElem?_getD, List.getElem?_replicate]; split <;> rfl
    show Vec col4 (7 + j) h4 3 1 .nilSlice ((List.replicate (2 * n + 2) ([] : List Int)).getD j []).length (((List.replicate (2 * n + 2) ([] : List Int)).getD j []).map (AV.int .i64))
    rw [this]; exact .nil
end Pf
end Go.Proofs.YtfjloafebkjadaaGreatDoor
