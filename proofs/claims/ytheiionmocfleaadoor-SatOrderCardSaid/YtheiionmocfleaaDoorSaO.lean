/- Copies of rows. -/
import Derived.Test.YtheiionmocfleaaDoorSaN
namespace Go.Proofs.YtheiionmocfleaaDoor
namespace Pf
namespace Sa
open Go Go.AI Go.Proofs
variable {gt : Tree (List AV)}
/-! Helpers -/
theorem row_nil {h : AH} {s m : Nat} {g : Nat → List AV} (r : RowOf h s .nilSlice m g) : m = 0 := by cases r; rfl
theorem row_tri {h : AH} {s m : Nat} {v : AV} {g : Nat → List AV} (r : RowOf h s v m g) : v = .nilSlice ∨ v = .eslice ∨ ∃ id off len cap ex, v = .slice id off len cap ex := by
  cases r with
  | nil => exact .inl rfl
  | empty => exact .inr (.inl rfl)
  | mk _ _ => exact .inr (.inr ⟨_, _, _, _, _, rfl⟩)
theorem range_ints (l : List Int) : (List.range l.length).map (fun j => AV.int .i64 (l.getD j 0)) = l.map (AV.int .i64) := by
  apply List.ext_getElem?
  intro i
  by_cases hi : i < l.length
  · rw [List.getElem?_map, List.getElem?_range hi, List.getElem?_map]
    show some (AV.int .i64 (l.getD i 0)) = Option.map (AV.int .i64) l[i]?
    rw [List.getD_eq_getElem?_getD, List.getElem?_eq_getElem hi]; rfl
  · rw [List.getElem?_eq_none (by simp; omega), List.getElem?_eq_none (by simp; omega)]
theorem Vec.ints {col : Nat → Nat} {c : Nat} {h : AH} {v : AV} {l : List Int} (V : Vec col c h 3 1 v l.length (l.map (AV.int .i64))) : IntRow h v l := by
  have h1 := V.row
  unfold IntRow
  refine RowOf.congr' h1 fun i hi => ?_
  rw [Nat.mul_one, List.take_one, List.head?_drop, List.getElem?_map, List.getElem?_eq_getElem hi, List.getD_eq_getElem?_getD, List.getElem?_eq_getElem hi]; rfl
where
  RowOf.congr' {h : AH} {s m : Nat} {v : AV} {g g' : Nat → List AV} (r : RowOf h s v m g) (e : ∀ i, i < m → g i = g' i) : RowOf h s v m g' := by
    cases r with
    | nil => exact .nil
    | empty => exact .empty
    | mk hc hs => exact .mk hc fun i hi => by rw [← e i hi]; exact hs i hi
/-- A row's block, and the row wherever the block is. -/
theorem Vec.copy {col : Nat → Nat} {c e sz n : Nat} {h : AH} {v : AV} {cs : List AV} (V : Vec col c h e sz v n cs) (hn : 0 < n) : ∃ id o, h.t.get id = some o ∧ col id = c ∧ ∀ h' : AH, h'.t.get id = some o → Vec col c h' e sz v n cs := by
  cases V with
  | nil => omega
  | @mk id _ cap ex _ tail hg hc hn' hx => exact ⟨id, _, hg, hc, fun h' g => .mk g hc hn' hx⟩
theorem get_keep {G h : AH} {i j : Nat} {o o' : AObj} (hg : G.t.get i = some o) (e : h.t.get i = some o) (e' : h.t.get j = some o') : (G.add j o').t.get i = some o := by
  by_cases hij : i = j
  · subst hij; rw [e] at e'; cases e'; exact AH.get_add ..
  · rw [AH.get_add_ne hij]; exact hg
/-- Four objects beside what is read. -/
theorem four {G h : AH} (hl : G.le h) {i1 i2 i3 i4 : Nat} {o1 o2 o3 o4 : AObj} (e1 : h.t.get i1 = some o1) (e2 : h.t.get i2 = some o2) (e3 : h.t.get i3 = some o3) (e4 : h.t.get i4 = some o4) :
    ∃ GR : AH, GR.le h ∧ GR.t.get i1 = some o1 ∧ GR.t.get i2 = some o2 ∧ GR.t.get i3 = some o3 ∧ GR.t.get i4 = some o4 ∧ ∀ h', G.le h' → h'.t.get i1 = some o1 → h'.t.get i2 = some o2 → h'.t.get i3 = some o3 → h'.t.get i4 = some o4 → GR.le h' := by
  refine ⟨(((G.add i1 o1).add i2 o2).add i3 o3).add i4 o4, AH.add_le (AH.add_le (AH.add_le (AH.add_le hl e1) e2) e3) e4, ?_, ?_, ?_, AH.get_add .., fun h' k1 k2 k3 k4 k5 => AH.add_le (AH.add_le (AH.add_le (AH.add_le k1 k2) k3) k4) k5⟩
  · exact get_keep (get_keep (get_keep (AH.get_add ..) e1 e2) e1 e3) e1 e4
  · exact get_keep (get_keep (AH.get_add ..) e2 e3) e2 e4
  · exact get_keep (AH.get_add ..) e3 e4
theorem Vec.atI {col : Nat → Nat} {c : Nat} {h : AH} {v : AV} {l : List Int} (V : Vec col c h 3 1 v l.length (l.map (AV.int .i64))) {i : Int} (h0 : 0 ≤ i) (hi : i < l.length) : ∃ a b, aindexAddr (TT gt) 25 v (.int .i64 i) = some (.ptr a b) ∧ aload (TT gt) h 3 (.ptr a b) = some (.int .i64 (l.getD i.toNat 0)) := by
  have hOB := V.at1 (T := TT gt) (t := 25) (k := .i64) (i := i) rfl rfl rfl rfl h0 hi
  obtain ⟨p, u, a1, a2, a3⟩ := hOB
  have hlt : i.toNat < l.length := by omega
  rw [List.getElem?_map, List.getElem?_eq_getElem hlt] at a3
  have : u = .int .i64 (l.getD i.toNat 0) := by
    rw [List.getD_eq_getElem?_getD, List.getElem?_eq_getElem hlt]; simpa using a3.symm
  have hp : ∃ a b, p = .ptr a b := by
    generalize hm : l.length = m at V
    generalize l.map (AV.int .i64) = cs at V
    cases V with
    | nil => omega
    | mk _ _ _ _ =>
      have hd : descOf (TT gt) 25 = .slice 3 := rfl
      have he : (TT gt).tt.get 3 = some ti3 := rfl
      simp only [aindexAddr, hd, he] at a1
      split at a1
      · exact ⟨_, _, (Option.some.inj a1).symm⟩
      · cases a1
  obtain ⟨a, b, rfl⟩ := hp
  exact ⟨a, b, a1, this ▸ a2⟩
/-- A copy in a row of one's own. -/
theorem clone_spec {G h : AH} {col : Nat → Nat} (S : HS G h col) (c : Nat) (hc : c ≠ 0) {v : AV} {l : List Int} (row : IntRow h v l) (stay : ∀ h1 col1, Step (fun x => x = c) col h col1 h1 → IntRow h1 v l) (nz : NZ v) (hm : l.length ≤ 2 ^ 36) :
    EvF (TT gt) X 41 [v] h (fun r h' => ∃ col1, Step (fun x => x = c) col h col1 h' ∧ HS G h' col1 ∧ Vec col1 c h' 3 1 r l.length (l.map (AV.int .i64))) := by
  have hOB := row_tri row
  rcases hOB with rfl | rfl | ⟨id, off, len, cap, ex, rfl⟩
  · have h0 := row_nil row
    have h1 : l = [] := List.eq_nil_of_length_eq_zero h0
    subst h1
    refine EvF.enter rfl rfl rfl ?_
    repeat (first | refine EvO.plain rfl rfl rfl rfl rfl rfl ?_ | refine EvC.seq ?_ | refine EvC.region rfl ?_ | refine EvO.nil ?_ | refine at_normal ?_)
    refine EvC.cond (t := true) rfl (fun _ => ?_) (fun e => nomatch e)
    repeat (first | refine EvO.plain rfl rfl rfl rfl rfl rfl ?_ | refine EvC.seq ?_ | refine EvC.region rfl ?_ | refine EvO.nil ?_ | refine at_normal ?_ | refine EvC.ret ?_ | refine at_ret ?_)
    (refine ret_is (v := .nilSlice) rfl rfl ?_)
    exact ⟨col, Step.refl S, S, .nil⟩
  · refine EvF.enter rfl rfl rfl ?_
    repeat (first | refine EvO.plain rfl rfl rfl rfl rfl rfl ?_ | refine EvC.seq ?_ | refine EvC.region rfl ?_ | refine EvO.nil ?_ | refine at_normal ?_)
    refine EvC.cond (t := false) rfl (fun e => nomatch e) (fun _ => ?_)
    repeat (first | refine EvC.seq ?_ | refine EvC.region rfl ?_ | refine at_normal ?_ | refine EvC.skip ?_)
    (refine EvO.cons rfl rfl rfl (EvP.newC (b := .cells [] 3 false) (mk := .slice 0 0 true) S c rfl rfl hc (fun h1 id col1 A1 S1 o1 c1 _ => ?_)))
    have V1 : Vec col1 c h1 3 1 (.slice id 0 0 0 true) 0 [] := .mk (tail := []) o1 c1 rfl (fun _ => ⟨Nat.le_refl _, rfl⟩)
    have row1 := stay _ _ A1
    repeat (refine EvO.plain rfl rfl rfl rfl rfl rfl ?_)
    (refine EvO.cons rfl rfl rfl (EvP.appendRow S1 V1 hc row1 nz (fun i hi => rfl) rfl rfl rfl rfl rfl rfl rfl rfl rfl rfl (by show (0 + l.length) * 8 ≤ 70368744177664; omega) (by omega) (fun v2 h2 col2 A2 S2 V2 => ?_)))
    repeat (first | refine EvO.plain rfl rfl rfl rfl rfl rfl ?_ | refine EvO.nil ?_ | refine at_normal ?_ | refine EvC.ret ?_)
    (refine ret_is (v := v2) rfl rfl ?_)
    refine ⟨col2, A1.trans A2, S2, ?_⟩
    rw [Nat.zero_add, List.nil_append, range_ints] at V2; exact V2
  · refine EvF.enter rfl rfl rfl ?_
    repeat (first | refine EvO.plain rfl rfl rfl rfl rfl rfl ?_ | refine EvC.seq ?_ | refine EvC.region rfl ?_ | refine EvO.nil ?_ | refine at_normal ?_)
    refine EvC.cond (t := false) rfl (fun e => nomatch e) (fun _ => ?_)
    repeat (first | refine EvC.seq ?_ | refine EvC.region rfl ?_ | refine at_normal ?_ | refine EvC.skip ?_)
    (refine EvO.cons rfl rfl rfl (EvP.newC (b := .cells [] 3 false) (mk := .slice 0 0 true) S c rfl rfl hc (fun h1 id1 col1 A1 S1 o1 c1 _ => ?_)))
    have V1 : Vec col1 c h1 3 1 (.slice id1 0 0 0 true) 0 [] := .mk (tail := []) o1 c1 rfl (fun _ => ⟨Nat.le_refl _, rfl⟩)
    have row1 := stay _ _ A1
    repeat (refine EvO.plain rfl rfl rfl rfl rfl rfl ?_)
    (refine EvO.cons rfl rfl rfl (EvP.appendRow S1 V1 hc row1 nz (fun i hi => rfl) rfl rfl rfl rfl rfl rfl rfl rfl rfl rfl (by show (0 + l.length) * 8 ≤ 70368744177664; omega) (by omega) (fun v2 h2 col2 A2 S2 V2 => ?_)))
    repeat (first | refine EvO.plain rfl rfl rfl rfl rfl rfl ?_ | refine EvO.nil ?_ | refine at_normal ?_ | refine EvC.ret ?_)
    (refine ret_is (v := v2) rfl rfl ?_)
    refine ⟨col2, A1.trans A2, S2, ?_⟩
    rw [Nat.zero_add, List.nil_append, range_ints] at V2; exact V2
end Sa
end Pf
end Go.Proofs.YtheiionmocfleaaDoor
