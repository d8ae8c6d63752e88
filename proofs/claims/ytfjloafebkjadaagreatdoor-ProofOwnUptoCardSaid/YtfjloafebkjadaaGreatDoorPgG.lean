/- Lines; a list of one's own. -/
import Derived.Test.YtfjloafebkjadaaGreatDoorPgM
import Derived.Test.YtfjloafebkjadaaGreatDoorPgC
namespace Go.Proofs.YtfjloafebkjadaaGreatDoor
namespace Pf
open Go Go.AI Go.Proofs
variable {gt : Tree (List AV)}
def ln0 : Int × Int × Int := (0, 0, 0)
/-- Lines, as they are read. -/
def LinesAt (h : AH) (v : AV) (ls : List (Int × Int × Int)) : Prop := RowOf h 3 v ls.length (fun i => [.int .i64 (ls.getD i ln0).1, .int .i64 (ls.getD i ln0).2.1, .int .i64 (ls.getD i ln0).2.2])
/-- A line that can be followed. -/
def lineOk (all : List (List Int)) (x : Int × Int × Int) : Prop := (0 ≤ x.1 ∧ x.1 < all.length) ∧ (0 ≤ x.2.1 ∧ x.2.1 < all.length) ∧ 1 ≤ x.2.2 ∧ x.2.2 ∈ all.getD x.1.toNat [] ∧ -x.2.2 ∈ all.getD x.2.1.toNat []
instance (all : List (List Int)) (x : Int × Int × Int) : Decidable (lineOk all x) := by unfold lineOk; exact inferInstance
def stepR (all : List (List Int)) (x : Int × Int × Int) : List (List Int) := all ++ [resL (all.getD x.1.toNat []) (all.getD x.2.1.toNat []) x.2.2]
def run : List (List Int) → List (Int × Int × Int) → Option (List (List Int))
  | all, [] => some all
  | all, x :: t => if lineOk all x then run (stepR all x) t else none
theorem run_append : ∀ (a b : List (Int × Int × Int)) (all : List (List Int)), run all (a ++ b) = (run all a).bind (fun s => run s b)
  | [], b, all => rfl
  | x :: a, b, all => by
    simp only [List.cons_append, run]
    split
    · exact run_append a b _
    · rfl
theorem take_nextL {ls : List (Int × Int × Int)} {i : Nat} (h : i < ls.length) : ls.take (i + 1) = ls.take i ++ [ls.getD i ln0] := by
  rw [List.take_add_one, List.getD_eq_getElem?_getD, List.getElem?_eq_getElem h]; rfl
theorem run_next {L all : List (List Int)} {ls : List (Int × Int × Int)} {i : Nat} (hi : i < ls.length) (h : run L (ls.take i) = some all) (hok : lineOk all (ls.getD i ln0)) : run L (ls.take (i + 1)) = some (stepR all (ls.getD i ln0)) := by
  rw [take_nextL hi, run_append, h]
  simp only [Option.bind_some, run, if_pos hok]
theorem run_bad {L all : List (List Int)} {ls : List (Int × Int × Int)} {i : Nat} (hi : i < ls.length) (h : run L (ls.take i) = some all) (hok : ¬ lineOk all (ls.getD i ln0)) : run L ls = none := by
  have e : run L (ls.take (i + 1)) = none := by
    rw [take_nextL hi, run_append, h]
    simp only [Option.bind_some, run, if_neg hok]
  have := run_append (ls.take (i + 1)) (ls.drop (i + 1)) L
  rw [List.take_append_drop, e] at this
  exact this
/-- Of which a first part can be cut off. -/
def Cutt (h : AH) (v : AV) (k : Nat) : Prop := k = 0 ∨ ∃ id o cap ex cs, v = .slice id o k cap ex ∧ h.t.get id = some (.cells cs 35 false) ∧ o + k ≤ cs.length ∧ (ex = true → k ≤ cap)
theorem sub_at {cells tail : List AV} {j : Nat} (hj : j < cells.length) : sub (cells ++ tail) j 1 = some [cells.getD j .undef] := by
  unfold sub
  rw [if_pos (by simp; omega), List.take_one, List.head?_drop, List.getElem?_append_left hj, List.getD_eq_getElem?_getD, List.getElem?_eq_getElem hj]
  rfl
theorem cut_tail {col : Nat → Nat} {c n l : Nat} {h : AH} {v : AV} {cells : List AV} (V : Vec col c h 35 1 v n cells) (hl : l ≤ n) :
    ∃ v', aslice (TT gt) h 22 v (some (.int .i64 l)) none none = some v' ∧ RowOf h 1 v' (n - l) (fun i => [cells.getD (l + i) .undef]) ∧ Cutt h v' (n - l) := by
  have b : ∀ c, bounds n c (some (.int .i64 l)) none none = some (l, n, c) := fun c => by
    show (match (if (0 : Int) ≤ (l : Int) ∧ (l : Int) ≤ (n : Int) then some ((l : Int)).toNat else none) with | none => none | some l => some (l, n, c)) = _
    rw [if_pos (by omega)]; rfl
  cases V with
  | nil =>
    have hOB : l = 0 := by omega
    obtain rfl := hOB
    exact ⟨.nilSlice, rfl, .nil, .inl rfl⟩
  | @mk id _ cap ex _ tail hg hc hn hx =>
    rw [Nat.mul_one] at hn
    have row : ∀ {cap' : Nat} {ex' : Bool}, RowOf h 1 (.slice id l (n - l) cap' ex') (n - l) (fun i => [cells.getD (l + i) .undef]) := fun {_ _} => .mk (cs := cells ++ tail) (by unfold cellsOf; rw [hg]) fun i hi => by
      rw [Nat.mul_one]; exact sub_at (by omega)
    cases ex with
    | true =>
      have hOB := hx rfl
      obtain ⟨h1, h2⟩ := hOB
      have hal : aslice (TT gt) h 22 (.slice id 0 n cap true) (some (.int .i64 l)) none none = some (.slice id (if cap = l then 0 else 0 + l * 1) (n - l) (cap - l) true) := by
        show cut id 0 1 (bounds n cap (some (.int .i64 l)) none none) = _
        rw [b]; rfl
      by_cases e : cap = l
      · rw [if_pos e] at hal
        have e0 : n - l = 0 := by omega
        refine ⟨_, hal, ?_, .inl e0⟩
        rw [e0]
        exact .mk (cs := cells ++ tail) (by unfold cellsOf; rw [hg]) fun i hi => absurd hi (Nat.not_lt_zero _)
      · rw [if_neg e, Nat.zero_add, Nat.mul_one] at hal
        refine ⟨_, hal, row, .inr ⟨id, l, _, _, cells ++ tail, rfl, hg, by simp; omega, fun _ => by omega⟩⟩
    | false =>
      have hal : aslice (TT gt) h 22 (.slice id 0 n cap false) (some (.int .i64 l)) none none = if l = (cells ++ tail).length ∧ 0 < l then some .eslice else some (.slice id l (n - l) 0 false) := by
        show (match some ti35, ownOf h id with
          | some ie, some (cs, el) =>
            if ie.size = 0 ∨ szOf (TT gt) el ≠ ie.size ∨ cs.length < 0 then none else
            match bounds n ((cs.length - 0) / ie.size) (some (.int .i64 l)) none none with
            | some (l, hi, mm) => if (cs.length - 0) / ie.size < hi then none else if l = (cs.length - 0) / ie.size ∧ 0 < l then some AV.eslice else some (AV.slice id (0 + l * ie.size) (hi - l) 0 false)
            | none => none
          | _, _ => none) = _
        have hs : szOf (TT gt) 35 = 1 := rfl
        have h1 : ti35.size = 1 := rfl
        simp only [ownOf, hg, hs, h1, b, Nat.sub_zero, Nat.div_one, Nat.zero_add, Nat.mul_one]
        rw [if_neg (by omega), if_neg (by simp; omega)]
      by_cases e : l = (cells ++ tail).length ∧ 0 < l
      · rw [if_pos e] at hal
        have e0 : n - l = 0 := by have := e.1; simp at this; omega
        refine ⟨_, hal, ?_, .inl e0⟩
        rw [e0]; exact .empty
      · rw [if_neg e] at hal
        refine ⟨_, hal, row, .inr ⟨id, l, _, _, cells ++ tail, rfl, hg, by simp; omega, fun e => nomatch e⟩⟩
theorem row_nil {h : AH} {s m : Nat} {g : Nat → List AV} (r : RowOf h s .nilSlice m g) : m = 0 := by cases r; rfl
theorem row_tri {h : AH} {s m : Nat} {v : AV} {g : Nat → List AV} (r : RowOf h s v m g) : v = .nilSlice ∨ v = .eslice ∨ ∃ id off len cap ex, v = .slice id off len cap ex := by
  cases r with
  | nil => exact .inl rfl
  | empty => exact .inr (.inl rfl)
  | mk _ _ => exact .inr (.inr ⟨_, _, _, _, _, rfl⟩)
theorem clone_spec {G h : AH} {col : Nat → Nat} (S : HS G h col) {n : Int} {cl : AV} {L : List (List Int)} {cv : Nat → AV} (C : CnfAt G n cl L cv) (nc : NZ cl) (hm : L.length ≤ 2 ^ 30) :
    EvF (TT gt) X 67 [cl] h (fun r h' => ∃ col1, Step (fun x => x = 1) col h col1 h' ∧ HS G h' col1 ∧ Vec col1 1 h' 35 1 r L.length ((List.range L.length).map cv)) := by
  have hOB := row_tri C.rows
  rcases hOB with rfl | rfl | ⟨id, off, len, cap, ex, rfl⟩
  · have h0 := row_nil C.rows
    refine EvF.enter rfl rfl rfl ?_
    repeat (first | refine EvO.plain rfl rfl rfl rfl rfl rfl ?_ | refine EvC.seq ?_ | refine EvC.region rfl ?_ | refine EvO.nil ?_ | refine at_normal ?_)
    refine EvC.cond (t := true) rfl (fun _ => ?_) (fun e => nomatch e)
    repeat (first | refine EvO.plain rfl rfl rfl rfl rfl rfl ?_ | refine EvC.seq ?_ | refine EvC.region rfl ?_ | refine EvO.nil ?_ | refine at_normal ?_ | refine EvC.ret ?_ | refine at_ret ?_)
    (refine ret_is (v := .nilSlice) rfl rfl ?_)
    refine ⟨col, Step.refl S, S, ?_⟩
    rw [h0]; exact .nil
  · refine EvF.enter rfl rfl rfl ?_
    repeat (first | refine EvO.plain rfl rfl rfl rfl rfl rfl ?_ | refine EvC.seq ?_ | refine EvC.region rfl ?_ | refine EvO.nil ?_ | refine at_normal ?_)
    refine EvC.cond (t := false) rfl (fun e => nomatch e) (fun _ => ?_)
    repeat (first | refine EvC.seq ?_ | refine EvC.region rfl ?_ | refine at_normal ?_ | refine EvC.skip ?_)
    (refine EvO.cons rfl rfl rfl (EvP.newC (b := .cells [] 35 false) (mk := .slice 0 0 true) S 1 rfl rfl (by decide) (fun h1 id col1 A1 S1 o1 c1 _ => ?_)))
    have V1 : Vec col1 1 h1 35 1 (.slice id 0 0 0 true) 0 [] := .mk (tail := []) o1 c1 rfl (fun _ => ⟨Nat.le_refl _, rfl⟩)
    repeat (refine EvO.plain rfl rfl rfl rfl rfl rfl ?_)
    (refine EvO.cons rfl rfl rfl (EvP.appendRow S1 V1 (by decide) (C.rows.mono S1.le) nc (fun i hi => (C.ints i hi).sc.2) rfl rfl rfl rfl rfl rfl rfl rfl rfl rfl (by show (0 + L.length) * 24 ≤ 70368744177664; omega) (by omega) (fun v2 h2 col2 A2 S2 V2 => ?_)))
    repeat (first | refine EvO.plain rfl rfl rfl rfl rfl rfl ?_ | refine EvO.nil ?_ | refine at_normal ?_ | refine EvC.ret ?_)
    (refine ret_is (v := v2) rfl rfl ?_)
    refine ⟨col2, A1.trans A2, S2, ?_⟩
    rw [Nat.zero_add, List.nil_append] at V2; exact V2
  · refine EvF.enter rfl rfl rfl ?_
    repeat (first | refine EvO.plain rfl rfl rfl rfl rfl rfl ?_ | refine EvC.seq ?_ | refine EvC.region rfl ?_ | refine EvO.nil ?_ | refine at_normal ?_)
    refine EvC.cond (t := false) rfl (fun e => nomatch e) (fun _ => ?_)
    repeat (first | refine EvC.seq ?_ | refine EvC.region rfl ?_ | refine at_normal ?_ | refine EvC.skip ?_)
    (refine EvO.cons rfl rfl rfl (EvP.newC (b := .cells [] 35 false) (mk := .slice 0 0 true) S 1 rfl rfl (by decide) (fun h1 id1 col1 A1 S1 o1 c1 _ => ?_)))
    have V1 : Vec col1 1 h1 35 1 (.slice id1 0 0 0 true) 0 [] := .mk (tail := []) o1 c1 rfl (fun _ => ⟨Nat.le_refl _, rfl⟩)
    repeat (refine EvO.plain rfl rfl rfl rfl rfl rfl ?_)
    (refine EvO.cons rfl rfl rfl (EvP.appendRow S1 V1 (by decide) (C.rows.mono S1.le) nc (fun i hi => (C.ints i hi).sc.2) rfl rfl rfl rfl rfl rfl rfl rfl rfl rfl (by show (0 + L.length) * 24 ≤ 70368744177664; omega) (by omega) (fun v2 h2 col2 A2 S2 V2 => ?_)))
    repeat (first | refine EvO.plain rfl rfl rfl rfl rfl rfl ?_ | refine EvO.nil ?_ | refine at_normal ?_ | refine EvC.ret ?_)
    (refine ret_is (v := v2) rfl rfl ?_)
    refine ⟨col2, A1.trans A2, S2, ?_⟩
    rw [Nat.zero_add, List.nil_append] at V2; exact V2
end Pf
end Go.Proofs.YtfjloafebkjadaaGreatDoor
