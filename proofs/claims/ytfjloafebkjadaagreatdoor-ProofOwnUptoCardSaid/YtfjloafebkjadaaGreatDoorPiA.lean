/- What is needed for a clash, and what Core finds, without a program. -/
import Derived.Test.YtfjloafebkjadaaGreatDoorPhB
/- What is needed for a clash, and what Core finds, without a program. -/
namespace Go.Proofs.YtfjloafebkjadaaGreatDoor
namespace Pf
open Go Go.AI Go.Proofs
theorem Der.mono {A B : List (List Int)} {t : List Int} (h : ∀ c ∈ A, c ∈ B) {x : Int} (d : Der A t x) : Der B t x := by
  induction d with
  | tak h' => exact .tak h'
  | unit hc hx _ ih => exact .unit (h _ hc) hx ih
theorem Clash.mono {A B : List (List Int)} {t : List Int} (h : ∀ c ∈ A, c ∈ B) (d : Clash A t) : Clash B t := by
  rcases d with ⟨x, h1, h2⟩ | ⟨c, hc, h1⟩
  · exact .inl ⟨x, h1.mono h, h2.mono h⟩
  · exact .inr ⟨c, h c hc, fun y hy => (h1 y hy).mono h⟩
/-- What was gathered, looking at the trail from its end down to a place. -/
structure Needs (all : List (List Int)) (tr w : List Int) (k i : Nat) (seen : Int → Prop) (out : List Int) : Prop where
  bad : ∀ y ∈ all.getD k [], seen (-y)
  kin : (k : Int) ∈ out
  rng : ∀ x ∈ out, ∃ j : Nat, x = j ∧ j < all.length
  done : ∀ j, i ≤ j → j < tr.length → seen (tr.getD j 0) → w.getD (max (tr.getD j 0) (-tr.getD j 0)).toNat 0 < 0 ∨
    (w.getD (max (tr.getD j 0) (-tr.getD j 0)).toNat 0 ∈ out ∧ ∀ y ∈ all.getD (w.getD (max (tr.getD j 0) (-tr.getD j 0)).toNat 0).toNat [], y ≠ tr.getD j 0 → seen (-y))
theorem Needs.skip {all : List (List Int)} {tr w : List Int} {k i : Nat} {seen : Int → Prop} {out : List Int} (N : Needs all tr w k (i + 1) seen out) (h : ¬ seen (tr.getD i 0) ∨ w.getD (max (tr.getD i 0) (-tr.getD i 0)).toNat 0 < 0) : Needs all tr w k i seen out where
  bad := N.bad
  kin := N.kin
  rng := N.rng
  done := fun j hj hl hs => by
    have hOB := Nat.lt_or_ge i j
    rcases hOB with h' | h'
    · exact N.done j h' hl hs
    · have hOB : j = i := by omega
      obtain rfl := hOB
      exact h.elim (fun e => absurd hs e) .inl
theorem Needs.take {n : Nat} {all : List (List Int)} {taken tr w : List Int} {k i wn : Nat} {seen seen' : Int → Prop} {out : List Int} (N : Needs all tr w k (i + 1) seen out) (hi : i < tr.length) (nd : tr.Nodup) (_W : Why n all taken tr w)
    (hw : w.getD (max (tr.getD i 0) (-tr.getD i 0)).toNat 0 = wn) (hwn : wn < all.length) (hoth : ∀ y ∈ all.getD wn [], y ≠ tr.getD i 0 → -y ∈ tr.take i)
    (hs : ∀ x, seen' x ↔ seen x ∨ ∃ y ∈ all.getD wn [], y ≠ tr.getD i 0 ∧ x = -y) : Needs all tr w k i seen' (out ++ [(wn : Int)]) where
  bad := fun y hy => (hs _).2 (.inl (N.bad y hy))
  kin := List.mem_append_left _ N.kin
  rng := fun x hx => by
    have hOB := List.mem_append.1 hx
    rcases hOB with h | h
    · exact N.rng x h
    · exact ⟨wn, List.mem_singleton.1 h, hwn⟩
  done := fun j hj hl hsj => by
    have hOB := Nat.lt_or_ge i j
    rcases hOB with h' | h'
    · have hold : seen (tr.getD j 0) := by
        have hOB := (hs _).1 hsj
        rcases hOB with h | ⟨y, y1, y2, y3⟩
        · exact h
        · have h4 := hoth y y1 y2
          rw [← y3] at h4
          have hOB := List.getElem_of_mem h4
          obtain ⟨a, ha, e⟩ := hOB
          have ha' : a < i := by rw [List.length_take] at ha; omega
          rw [List.getElem_take, List.getD_eq_getElem?_getD, List.getElem?_eq_getElem hl] at e
          have := (List.nodup_iff_pairwise_ne.1 nd)
          rw [List.pairwise_iff_getElem] at this
          exact absurd e (this a j (by omega) hl (by omega))
      have hOB := N.done j h' hl hold
      rcases hOB with h1 | ⟨h1, h2⟩
      · exact .inl h1
      · exact .inr ⟨List.mem_append_left _ h1, fun y hy hne => (hs _).2 (.inl (h2 y hy hne))⟩
    · have hOB : j = i := by omega
      obtain rfl := hOB
      right
      rw [hw]
      refine ⟨List.mem_append_right _ (List.mem_singleton.2 rfl), fun y hy hne => (hs _).2 (.inr ⟨y, ?_, hne, rfl⟩)⟩
      rwa [Int.toNat_natCast] at hy
/-- The clauses that are needed clash alone. -/
theorem Needs.clash {n : Nat} {all : List (List Int)} {taken tr w : List Int} {k : Nat} {seen : Int → Prop} {out : List Int} (N : Needs all tr w k 0 seen out) (W : Why n all taken tr w) (hk : k < all.length) (hbad : ∀ y ∈ all.getD k [], -y ∈ tr) {Sel : List (List Int)} (hS : ∀ j : Nat, (j : Int) ∈ out → all.getD j [] ∈ Sel) : Clash Sel taken := by
  have der : ∀ m j, j < m → j < tr.length → seen (tr.getD j 0) → Der Sel taken (tr.getD j 0) := by
    intro m
    induction m with
    | zero => intro j h; omega
    | succ m ih =>
      intro j hj hl hs
      have hr := W.2 j hl
      have hd := N.done j (Nat.zero_le _) hl hs
      generalize w.getD (max (tr.getD j 0) (-tr.getD j 0)).toNat 0 = v at hr hd
      rcases hr with ⟨_, h⟩ | ⟨wn, rfl, h1, h2, h3⟩
      · exact .tak h
      · rcases hd with h4 | ⟨h4, h5⟩
        · omega
        · rw [Int.toNat_natCast] at h5
          refine .unit (hS wn h4) h2 fun y hy hne => ?_
          have h6 := h3 y hy hne
          have hOB := List.getElem_of_mem h6
          obtain ⟨a, ha, e⟩ := hOB
          have ha' : a < j := by rw [List.length_take] at ha; omega
          rw [List.getElem_take] at e
          have e2 : tr.getD a 0 = -y := by rw [List.getD_eq_getElem?_getD, List.getElem?_eq_getElem (by omega)]; exact e
          rw [← e2]
          exact ih a (by omega) (by omega) (by rw [e2]; exact h5 y hy hne)
  refine .inr ⟨_, hS k N.kin, fun y hy => ?_⟩
  have hOB := List.getElem_of_mem (hbad y hy)
  obtain ⟨a, ha, e⟩ := hOB
  have e2 : tr.getD a 0 = -y := by rw [List.getD_eq_getElem?_getD, List.getElem?_eq_getElem ha]; exact e
  rw [← e2]
  exact der (a + 1) a (by omega) ha (by rw [e2]; exact N.bad y hy)
/-- Those of the first so many clauses that are marked. -/
def sel (all : List (List Int)) (need : Int → Bool) (m : Nat) : List (List Int) := ((List.range m).filter (fun j : Nat => need j)).map (fun j => all.getD j [])
theorem mem_sel {all : List (List Int)} {need : Int → Bool} {m : Nat} {c : List Int} : c ∈ sel all need m ↔ ∃ j : Nat, j < m ∧ need j = true ∧ all.getD j [] = c := by
  unfold sel
  rw [List.mem_map]
  constructor
  · rintro ⟨j, h1, h2⟩
    rw [List.mem_filter, List.mem_range] at h1
    exact ⟨j, h1.1, h1.2, h2⟩
  · rintro ⟨j, h1, h2, h3⟩
    exact ⟨j, by rw [List.mem_filter, List.mem_range]; exact ⟨h1, h2⟩, h3⟩
/-- What Core has marked, having looked at all from its start down to a number. -/
structure Marks (L P : List (List Int)) (e m : Nat) (need : Int → Bool) : Prop where
  top : need ((L.length + e : Nat) : Int) = true
  rng : ∀ x, need x = true → ∃ j : Nat, x = j ∧ j ≤ L.length + e
  done : ∀ j, m ≤ j → j ≤ L.length + e → L.length ≤ j → need j = true → Clash (sel (L ++ P) need j) (neg ((L ++ P).getD j []))
theorem Marks.skip {L P : List (List Int)} {e m : Nat} {need : Int → Bool} (M : Marks L P e (m + 1) need) (h : need m = false ∨ Clash (sel (L ++ P) need m) (neg ((L ++ P).getD m []))) : Marks L P e m need where
  top := M.top
  rng := M.rng
  done := fun j h1 h2 h3 h4 => by
    have hOB := Nat.lt_or_ge m j
    rcases hOB with h' | h'
    · exact M.done j h' h2 h3 h4
    · have hOB : j = m := by omega
      obtain rfl := hOB
      rcases h with h | h
      · rw [h] at h4; cases h4
      · exact h
theorem Marks.more {L P : List (List Int)} {e m : Nat} {need need' : Int → Bool} (M : Marks L P e (m + 1) need) (hm : m ≤ L.length + e) (h1 : ∀ x, need x = true → need' x = true) (h2 : ∀ x, need' x = true → need x = true ∨ ∃ j : Nat, x = j ∧ j < m) (h3 : Clash (sel (L ++ P) need' m) (neg ((L ++ P).getD m []))) : Marks L P e m need' where
  top := h1 _ M.top
  rng := fun x hx => by
    have hOB := h2 x hx
    rcases hOB with h | ⟨j, rfl, hj⟩
    · exact M.rng x h
    · exact ⟨j, rfl, by omega⟩
  done := fun j g1 g2 g3 g4 => by
    have hOB := Nat.lt_or_ge m j
    rcases hOB with h' | h'
    · have : need j = true := by
        have hOB := h2 _ g4
        rcases hOB with h | ⟨i, e, hi⟩
        · exact h
        · omega
      refine (M.done j h' g2 g3 this).mono fun c hc => ?_
      have hOB := mem_sel.1 hc
      obtain ⟨i, i1, i2, i3⟩ := hOB
      exact mem_sel.2 ⟨i, i1, h1 _ i2, i3⟩
    · have hOB : j = m := by omega
      obtain rfl := hOB
      exact h3
/-- Numbers that are marked, of so many from a first one on. -/
def pick (need : Int → Bool) (a m : Nat) : List Int := ((List.range m).filter (fun j : Nat => need ((a + j : Nat) : Int))).map (fun j : Nat => (j : Int))
theorem pick_succ {need : Int → Bool} {a m : Nat} : pick need a (m + 1) = pick need a m ++ (if need ((a + m : Nat) : Int) then [(m : Int)] else []) := by
  unfold pick
  rw [List.range_succ, List.filter_append, List.map_append]
  congr 1
  rw [List.filter_cons]
  split <;> simp_all
theorem mem_pick {need : Int → Bool} {a m : Nat} {x : Int} : x ∈ pick need a m ↔ ∃ j : Nat, x = j ∧ j < m ∧ need ((a + j : Nat) : Int) = true := by
  unfold pick
  rw [List.mem_map]
  constructor
  · rintro ⟨j, h1, h2⟩
    rw [List.mem_filter, List.mem_range] at h1
    exact ⟨j, h2.symm, h1.1, h1.2⟩
  · rintro ⟨j, h1, h2, h3⟩
    exact ⟨j, by rw [List.mem_filter, List.mem_range]; exact ⟨h2, h3⟩, h1.symm⟩
theorem pick_sorted {need : Int → Bool} {a m : Nat} : (pick need a m).Pairwise (· < ·) := by
  induction m with
  | zero => simp [pick]
  | succ m ih =>
    rw [pick_succ, List.pairwise_append]
    refine ⟨ih, by split <;> simp, fun x hx y hy => ?_⟩
    have hOB := mem_pick.1 hx
    obtain ⟨j, rfl, hj, _⟩ := hOB
    split at hy
    · rw [List.mem_singleton.1 hy]; omega
    · cases hy
/-- The clauses of some numbers. -/
def nth (L : List (List Int)) (A : List Int) : List (List Int) := A.map (fun x => L.getD x.toNat [])
theorem getD_app1 {L P : List (List Int)} {j : Nat} (h : j < L.length) : (L ++ P).getD j [] = L.getD j [] := by
  rw [List.getD_eq_getElem?_getD, List.getD_eq_getElem?_getD, List.getElem?_append_left h]
theorem getD_app2 {L P : List (List Int)} {j : Nat} : (L ++ P).getD (L.length + j) [] = P.getD j [] := by
  rw [List.getD_eq_getElem?_getD, List.getD_eq_getElem?_getD, List.getElem?_append_right (by omega)]
  congr 2; omega
theorem Marks.refutes {L P : List (List Int)} {e : Nat} {need : Int → Bool} (M : Marks L P e L.length need) (he : e < P.length) (he0 : P.getD e [] = []) : Refutes (nth L (pick need 0 L.length)) (nth P (pick need L.length P.length)) := by
  have hB := pick_sorted (need := need) (a := L.length) (m := P.length)
  have hin : (e : Int) ∈ pick need L.length P.length := mem_pick.2 ⟨e, rfl, he, M.top⟩
  have hmB : ∀ x ∈ pick need L.length P.length, ∃ j : Nat, x = j ∧ j ≤ e ∧ need ((L.length + j : Nat) : Int) = true := fun x hx => by
    have hOB := mem_pick.1 hx
    obtain ⟨j, rfl, _, h2⟩ := hOB
    have hOB := M.rng _ h2
    obtain ⟨i, h3, h4⟩ := hOB
    exact ⟨j, rfl, by omega, h2⟩
  generalize hb : pick need L.length P.length = B at *
  have hl : 0 < B.length := List.length_pos_of_mem hin
  rw [List.pairwise_iff_getElem] at hB
  refine ⟨by unfold nth; rw [List.length_map]; exact hl, ?_, fun i hi => ?_⟩
  · have hOB := List.getElem_of_mem hin
    obtain ⟨a, ha, ea⟩ := hOB
    have hlast : B[B.length - 1]'(by omega) = (e : Int) := by
      have hOB := Nat.lt_or_ge a (B.length - 1)
      rcases hOB with h | h
      · have h1 := hB a (B.length - 1) ha (by omega) h
        have hOB := hmB _ (List.getElem_mem (l := B) (n := B.length - 1) (by omega))
        obtain ⟨j, h2, h3, _⟩ := hOB
        omega
      · have : a = B.length - 1 := by omega
        subst this; exact ea
    unfold nth
    rw [List.length_map, List.getD_eq_getElem?_getD, List.getElem?_map, List.getElem?_eq_getElem (by omega), hlast]
    exact he0
  · have hi' : i < B.length := by unfold nth at hi; rwa [List.length_map] at hi
    have hOB := hmB _ (List.getElem_mem hi')
    obtain ⟨j, h1, h2, h3⟩ := hOB
    have e1 : (nth P B).getD i [] = P.getD j [] := by
      unfold nth
      rw [List.getD_eq_getElem?_getD, List.getElem?_map, List.getElem?_eq_getElem hi', h1]
      show P.getD (Int.toNat j) [] = _
      rw [Int.toNat_natCast]
    rw [e1]
    have hc := M.done (L.length + j) (by omega) (by omega) (by omega) h3
    rw [getD_app2] at hc
    refine hc.mono fun c hc => ?_
    have hOB := mem_sel.1 hc
    obtain ⟨a, a1, a2, a3⟩ := hOB
    have hOB := Nat.lt_or_ge a L.length
    rcases hOB with ha | ha
    · rw [getD_app1 ha] at a3
      refine List.mem_append_left _ ?_
      unfold nth
      rw [List.mem_map]
      exact ⟨(a : Int), mem_pick.2 ⟨a, rfl, ha, by rw [Nat.zero_add]; exact a2⟩, by rw [Int.toNat_natCast]; exact a3⟩
    · have hOB : ∃ b, a = L.length + b := ⟨a - L.length, by omega⟩
      obtain ⟨b, rfl⟩ := hOB
      rw [getD_app2] at a3
      refine List.mem_append_right _ ?_
      have hbm : (b : Int) ∈ B := by rw [← hb]; exact mem_pick.2 ⟨b, rfl, by omega, a2⟩
      have hOB := List.getElem_of_mem hbm
      obtain ⟨q, hq, eq⟩ := hOB
      have hqi : q < i := by
        have hOB := Nat.lt_trichotomy q i
        rcases hOB with h | h | h
        · exact h
        · subst h; omega
        · have := hB i q hi' hq h; omega
      rw [List.mem_iff_getElem?]
      refine ⟨q, ?_⟩
      rw [List.getElem?_take, if_pos hqi]
      unfold nth
      rw [List.getElem?_map, List.getElem?_eq_getElem hq, eq, ← a3]
      simp
end Pf
end Go.Proofs.YtfjloafebkjadaaGreatDoor
