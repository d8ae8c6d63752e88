/- A refuted set has no model. -/
import Derived.Test.YtfjloafebkjadaaGreatDoorPf7
namespace Go.Proofs.YtfjloafebkjadaaGreatDoor
namespace Pf
open Go Go.AI Go.Proofs
variable {gt : Tree (List AV)}
theorem holdsB_neg {m : List Bool} {x : Int} (hx : ok m.length x) : holdsB m (-x) = !holdsB m x := by
  obtain ⟨h0, h1, h2⟩ := hx
  have ha : absI (-x) = absI x := by unfold absI; split <;> split <;> omega
  unfold holdsB
  rw [ha]
  have hd : decide (-x > 0) = !decide (x > 0) := by
    by_cases h : x > 0
    · rw [decide_eq_true h, decide_eq_false (by omega)]; rfl
    · rw [decide_eq_false h, decide_eq_true (by omega)]; rfl
  rw [hd]
  cases m.getD (absI x - 1).toNat false <;> cases decide (x > 0) <;> rfl
/-- What follows by units holds wherever the clauses hold, and what was taken. -/
theorem der_sound {m : List Bool} {all : List (List Int)} {taken : List Int} (ho : ∀ c ∈ all, ∀ x ∈ c, ok m.length x) (ha : ∀ c ∈ all, c.any (holdsB m) = true) (ht : ∀ x ∈ taken, holdsB m x = true) {x : Int} (hd : Der all taken x) : holdsB m x = true := by
  induction hd with
  | tak h => exact ht _ h
  | @unit x c hc hx _ ih =>
    obtain ⟨y, hy, hh⟩ := List.any_eq_true.1 (ha c hc)
    by_cases e : y = x
    · rw [← e]; exact hh
    · have := ih y hy e
      rw [holdsB_neg (ho c hc y hy), hh] at this
      cases this
theorem clash_sound {m : List Bool} {all : List (List Int)} {taken : List Int} (ho : ∀ c ∈ all, ∀ x ∈ c, ok m.length x) (hot : ∀ x ∈ taken, ok m.length x) (ha : ∀ c ∈ all, c.any (holdsB m) = true) (ht : ∀ x ∈ taken, holdsB m x = true) : ¬ Clash all taken := by
  have oks : ∀ x, Der all taken x → ok m.length x ∧ holdsB m x = true := fun x hd => ⟨by
    cases hd with
    | tak h => exact hot _ h
    | unit hc hx _ => exact ho _ hc _ hx, der_sound ho ha ht hd⟩
  rintro (⟨x, h1, h2⟩ | ⟨c, hc, h⟩)
  · have a := oks x h1
    have b := (oks _ h2).2
    rw [holdsB_neg a.1, a.2] at b
    cases b
  · obtain ⟨y, hy, hh⟩ := List.any_eq_true.1 (ha c hc)
    have b := (oks _ (h y hy)).2
    rw [holdsB_neg (ho c hc y hy), hh] at b
    cases b
theorem refutes_sound {m : List Bool} {L P : List (List Int)} (hL : ∀ c ∈ L, ∀ x ∈ c, ok m.length x) (hP : ∀ c ∈ P, ∀ x ∈ c, ok m.length x) (hr : Refutes L P) : ¬ ∀ c ∈ L, c.any (holdsB m) = true := by
  intro ha
  obtain ⟨h0, h1, h2⟩ := hr
  have key : ∀ i, i ≤ P.length → ∀ c ∈ P.take i, c.any (holdsB m) = true := by
    intro i
    induction i with
    | zero => intro _ c hc; simp at hc
    | succ i ih =>
      intro hi c hc
      have ht : P.take (i + 1) = P.take i ++ [P.getD i []] := by
        rw [List.take_add_one, List.getD_eq_getElem?_getD, List.getElem?_eq_getElem (by omega)]; rfl
      rw [ht] at hc
      rcases List.mem_append.1 hc with h | h
      · exact ih (by omega) c h
      · rw [List.mem_singleton.1 h]
        refine Classical.byContradiction fun hn => ?_
        have hpm := getDL_mem (L := P) (j := i) (by omega)
        refine clash_sound (m := m) (all := L ++ P.take i) (taken := neg (P.getD i [])) ?_ ?_ ?_ ?_ (h2 i (by omega))
        · intro d hd x hx
          rcases List.mem_append.1 hd with h | h
          · exact hL d h x hx
          · exact hP d (List.mem_of_mem_take h) x hx
        · intro x hx
          obtain ⟨y, hy, rfl⟩ := List.mem_map.1 hx
          exact ok_neg (hP _ hpm y hy)
        · intro d hd
          rcases List.mem_append.1 hd with h | h
          · exact ha d h
          · exact ih (by omega) d h
        · intro x hx
          obtain ⟨y, hy, rfl⟩ := List.mem_map.1 hx
          rw [holdsB_neg (hP _ hpm y hy)]
          rw [Bool.not_eq_true, List.any_eq_false] at hn
          have := hn y hy
          simpa using this
  have := key P.length (Nat.le_refl _) (P.getD (P.length - 1) []) (by rw [List.take_length]; exact getDL_mem (by omega))
  rw [h1] at this
  cases this
theorem awake_spec {h : AH} : EvF (TT gt) X 16 [] h (fun r h' => h' = h ∧ r = .bool true) := EvF.oracle (fn := af Tryz.f16) rfl rfl (Nat.le_refl _) ⟨rfl, rfl⟩
set_option maxHeartbeats 4000000 in
theorem law_spec {h : AH} (hw : WF h) {n : Int} {cl pv mv : AV} {L P : List (List Int)} {M : List Bool} {cv pc : Nat → AV} (C : CnfAt h n cl L cv) (D : CnfAt h n pv P pc) (hM : BoolRow h mv M) (nc : NZ cl) (np : NZ pv) (nm : NZ mv) (hb : total L + total P ≤ 2 ^ 60) (hm : L.length + P.length ≤ 2 ^ 29) :
    EvF (TT gt) X 3 [.agg [.int .i64 n, cl], pv, mv] h (fun r _ => r = .bool true) := by
  refine EvF.enter rfl rfl rfl ?_
  repeat (first | refine EvC.seq ?_ | refine EvC.region rfl ?_)
  (refine EvO.cons rfl rfl rfl (EvP.new (b := .cells [.int .i64 n, cl] 24 false) (mk := .ptr) rfl rfl hw (fun h1 b hg1 hb1 hfr => ?_)))
  have f1 := loadAgg (T := TT gt) (t := 24) (off := 0) (n := 2) (r := [.int .i64 n, cl]) hb1 rfl rfl
  repeat (first | refine EvO.plain rfl rfl rfl rfl rfl rfl ?_ | refine EvO.plain rfl rfl rfl rfl rfl (by assumption) ?_ | refine EvC.seq ?_ | refine EvC.region rfl ?_ | refine EvO.nil ?_ | refine at_normal ?_)
  (refine EvO.cons rfl rfl rfl (EvP.callF rfl rfl rfl rfl (EvF.mono (much_spec hg1.wf (C.mono hg1.le) (D.mono hg1.le) nc np hb hm) ?_)))
  rintro _ h2 hn2 ⟨⟨hl2, hw2⟩, rfl⟩
  have hg2 : Grew h1 h2 := ⟨hl2, hw2, hn2⟩
  have hg := hg1.trans hg2
  clear f1
  have f2 := loadAgg (T := TT gt) (t := 24) (off := 0) (n := 2) (r := [.int .i64 n, cl]) (hg2.le _ _ hb1) rfl rfl
  have wake : ∀ {h' : AH}, EvF (TT gt) X 16 [] h' (fun r h'' => h'' = h' ∧ r = .bool true) := awake_spec
  by_cases hmuch : L.length > 2000 ∨ P.length > 2000 ∨ total L + total P > 20000
  · rw [decide_eq_true hmuch]
    repeat (first | refine EvO.plain rfl rfl rfl rfl rfl rfl ?_ | refine EvO.nil ?_ | refine at_normal ?_ | refine EvO.off rfl rfl rfl ?_)
    refine EvC.cond (t := true) rfl (fun _ => ?_) (fun e => nomatch e)
    repeat (first | refine EvC.seq ?_ | refine EvC.region rfl ?_)
    (refine EvO.cons rfl rfl rfl (EvP.callF rfl rfl rfl rfl (EvF.mono (wake) ?_)))
    rintro _ h3 _ ⟨rfl, rfl⟩
    repeat (first | refine EvO.plain rfl rfl rfl rfl rfl rfl ?_ | refine EvO.nil ?_ | refine at_normal ?_ | refine EvC.ret ?_ | refine at_ret ?_)
    (refine ret_is (v := .bool true) rfl rfl ?_)
    rfl
  · rw [decide_eq_false hmuch]
    have hs : L.length ≤ 2000 ∧ P.length ≤ 2000 ∧ total L + total P ≤ 20000 := by omega
    repeat (first | refine EvO.plain rfl rfl rfl rfl rfl rfl ?_ | refine EvO.plainOn rfl rfl rfl rfl rfl (by assumption) ?_)
    (refine EvO.on rfl rfl rfl (EvP.callF rfl rfl rfl rfl (EvF.mono (refValid_spec (facts gt) hg.wf (C.mono hg.le)) ?_)))
    rintro _ h3 _ ⟨hg3, rfl⟩
    have hg' := hg.trans hg3
    clear f2
    by_cases hv : valid n L
    · rw [decide_eq_true hv]
      repeat (first | refine EvO.plain rfl rfl rfl rfl rfl rfl ?_ | refine EvO.nil ?_ | refine at_normal ?_ | refine EvO.plainOn rfl rfl rfl rfl rfl rfl ?_)
      refine EvC.cond (t := false) rfl (fun e => nomatch e) (fun _ => ?_)
      have f3 := loadAgg (T := TT gt) (t := 24) (off := 0) (n := 2) (r := [.int .i64 n, cl]) (hg3.le _ _ (hg2.le _ _ hb1)) rfl rfl
      repeat (first | refine EvO.plain rfl rfl rfl rfl rfl rfl ?_ | refine EvO.plain rfl rfl rfl rfl rfl (by assumption) ?_ | refine EvC.seq ?_ | refine EvC.region rfl ?_ | refine at_normal ?_ | refine EvC.skip ?_)
      (refine EvO.cons rfl rfl rfl (EvP.callF rfl rfl rfl rfl (EvF.mono (check_spec hg'.wf (C.mono hg'.le) (D.mono hg'.le) (by omega) (by omega)) ?_)))
      rintro _ h4 hn4 ⟨⟨hl4, hw4⟩, is, e, rfl, hbad, hgood⟩
      have hg4 : Grew h3 h4 := ⟨hl4, hw4, hn4⟩
      have hg'' := hg'.trans hg4
      have hb4 := hg4.le _ _ (hg3.le _ _ (hg2.le _ _ hb1))
      clear f3
      repeat (first | refine EvO.plain rfl rfl rfl rfl rfl rfl ?_ | refine EvC.seq ?_ | refine EvC.region rfl ?_ | refine EvO.nil ?_ | refine at_normal ?_)
      by_cases hok : valid n L ∧ ∀ i, i < P.length → ∀ x ∈ P.getD i [], ok n x
      · obtain ⟨rfl, his⟩ := hgood hok
        refine EvO.cons rfl rfl rfl (EvP.quiet rfl (isB (q := false) rfl) ?_)
        cases is with
        | false =>
          repeat (first | refine EvO.plain rfl rfl rfl rfl rfl rfl ?_ | refine EvO.nil ?_ | refine at_normal ?_ | refine EvO.plainOn rfl rfl rfl rfl rfl rfl ?_)
          refine EvC.cond (t := true) rfl (fun _ => ?_) (fun e => nomatch e)
          repeat (first | refine EvC.seq ?_ | refine EvC.region rfl ?_)
          (refine EvO.cons rfl rfl rfl (EvP.callF rfl rfl rfl rfl (EvF.mono (wake) ?_)))
          rintro _ h5 _ ⟨rfl, rfl⟩
          repeat (first | refine EvO.plain rfl rfl rfl rfl rfl rfl ?_ | refine EvO.nil ?_ | refine at_normal ?_ | refine EvC.ret ?_ | refine at_ret ?_)
          (refine ret_is (v := .bool true) rfl rfl ?_)
          rfl
        | true =>
          have hr := his.1 rfl
          repeat (first | refine EvO.plain rfl rfl rfl rfl rfl rfl ?_ | refine EvO.nil ?_ | refine at_normal ?_ | refine EvO.plainOn rfl rfl rfl rfl rfl rfl ?_)
          refine EvC.cond (t := false) rfl (fun e => nomatch e) (fun _ => ?_)
          obtain ⟨v0, v1, v2, v3, v4⟩ := hv
          obtain ⟨N, rfl⟩ : ∃ N : Nat, n = N := ⟨n.toNat, by omega⟩
          have f5 := load1 (T := TT gt) (t := 3) (off := 0) hb4 rfl rfl rfl
          repeat (first | refine EvO.plain rfl rfl rfl rfl rfl rfl ?_ | refine EvO.plain rfl rfl rfl rfl rfl (by assumption) ?_ | refine EvC.seq ?_ | refine EvC.region rfl ?_ | refine at_normal ?_ | refine EvC.skip ?_)
          clear f5
          have S4 := HS.all hw4
          (refine EvO.cons rfl rfl rfl (EvP.newC S4 1 rfl (make_vec (T := TT gt) (n := N) (t := 25) rfl rfl rfl (by omega) (by show ((N : Nat) : Int) * (1 : Nat) ≤ ((70368744177664 : Nat) : Int); omega)) (by decide) (fun h5 id col5 A5 S5 g5 c5 _ => ?_)))
          have V5 : Vec col5 1 h5 4 1 (.slice id 0 N N true) N (List.replicate N (.bool false)) := .mk (tail := []) (by rw [List.append_nil, ← rep_one]; exact g5) c5 (by simp) (fun _ => ⟨Nat.le_refl _, by simp⟩)
          repeat (first | refine EvO.plain rfl rfl rfl rfl rfl rfl ?_ | refine EvC.seq ?_ | refine EvC.region rfl ?_ | refine EvO.nil ?_ | refine at_normal ?_)
          (refine EvO.cons rfl rfl rfl (EvP.copyC S5 V5 (by decide) (hM.mono (AH.le.trans' hg''.le S5.le)) nm (fun _ _ => rfl) rfl rfl rfl rfl rfl rfl rfl rfl (fun h6 A6 S6 V6 => ?_)))
          have hcells : (List.range (Nat.min M.length N)).map (fun i => AV.bool (M.getD i false)) ++ (List.replicate N (AV.bool false)).drop (Nat.min M.length N) = (M.take N ++ List.replicate (N - M.length) false).map AV.bool := by
            apply List.ext_getElem?
            intro i
            have hmin : Nat.min M.length N = min M.length N := rfl
            rw [hmin]
            rcases Nat.lt_or_ge i (min M.length N) with h1 | h1
            · rw [List.getElem?_append_left (by simpa using h1), List.getElem?_map, List.getElem?_range h1, List.getElem?_map, List.getElem?_append_left (by simp; omega), List.getElem?_take, if_pos (by omega)]
              show some (AV.bool (M.getD i false)) = Option.map AV.bool M[i]?
              rw [List.getD_eq_getElem?_getD, List.getElem?_eq_getElem (by omega)]
              rfl
            · rw [List.getElem?_append_right (by simpa using h1), List.getElem?_drop, List.getElem?_map, List.getElem?_append_right (by simp; omega)]
              simp only [List.length_map, List.length_range, List.length_take, List.getElem?_replicate]
              by_cases h2 : i < N
              · rw [if_pos (by omega), if_pos (by omega)]; rfl
              · rw [if_neg (by omega), if_neg (by omega)]; rfl
          rw [hcells] at V6
          have hBl : (M.take N ++ List.replicate (N - M.length) false).length = N := by simp; omega
          generalize M.take N ++ List.replicate (N - M.length) false = B at *
          have hBrow : BoolRow h6 (.slice id 0 N N true) B := by
            have := V6.row
            rw [← hBl] at this ⊢
            refine this.congr fun i hi => ?_
            rw [Nat.mul_one, List.take_one, List.head?_drop, List.getElem?_map, List.getElem?_eq_getElem hi, List.getD_eq_getElem?_getD, List.getElem?_eq_getElem hi]
            rfl
          have hle6 : h.le h6 := AH.le.trans' hg''.le S6.le
          have f6 := load1 (T := TT gt) (t := 22) (off := 1) (S6.le _ _ hb4) rfl rfl rfl
          repeat (first | refine EvO.plain rfl rfl rfl rfl rfl rfl ?_ | refine EvO.plain rfl rfl rfl rfl rfl (by assumption) ?_ | refine EvC.seq ?_ | refine EvC.region rfl ?_ | refine EvO.nil ?_ | refine at_normal ?_)
          (refine EvO.cons rfl rfl rfl (EvP.callF rfl rfl rfl rfl (EvF.mono (refAll_spec (facts gt) (C.mono hle6) hBrow (by omega) (fun i hi x hx => by rw [hBl]; exact v4 i hi x hx)) ?_)))
          rintro _ h7 _ ⟨rfl, rfl⟩
          have hno : ¬ allB L B := fun e => by
            refine refutes_sound (m := B) (L := L) (P := P) (fun c hc x hx => ?_) (fun c hc x hx => ?_) hr fun c hc => ?_
            · obtain ⟨i, hi, rfl⟩ := List.getElem_of_mem hc
              rw [hBl]
              refine v4 i hi x ?_
              rw [List.getD_eq_getElem?_getD, List.getElem?_eq_getElem hi]; exact hx
            · obtain ⟨i, hi, rfl⟩ := List.getElem_of_mem hc
              rw [hBl]
              refine hok.2 i hi x ?_
              rw [List.getD_eq_getElem?_getD, List.getElem?_eq_getElem hi]; exact hx
            · obtain ⟨i, hi, rfl⟩ := List.getElem_of_mem hc
              have := e i hi
              rwa [List.getD_eq_getElem?_getD, List.getElem?_eq_getElem hi] at this
          rw [decide_eq_false hno]
          clear f6
          repeat (refine EvO.plain rfl rfl rfl rfl rfl rfl ?_)
          (refine EvO.on rfl rfl rfl (EvP.callF rfl rfl rfl rfl (EvF.mono (wake) ?_)))
          rintro _ h8 _ ⟨rfl, rfl⟩
          repeat (first | refine EvO.plain rfl rfl rfl rfl rfl rfl ?_ | refine EvO.nil ?_ | refine at_normal ?_ | refine EvC.ret ?_)
          (refine ret_is (v := .bool true) rfl rfl ?_)
          rfl
      · obtain ⟨rfl, rfl⟩ := hbad hok
        refine EvO.cons rfl rfl rfl (EvP.quiet rfl (isB (q := true) rfl) ?_)
        repeat (first | refine EvO.plain rfl rfl rfl rfl rfl rfl ?_ | refine EvO.nil ?_ | refine at_normal ?_ | refine EvO.off rfl rfl rfl ?_)
        refine EvC.cond (t := true) rfl (fun _ => ?_) (fun e => nomatch e)
        repeat (first | refine EvC.seq ?_ | refine EvC.region rfl ?_)
        (refine EvO.cons rfl rfl rfl (EvP.callF rfl rfl rfl rfl (EvF.mono (wake) ?_)))
        rintro _ h5 _ ⟨rfl, rfl⟩
        repeat (first | refine EvO.plain rfl rfl rfl rfl rfl rfl ?_ | refine EvO.nil ?_ | refine at_normal ?_ | refine EvC.ret ?_ | refine at_ret ?_)
        (refine ret_is (v := .bool true) rfl rfl ?_)
        rfl
    · rw [decide_eq_false hv]
      repeat (first | refine EvO.plain rfl rfl rfl rfl rfl rfl ?_ | refine EvO.nil ?_ | refine at_normal ?_ | refine EvO.plainOn rfl rfl rfl rfl rfl rfl ?_)
      refine EvC.cond (t := true) rfl (fun _ => ?_) (fun e => nomatch e)
      repeat (first | refine EvC.seq ?_ | refine EvC.region rfl ?_)
      (refine EvO.cons rfl rfl rfl (EvP.callF rfl rfl rfl rfl (EvF.mono (wake) ?_)))
      rintro _ h4 _ ⟨rfl, rfl⟩
      repeat (first | refine EvO.plain rfl rfl rfl rfl rfl rfl ?_ | refine EvO.nil ?_ | refine at_normal ?_ | refine EvC.ret ?_ | refine at_ret ?_)
      (refine ret_is (v := .bool true) rfl rfl ?_)
      rfl
end Pf
end Go.Proofs.YtfjloafebkjadaaGreatDoor
