/- The steps of a proof. -/
import Derived.Test.YtfjloafebkjadaaGreatDoorPf4
namespace Go.Proofs.YtfjloafebkjadaaGreatDoor
namespace Pf
open Go Go.AI Go.Proofs
variable {gt : Tree (List AV)}
theorem total_snoc (L : List (List Int)) (l : List Int) : total (L ++ [l]) = total L + l.length := by simp [total]
/-- The uses are no more than the literals. -/
def Bd (S : Ch) : Prop := ∀ j, (S.uses.getD j []).length ≤ total S.all
/-- A propagation with its clauses. -/
def CS (G h : AH) (n p : Nat) (all : List (List Int)) : Prop := ∃ V col S, V.p = p ∧ S.all = all ∧ ChAt G h col n V S ∧ WFc n S ∧ S.uses.length = 2 * n + 2 ∧ Bd S ∧ (∀ x ∈ S.trail, ok n x) ∧ S.trail.length ≤ n
theorem WFc.add {n : Nat} {S : Ch} (W : WFc n S) (hU : S.uses.length = 2 * n + 2) (B : Bd S) {l : List Int} (hl : ∀ x ∈ l, ok n x) (hb : total S.all + l.length ≤ 2 ^ 36) (hm : S.all.length < 2 ^ 30) : WFc n { S with all := S.all ++ [l], uses := addUse S.all.length l S.uses } where
  oks := fun c hc => by
    have hOB := List.mem_append.1 hc
    rcases hOB with h | h
    · exact W.oks c h
    · rw [List.mem_singleton.1 h]; exact hl
  short := fun c hc => by
    have hOB := List.mem_append.1 hc
    rcases hOB with h | h
    · exact W.short c h
    · rw [List.mem_singleton.1 h]; omega
  many := by show (S.all ++ [l]).length ≤ 2 ^ 30; simp; omega
  use1 := fun x hx k hk hm' => by
    show (k : Int) ∈ (addUse S.all.length l S.uses).getD (ix x).toNat []
    have hk : k < (S.all ++ [l]).length := hk
    have hm' : x ∈ (S.all ++ [l]).getD k [] := hm'
    rw [addUse_mem l S.uses hU hl]
    rw [List.length_append] at hk
    rw [List.getD_eq_getElem?_getD] at hm'
    have hOB := Nat.lt_or_ge k S.all.length
    rcases hOB with h | h
    · rw [List.getElem?_append_left h, ← List.getD_eq_getElem?_getD] at hm'
      exact .inl (W.use1 x hx k h hm')
    · have : k = S.all.length := by simp at hk; omega
      subst this
      rw [List.getElem?_append_right (Nat.le_refl _)] at hm'
      exact .inr ⟨rfl, x, by simpa using hm', rfl⟩
  use2 := fun j u hu => by
    have hu : u ∈ (addUse S.all.length l S.uses).getD j [] := hu
    rw [addUse_mem l S.uses hU hl] at hu
    show ∃ k : Nat, u = k ∧ k < (S.all ++ [l]).length
    rw [List.length_append]
    rcases hu with h | ⟨h, _⟩
    · have hOB := W.use2 j u h
      obtain ⟨k, h1, h2⟩ := hOB
      exact ⟨k, h1, by omega⟩
    · exact ⟨S.all.length, h, by simp⟩
  ulen := fun j => by
    have := addUse_bound (k := S.all.length) l S.uses hU hl j
    have := B j
    show ((addUse S.all.length l S.uses).getD j []).length ≤ 2 ^ 50
    omega
theorem cs_le {G h : AH} {n p : Nat} {all : List (List Int)} (C : CS G h n p all) : G.le h ∧ WF h := by
  obtain ⟨V, col, S, _, _, C, _⟩ := C
  exact ⟨C.hs.le, C.hs.wf⟩
theorem cs_add {G h : AH} {n p : Nat} {all : List (List Int)} (C : CS G h n p all) {v : AV} {l : List Int} (row : IntRow G v l) (hl : ∀ x ∈ l, ok n x) (hb : total all + l.length ≤ 2 ^ 36) (hm : all.length < 2 ^ 30) :
    EvF (TT gt) X 58 [.ptr p 0, v] h (fun _ h' => CS G h' n p (all ++ [l])) := by
  obtain ⟨V, col, S, rfl, rfl, C, W, hU, B, h1, h2⟩ := C
  refine EvF.mono (add_spec C hU row hl (fun j => by have := B j; omega) (by omega)) ?_
  rintro r h' _ ⟨col', av, ra, ru, C'⟩
  refine ⟨_, col', _, ?_, ?_, C', W.add hU B hl hb hm, ?_, fun j => ?_, h1, h2⟩
  · rfl
  · rfl
  · show (addUse S.all.length l S.uses).length = _
    rw [addUse_len]; exact hU
  · show ((addUse S.all.length l S.uses).getD j []).length ≤ total (S.all ++ [l])
    rw [total_snoc]
    have := addUse_bound (k := S.all.length) l S.uses hU hl j
    have := B j
    omega
theorem cs_opp {G h : AH} {n p : Nat} {all : List (List Int)} (C : CS G h n p all) {v : AV} {l : List Int} (row : IntRow G v l) (hl : ∀ x ∈ l, ok n x) (hb : l.length ≤ 2 ^ 36) :
    EvF (TT gt) X 60 [v] h (fun r h' => ∃ G', G.le G' ∧ IntRow G' r (l.map (- ·)) ∧ CS G' h' n p all) := by
  obtain ⟨V, col, S, rfl, rfl, C, W, hU, B, h1, h2⟩ := C
  have hs := C.sml
  refine EvF.mono (opposites_spec C.hs row hb (fun x hx => by have := hl x hx; obtain ⟨_, h4, h5⟩ := this; omega)) ?_
  rintro r h' _ ⟨A, G', S', hle, row'⟩
  exact ⟨G', hle, row', V, col, S, rfl, rfl, C.more A S' hle, W, hU, B, h1, h2⟩
theorem cs_clash {G h : AH} {n p : Nat} {all : List (List Int)} (C : CS G h n p all) {tk : AV} {taken : List Int} (row : IntRow G tk taken) (htk : ∀ x ∈ taken, ok n x) (hb : taken.length ≤ 2 ^ 36) :
    EvF (TT gt) X 59 [.ptr p 0, tk] h (fun r h' => ∃ k, r = .int .i64 k ∧ (k = -1 ↔ ¬ Clash all taken) ∧ CS G h' n p all) := by
  obtain ⟨V, col, S, rfl, rfl, C, W, hU, B, h1, h2⟩ := C
  refine EvF.mono (clash_spec C W h1 h2 row htk (by omega)) ?_
  rintro r h' _ ⟨k, col', tv, tr', why', rfl, hk, C', g⟩
  exact ⟨k, rfl, hk, { V with tv := tv }, col', { S with trail := tr', why := why' }, rfl, rfl, C', ⟨W.oks, W.short, W.many, W.use1, W.use2, W.ulen⟩, hU, B, g.oks, g.len⟩
theorem cs_begin {G h : AH} (S : HS G h (fun _ => 0)) (n : Nat) (hn : n ≤ 1000000) : EvF (TT gt) X 57 [.int .i64 n] h (fun r h' => ∃ p, r = .ptr p 0 ∧ CS G h' n p []) := by
  refine EvF.mono (begin_spec S n hn) ?_
  rintro r h' _ ⟨V, col', rfl, C⟩
  have hr : ∀ j, (List.replicate (2 * n + 2) ([] : List Int)).getD j [] = [] := fun j => by
    rw [List.getD_eq_getElem?_getD, List.getElem?_replicate]; split <;> rfl
  refine ⟨V.p, rfl, V, col', _, rfl, rfl, C, ⟨fun c hc => (by cases hc), fun c hc => (by cases hc), Nat.zero_le _, fun l _ k hk => absurd hk (Nat.not_lt_zero _), fun j u hu => ?_, fun j => ?_⟩, List.length_replicate, fun j => ?_, fun x hx => (by cases hx), Nat.zero_le _⟩
  · have hu : u ∈ (List.replicate (2 * n + 2) ([] : List Int)).getD j [] := hu
    rw [hr] at hu; cases hu
  · show ((List.replicate (2 * n + 2) ([] : List Int)).getD j []).length ≤ _
    rw [hr]; simp
  · show ((List.replicate (2 * n + 2) ([] : List Int)).getD j []).length ≤ _
    rw [hr]; simp
def neg (l : List Int) : List Int := l.map (- ·)
theorem steps_spec {h : AH} (hw : WF h) {n : Nat} (hn : n ≤ 50000) {cl pv : AV} {L P : List (List Int)} {cv pc : Nat → AV} (C : CnfAt h n cl L cv) (D : CnfAt h n pv P pc) (hL : ∀ l ∈ L, ∀ x ∈ l, ok n x) (hP : ∀ l ∈ P, ∀ x ∈ l, ok n x) (hb : total L + total P ≤ 2 ^ 36) (hm : L.length + P.length ≤ 2 ^ 29) :
    EvF (TT gt) X 52 [.agg [.int .i64 n, cl], pv] h (fun r h' => (h.le h' ∧ WF h') ∧ ∃ a k, r = .tuple [a, .int .i64 k] ∧ (k = P.length ↔ ∀ i, i < P.length → Clash (L ++ P.take i) (neg (P.getD i [])))) := by
  have S0 := HS.all hw
  refine EvF.enter rfl rfl rfl ?_
  repeat (first | refine EvC.seq ?_ | refine EvC.region rfl ?_)
  (refine EvO.cons rfl rfl rfl (EvP.newR (b := .cells [.int .i64 n, cl] 24 false) (mk := .ptr) S0 rfl rfl (fun h1 b A1 S1 hle1 o1 _ _ => ?_)))
  have f1 := load1 (T := TT gt) (t := 3) (off := 0) o1 rfl rfl rfl
  repeat (first | refine EvO.plain rfl rfl rfl rfl rfl rfl ?_ | refine EvO.plain rfl rfl rfl rfl rfl (by assumption) ?_ | refine EvC.seq ?_ | refine EvC.region rfl ?_ | refine EvO.nil ?_ | refine at_normal ?_)
  (refine EvO.cons rfl rfl rfl (EvP.callF rfl rfl rfl rfl (EvF.mono (cs_begin S1 n (by omega)) ?_)))
  rintro _ h2 hn2 ⟨p, rfl, C2⟩
  have ln1 := C.rows.len_any (T := TT gt) (t := 22) rfl h2
  have f2 : aload (TT gt) h2 22 (.ptr b 1) = some cl := by
    have o2 := (cs_le C2).1 _ _ (AH.get_add h b (.cells [.int .i64 n, cl] 24 false))
    exact load1 o2 rfl rfl rfl
  repeat (first | refine EvO.plain rfl rfl rfl rfl rfl rfl ?_ | refine EvO.plain rfl rfl rfl rfl rfl (by assumption) ?_ | refine EvC.seq ?_ | refine EvC.region rfl ?_ | refine EvO.nil ?_ | refine at_normal ?_ | refine EvC.block ?_)
  clear f1 f2 ln1
  refine EvC.loop (fun m σ h' => ∃ (i : Nat) (E : Nat → AV), CS (h.add b (.cells [.int .i64 n, cl] 24 false)) h' n p (L.take i) ∧ i ≤ L.length ∧ m = L.length - i ∧ σ = upds [(1, pv), (6, .ptr p 0), (15, cl), (16, .int .i64 L.length), (17, .int .i64 i)] E) (L.length) ?_ ?_
  · exact ⟨0, _, C2, Nat.zero_le _, rfl, hold ⟨rfl, rfl, rfl, rfl, rfl, trivial⟩⟩
  · rintro m _ h3 ⟨i, E, C3, hi, rfl, rfl⟩
    clear C2
    have hle3 : h.le h3 := fun i' o' e' => (cs_le C3).1 _ _ (hle1 _ _ e')
    repeat (first | refine EvO.plain rfl rfl rfl rfl rfl rfl ?_ | refine EvC.seq ?_ | refine EvC.region rfl ?_ | refine EvO.nil ?_ | refine at_normal ?_)
    refine EvC.decide rfl (fun hc => ?_) (fun hc => ?_)
    · have hlt : i < L.length := by omega
      have hlm := getDL_mem hlt
      have hOB := (C.rows.mono hle3).at1 (T := TT gt) (t := 22) (e := 35) rfl rfl rfl rfl (k := .i64) (i := i) (by omega) (by omega)
      obtain ⟨q, b1, b2⟩ := hOB
      rw [Int.toNat_natCast] at b2
      have ht := total_take hlt
      have ht2 := total_le L (i + 1)
      repeat (first | refine EvO.plain rfl rfl rfl rfl rfl rfl ?_ | refine EvO.plain rfl rfl rfl rfl rfl (by assumption) ?_ | refine EvC.seq ?_ | refine EvC.region rfl ?_ | refine EvO.nil ?_ | refine at_normal ?_ | refine EvC.skip ?_ | refine EvC.block ?_)
      (refine EvO.cons rfl rfl rfl (EvP.callF rfl rfl rfl rfl (EvF.mono (cs_add C3 ((C.ints i hlt).mono hle1) (hL _ hlm) (by omega) (by rw [List.length_take]; omega)) ?_)))
      rintro _ h4 _ C4
      clear b1 b2
      repeat (first | refine EvO.plain rfl rfl rfl rfl rfl rfl ?_ | refine EvC.region rfl ?_ | refine EvO.nil ?_ | refine at_normal ?_ | refine be_normal ?_ | refine ro_normal ?_ | refine EvO.cons rfl rfl rfl (EvP.add64 rfl rfl (by omega) ?_))
      refine ⟨L.length - (i + 1), by omega, i + 1, _, ?_, by omega, rfl, hold ⟨rfl, rfl, rfl, rfl, rfl, trivial⟩⟩
      have hs : L.take (i + 1) = L.take i ++ [L.getD i []] := by
        rw [List.take_add_one, List.getD_eq_getElem?_getD, List.getElem?_eq_getElem hlt]; rfl
      rw [hs]; exact C4
    · have hend : i = L.length := by omega
      subst hend
      rw [List.take_length] at C3
      have ln2 := D.rows.len_any (T := TT gt) (t := 22) rfl h3
      repeat (first | refine EvO.plain rfl rfl rfl rfl rfl rfl ?_ | refine EvO.plain rfl rfl rfl rfl rfl (by assumption) ?_ | refine EvC.seq ?_ | refine EvC.region rfl ?_ | refine EvO.nil ?_ | refine at_normal ?_ | refine EvC.block ?_ | refine EvC.exit ?_ | refine at_exit ?_ | refine be_same rfl ?_ | refine ro_exit ?_)
      clear ln2
      refine EvC.loop (fun m σ h' => ∃ (i : Nat) (G' : AH) (E : Nat → AV), h.le G' ∧ CS G' h' n p (L ++ P.take i) ∧ (∀ j, j < i → Clash (L ++ P.take j) (neg (P.getD j []))) ∧ i ≤ P.length ∧ m = P.length - i ∧ σ = upds [(1, pv), (6, .ptr p 0), (25, pv), (26, .int .i64 P.length), (27, .int .i64 i)] E) (P.length) ?_ ?_
      · exact ⟨0, _, _, hle1, by rw [List.take_zero, List.append_nil]; exact C3, fun j hj => absurd hj (Nat.not_lt_zero _), Nat.zero_le _, rfl, hold ⟨rfl, rfl, rfl, rfl, rfl, trivial⟩⟩
      · clear C3 hle3
        rintro m _ h4 ⟨i, G', E, hlG, C4, hj, hi, rfl, rfl⟩
        have hle4 : h.le h4 := fun i' o' e' => (cs_le C4).1 _ _ (hlG _ _ e')
        have ln2 := D.rows.len_any (T := TT gt) (t := 22) rfl h4
        repeat (first | refine EvO.plain rfl rfl rfl rfl rfl rfl ?_ | refine EvC.seq ?_ | refine EvC.region rfl ?_ | refine EvO.nil ?_ | refine at_normal ?_)
        refine EvC.decide rfl (fun hc => ?_) (fun hc => ?_)
        · have hlt : i < P.length := by omega
          have hlm := getDL_mem hlt
          have hOB := (D.rows.mono hle4).at1 (T := TT gt) (t := 22) (e := 35) rfl rfl rfl rfl (k := .i64) (i := i) (by omega) (by omega)
          obtain ⟨q, b1, b2⟩ := hOB
          rw [Int.toNat_natCast] at b2
          have ht := total_take hlt
          have ht2 := total_le P (i + 1)
          have row4 : IntRow G' (pc i) (P.getD i []) := (D.ints i hlt).mono hlG
          repeat (first | refine EvO.plain rfl rfl rfl rfl rfl rfl ?_ | refine EvO.plain rfl rfl rfl rfl rfl (by assumption) ?_ | refine EvC.seq ?_ | refine EvC.region rfl ?_ | refine EvO.nil ?_ | refine at_normal ?_ | refine EvC.skip ?_ | refine EvC.block ?_)
          clear b1 b2
          (refine EvO.cons rfl rfl rfl (EvP.callF rfl rfl rfl rfl (EvF.mono (cs_opp C4 row4 (hP _ hlm) (by omega)) ?_)))
          rintro r5 h5 _ ⟨G5, hlG5, row5, C5⟩
          skip
          (refine EvO.cons rfl rfl rfl (EvP.callF rfl rfl rfl rfl (EvF.mono (cs_clash C5 row5 (fun x hx => by obtain ⟨y, hy, rfl⟩ := List.mem_map.1 hx; exact ok_neg (hP _ hlm y hy)) (by rw [List.length_map]; omega)) ?_)))
          rintro _ h6 _ ⟨k, rfl, hk, C6⟩
          repeat (first | refine EvO.plain rfl rfl rfl rfl rfl rfl ?_ | refine EvO.nil ?_ | refine at_normal ?_)
          have hle6 : h.le h6 := fun i' o' e' => (cs_le C6).1 _ _ (hlG5 _ _ (hlG _ _ e'))
          by_cases hk1 : k = -1
          · refine EvC.cond (t := true) (isT (beq_true hk1)) (fun _ => ?_) (fun e => nomatch e)
            repeat (first | refine EvO.plain rfl rfl rfl rfl rfl rfl ?_ | refine EvC.seq ?_ | refine EvC.region rfl ?_ | refine EvO.nil ?_ | refine at_normal ?_ | refine EvC.ret ?_ | refine at_ret ?_ | refine be_ret ?_ | refine ro_ret ?_)
            (refine ret_are (vs := [.ptr p 0, .int .i64 i]) rfl rfl ?_)
            refine ⟨⟨hle6, (cs_le C6).2⟩, _, i, rfl, fun e => ?_, fun e => ?_⟩
            · omega
            · exact absurd (e i hlt) (hk.1 hk1)
          · refine EvC.cond (t := false) (isT (beq_false hk1)) (fun e => nomatch e) (fun _ => ?_)
            have hcl : Clash (L ++ P.take i) (neg (P.getD i [])) := Classical.byContradiction fun e => hk1 (hk.2 e)
            repeat (first | refine EvO.plain rfl rfl rfl rfl rfl rfl ?_ | refine EvC.region rfl ?_ | refine at_normal ?_ | refine EvC.skip ?_)
            have hlim : total (L ++ P.take i) = total L + total (P.take i) := by simp [total]
            (refine EvO.cons rfl rfl rfl (EvP.callF rfl rfl rfl rfl (EvF.mono (cs_add C6 (row4.mono hlG5) (hP _ hlm) (by rw [hlim]; omega) (by rw [List.length_append, List.length_take]; omega)) ?_)))
            rintro _ h7 _ C7
            repeat (first | refine EvO.plain rfl rfl rfl rfl rfl rfl ?_ | refine EvC.region rfl ?_ | refine EvO.nil ?_ | refine at_normal ?_ | refine be_normal ?_ | refine ro_normal ?_ | refine EvO.cons rfl rfl rfl (EvP.add64 rfl rfl (by omega) ?_))
            refine ⟨P.length - (i + 1), by omega, i + 1, G5, _, fun i' o' e' => hlG5 _ _ (hlG _ _ e'), ?_, fun j hj' => ?_, by omega, rfl, hold ⟨rfl, rfl, rfl, rfl, rfl, trivial⟩⟩
            · have hs : P.take (i + 1) = P.take i ++ [P.getD i []] := by
                rw [List.take_add_one, List.getD_eq_getElem?_getD, List.getElem?_eq_getElem hlt]; rfl
              rw [hs, ← List.append_assoc]; exact C7
            · have hOB := Nat.lt_or_ge j i
              rcases hOB with h | h
              · exact hj j h
              · have hOB : j = i := by omega
                obtain rfl := hOB
                exact hcl
        · have hend : i = P.length := by omega
          subst hend
          repeat (first | refine EvO.plain rfl rfl rfl rfl rfl rfl ?_ | refine EvO.plain rfl rfl rfl rfl rfl (by assumption) ?_ | refine EvC.seq ?_ | refine EvC.region rfl ?_ | refine EvO.nil ?_ | refine at_normal ?_ | refine EvC.ret ?_ | refine EvC.exit ?_ | refine at_exit ?_ | refine be_same rfl ?_ | refine ro_exit ?_)
          (refine ret_are (vs := [.ptr p 0, .int .i64 P.length]) rfl rfl ?_)
          exact ⟨⟨hle4, (cs_le C4).2⟩, _, _, rfl, fun _ => hj, fun _ => rfl⟩
end Pf
end Go.Proofs.YtfjloafebkjadaaGreatDoor
