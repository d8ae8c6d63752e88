/- Parts of rows; a literal put at its place; the reference's resolvent. -/
import Derived.Test.YtfjloafebkjadaaGreatDoorPgM
import Derived.Test.YtfjloafebkjadaaGreatDoorPgC
namespace Go.Proofs.YtfjloafebkjadaaGreatDoor
namespace Pf
open Go Go.AI Go.Proofs
variable {gt : Tree (List AV)}
theorem publishV {G h h1 : AH} {col col1 : Nat → Nat} {R : Nat → Prop} {c : Nat} {e sz n : Nat} {v : AV} {cs : List AV} (S : HS G h col) (A : Step R (fun _ => 0) h col1 h1) (h0 : ¬ R 0) (V : Vec col1 c h1 e sz v n cs) (hc : c ≠ 0) : ∃ G', HS G' h1 col ∧ G.le G' ∧ Vec (fun _ => 0) 0 G' e sz v n cs := by
  have S1 := HS.hide S A h0
  cases V with
  | nil => exact ⟨G, S1, fun _ _ e => e, .nil⟩
  | @mk id _ cap ex _ tail hg hc' hn hx =>
    have hid : h.next ≤ id := by
      rcases Nat.lt_or_ge id h.next with hl | hl
      · have := A.old id hl
        rw [this] at hc'
        exact absurd hc'.symm hc
      · exact hl
    exact ⟨G.add id _, S1.add hg (S.fresh id hid), S1.le_add hg, .mk (AH.get_add ..) rfl hn hx⟩
/-- Parts of a row of whole numbers. -/
theorem vec_parts {col : Nat → Nat} {c : Nat} {h : AH} {v : AV} {l : List Int} {i : Nat} (V : Vec col c h 3 1 v l.length (l.map (AV.int .i64))) (hi : i ≤ l.length) :
    (∃ v', aslice (TT gt) h 35 v none (some (.int .i64 i)) none = some v' ∧ RowOf h 1 v' i (fun j => [.int .i64 ((l.take i).getD j 0)]) ∧ (alenOf v' = some i ∧ afirst h 1 i v' = some ((l.take i).map (AV.int .i64)))) ∧
    (∃ v', aslice (TT gt) h 35 v (some (.int .i64 i)) none none = some v' ∧ (alenOf v' = some (l.length - i) ∧ afirst h 1 (l.length - i) v' = some ((l.drop i).map (AV.int .i64)))) := by
  generalize hN : l.length = N at V
  generalize hC : l.map (AV.int .i64) = C at V
  cases V with
  | nil =>
    obtain rfl : i = 0 := by omega
    have : l = [] := List.eq_nil_of_length_eq_zero hN
    subst this
    exact ⟨⟨.nilSlice, rfl, .nil, rfl, rfl⟩, ⟨.nilSlice, rfl, rfl, rfl⟩⟩
  | @mk id _ cap ex _ tail hg hc hn hx =>
    subst hC
    rw [hN] at hi
    have hx' : ex = true → N ≤ cap ∧ (l.map (AV.int .i64) ++ tail).length = cap * 1 := hx
    obtain ⟨c1, s1, _⟩ := cut_to (gt := gt) hg hx' (by simp; omega) hi
    have hs1 : sub (l.map (AV.int .i64) ++ tail) 0 (i * 1) = some ((l.take i).map (AV.int .i64)) := by
      unfold sub
      rw [if_pos (by simp; omega), List.drop_zero, Nat.mul_one, List.take_append_of_le_length (by simp; omega), List.map_take]
    refine ⟨⟨_, s1, .mk (cs := l.map (AV.int .i64) ++ tail) (by unfold cellsOf; rw [hg]) fun j hj => ?_, rfl, ?_⟩, ?_⟩
    · rw [Nat.zero_add, Nat.mul_one]
      unfold sub
      rw [if_pos (by simp; omega), List.take_one, List.head?_drop, List.getElem?_append_left (by simp; omega), List.getElem?_map, List.getD_eq_getElem?_getD, List.getElem?_take_of_lt hj, List.getElem?_eq_getElem (by omega)]
      rfl
    · simp only [afirst, cellsOf, hg]; exact hs1
    · rcases Nat.lt_or_ge i N with hlt | hge
      · obtain ⟨c2, s2⟩ := cut_from (gt := gt) hg hx' (by simp; omega) hlt
        refine ⟨_, s2, rfl, ?_⟩
        simp only [afirst, cellsOf, hg, sub, Nat.mul_one]
        rw [if_pos (by simp; omega)]
        congr 1
        rw [List.drop_append_of_le_length (by simp; omega), List.take_append_of_le_length (by simp; omega), List.map_drop, List.take_of_length_le (by simp; omega)]
      · obtain rfl : i = N := by omega
        have e0 : l.drop i = [] := List.drop_eq_nil_of_le (by omega)
        rw [Nat.sub_self, e0]
        have b : ∀ c, bounds i c (some (.int .i64 i)) none none = some (i, i, c) := fun c => by
          show (match (if (0 : Int) ≤ (i : Int) ∧ (i : Int) ≤ (i : Int) then some ((i : Int)).toNat else none) with | none => none | some l => some (l, i, c)) = _
          rw [if_pos (by omega)]; rfl
        have fin : ∀ o, o ≤ (l.map (AV.int .i64) ++ tail).length → ∀ cap' ex', alenOf (.slice id o 0 cap' ex') = some 0 ∧ afirst h 1 0 (.slice id o 0 cap' ex') = some (([] : List Int).map (AV.int .i64)) := fun o ho cap' ex' => ⟨rfl, by
          simp only [afirst, cellsOf, hg, sub, Nat.zero_mul, Nat.add_zero]
          rw [if_pos ho]; simp⟩
        cases ex with
        | true =>
          refine ⟨.slice id (if cap = i then 0 else 0 + i * 1) (i - i) (cap - i) true, ?_, ?_⟩
          · show cut id 0 1 (bounds i cap (some (.int .i64 i)) none none) = _
            rw [b]; rfl
          · rw [Nat.sub_self]
            exact fin _ (by split <;> simp <;> omega) _ _
        | false =>
          have hal : aslice (TT gt) h 35 (.slice id 0 i cap false) (some (.int .i64 i)) none none = if i = (l.map (AV.int .i64) ++ tail).length ∧ 0 < i then some .eslice else some (.slice id i (i - i) 0 false) := by
            show (match some ti3, ownOf h id with
              | some ie, some (cs, el) =>
                if ie.size = 0 ∨ szOf (TT gt) el ≠ ie.size ∨ cs.length < 0 then none else
                match bounds i ((cs.length - 0) / ie.size) (some (.int .i64 i)) none none with
                | some (l, hi, mm) => if (cs.length - 0) / ie.size < hi then none else if l = (cs.length - 0) / ie.size ∧ 0 < l then some AV.eslice else some (AV.slice id (0 + l * ie.size) (hi - l) 0 false)
                | none => none
              | _, _ => none) = _
            have hs : szOf (TT gt) 3 = 1 := rfl
            have h1 : ti3.size = 1 := rfl
            simp only [ownOf, hg, hs, h1, b, Nat.sub_zero, Nat.div_one, Nat.zero_add, Nat.mul_one]
            rw [if_neg (by omega), if_neg (by simp; omega)]
          by_cases e : i = (l.map (AV.int .i64) ++ tail).length ∧ 0 < i
          · rw [if_pos e] at hal
            exact ⟨_, hal, rfl, rfl⟩
          · rw [if_neg e, Nat.sub_self] at hal
            exact ⟨_, hal, fin _ (by simp; omega) _ _⟩
/-- An append of so many cells, of none too. -/
theorem EvP_appendAny {T : Tab} {X : Oracle} {σ : Nat → AV} {h G : AH} {col : Nat → Nat} {cl : Call} {s y : Operand} {ts : List TypeId} {c : Nat} {e m k : Nat} {v x : AV} {cs new : List AV} {t xt e2 : TypeId} {ei : TInfo} {Q : AV → AH → Prop} (S : HS G h col) (V : Vec col c h e 1 v m cs) (h0 : c ≠ 0) (hx : alenOf x = some k ∧ afirst h 1 k x = some new) (hsc : new.all Go.AI.scalar = true) (hnl : new.length = k)
    (hcl : cl.callee = .builtin .append) (hts : cl.argTypes.toList = t :: xt :: ts) (hargs : cl.args.toList = [s, y]) (hv : evf σ s = v) (hy : evf σ y = x)
    (ht : descOf T t = .slice e) (hxt : descOf T xt = .slice e2) (hei : T.tt.get e = some ei) (hsz : ei.size = 1) (hz : ei.zero.length = 1) (hb : (m + k) * ei.bytes ≤ maxBytes) (hq : m + k ≤ 2 ^ 40)
    (H : ∀ v' h1 col1, Step (fun x => x = c) col h col1 h1 → HS G h1 col1 → Vec col1 c h1 e 1 v' (m + k) (cs ++ new) → Q v' h1) : EvP T X (.call cl) σ h Q := by
  rcases Nat.eq_zero_or_pos k with rfl | hk
  · obtain rfl : new = [] := List.eq_nil_of_length_eq_zero hnl
    have V0 : Vec col c h e 1 v (m + 0) (cs ++ []) := by simpa using V
    refine EvP.eff (v := v) (h' := h) (by simp only [kindOf, hcl]) ?_ (Nat.le_refl _) (H v h col (Step.refl S) S V0)
    have hap : aappend T h t xt v x = some (v, h) := by
      cases V with
      | nil => simp [aappend, ht, hxt, hei, hsz, hx.1, hx.2]
      | @mk id _ cap ex _ tail hg hc hn hxx =>
        cases ex with
        | true => simp [aappend, ht, hxt, hei, hsz, hx.1, hx.2, (hxx rfl).1]
        | false =>
          have hs : szOf T e = 1 := by simp [szOf, hei, hsz]
          simp [aappend, ht, hxt, hei, hsz, hx.1, hx.2, ownOf, hg, hs]
          omega
    simp only [feff, hcl, hts, hargs, hv, hy, hap, rb, Option.map_some]
  · exact EvP.appendC S V h0 hcl hts hargs hv hy ht hxt hei hsz (by decide) hz hx.1 hx.2 (by omega) hk hsc hb hq H
theorem has_spec {h : AH} {v : AV} {l : List Int} (row : IntRow h v l) (x : Int) (hl : l.length ≤ 2 ^ 50) :
    EvF (TT gt) X 96 [v, .int .i64 x] h (fun r h' => h' = h ∧ r = .bool (decide (x ∈ l))) := by
  have ln := row.len (T := TT gt) (t := 35) rfl
  refine EvF.enter rfl rfl rfl ?_
  repeat (first | refine EvO.plain rfl rfl rfl rfl rfl rfl ?_ | refine EvO.plain rfl rfl rfl rfl rfl (by assumption) ?_ | refine EvC.seq ?_ | refine EvC.region rfl ?_ | refine EvO.nil ?_ | refine at_normal ?_ | refine EvC.block ?_)
  refine EvC.loop (fun m σ h' => h' = h ∧ ∃ (i : Nat) (E : Nat → AV), i ≤ l.length ∧ x ∉ l.take i ∧ m = l.length - i ∧ σ = upds [(1, .int .i64 x), (7, v), (8, .int .i64 l.length), (9, .int .i64 i)] E) (l.length) ?_ ?_
  · exact ⟨rfl, 0, _, Nat.zero_le _, by simp, rfl, hold ⟨rfl, rfl, rfl, rfl, trivial⟩⟩
  · rintro m _ h ⟨rfl, i, E, hi, hx, rfl, rfl⟩
    repeat (first | refine EvO.plain rfl rfl rfl rfl rfl rfl ?_ | refine EvC.seq ?_ | refine EvC.region rfl ?_ | refine EvO.nil ?_ | refine at_normal ?_)
    refine EvC.decide rfl (fun hc => ?_) (fun hc => ?_)
    · have hlt : i < l.length := by omega
      obtain ⟨q, b1, b2⟩ := row.at1 (T := TT gt) (t := 35) (e := 3) rfl rfl rfl rfl (k := .i64) (i := i) (by omega) (by omega)
      rw [Int.toNat_natCast] at b2
      repeat (first | refine EvO.plain rfl rfl rfl rfl rfl rfl ?_ | refine EvO.plain rfl rfl rfl rfl rfl (by assumption) ?_ | refine EvC.seq ?_ | refine EvC.region rfl ?_ | refine EvO.nil ?_ | refine at_normal ?_ | refine EvC.skip ?_ | refine EvC.block ?_)
      by_cases e : x = l.getD i 0
      · refine EvC.cond (t := true) (isT (beq_true e)) (fun _ => ?_) (fun e => nomatch e)
        repeat (first | refine EvO.plain rfl rfl rfl rfl rfl rfl ?_ | refine EvC.seq ?_ | refine EvC.region rfl ?_ | refine EvO.nil ?_ | refine at_normal ?_ | refine EvC.ret ?_ | refine at_ret ?_ | refine be_ret ?_ | refine ro_ret ?_)
        (refine ret_is (v := .bool true) rfl rfl ?_)
        exact ⟨rfl, congrArg AV.bool (decide_eq_true (by rw [e]; exact getD_mem hlt)).symm⟩
      · refine EvC.cond (t := false) (isT (beq_false e)) (fun e => nomatch e) (fun _ => ?_)
        repeat (first | refine EvO.plain rfl rfl rfl rfl rfl rfl ?_ | refine EvC.region rfl ?_ | refine EvO.nil ?_ | refine at_normal ?_ | refine EvC.skip ?_ | refine be_normal ?_ | refine ro_normal ?_ | refine EvO.cons rfl rfl rfl (EvP.add64 rfl rfl (by omega) ?_))
        refine ⟨l.length - (i + 1), by omega, rfl, i + 1, _, by omega, ?_, rfl, hold ⟨rfl, rfl, rfl, rfl, trivial⟩⟩
        rw [take_next hlt]
        simp only [List.mem_append, List.mem_singleton]
        exact fun h => h.elim hx e
    · obtain rfl : i = l.length := by omega
      rw [List.take_length] at hx
      repeat (first | refine EvO.plain rfl rfl rfl rfl rfl rfl ?_ | refine EvC.seq ?_ | refine EvC.region rfl ?_ | refine EvO.nil ?_ | refine at_normal ?_ | refine EvC.ret ?_ | refine EvC.exit ?_ | refine at_exit ?_ | refine be_same rfl ?_ | refine ro_exit ?_)
      (refine ret_is (v := .bool false) rfl rfl ?_)
      exact ⟨rfl, congrArg AV.bool (decide_eq_false hx).symm⟩
end Pf
end Go.Proofs.YtfjloafebkjadaaGreatDoor
namespace Go.Proofs.YtfjloafebkjadaaGreatDoor
namespace Pf
open Go Go.AI Go.Proofs
variable {gt : Tree (List AV)}
theorem key_abs {y x : Int} (h : y ≠ x) : key y < key x ↔ absI y < absI x ∨ (y = -x ∧ y < 0) := by
  unfold key absI; split <;> split <;> split <;> split <;> omega
theorem ints_scalar (l : List Int) : (l.map (AV.int .i64)).all Go.AI.scalar = true := by
  rw [List.all_eq_true]
  intro u hu
  obtain ⟨y, _, rfl⟩ := List.mem_map.1 hu
  rfl
theorem sortK_put {l : List Int} {x : Int} {i : Nat} (hs : SortK l) (hx : x ∉ l) (h1 : ∀ j, j < i → key (l.getD j 0) < key x) (h2 : i < l.length → ¬ key (l.getD i 0) < key x) (hi : i ≤ l.length) : SortK (l.take i ++ [x] ++ l.drop i) := by
  have hl := hs
  rw [← List.take_append_drop i l] at hl
  obtain ⟨p1, p2, p3⟩ := List.pairwise_append.1 hl
  have lo : ∀ y ∈ l.take i, key y < key x := fun y hy => by
    obtain ⟨j, hj, rfl⟩ := List.getElem_of_mem hy
    simp only [List.length_take] at hj
    have := h1 j (by omega)
    rwa [List.getD_eq_getElem?_getD, List.getElem?_eq_getElem (by omega), Option.getD_some, ← List.getElem_take (h := by simp; omega)] at this
  have hi2 : ∀ z ∈ l.drop i, key x < key z := by
    rcases Nat.lt_or_ge i l.length with hlt | hge
    · rw [List.drop_eq_getElem_cons hlt] at p2 ⊢
      have e : l.getD i 0 = l[i] := by rw [List.getD_eq_getElem?_getD, List.getElem?_eq_getElem hlt]; rfl
      have h3 := h2 hlt
      rw [e] at h3
      have hne : key l[i] ≠ key x := fun h' => hx (by rw [← key_inj h']; exact List.getElem_mem hlt)
      have h4 : key x < key l[i] := by omega
      intro z hz
      rcases List.mem_cons.1 hz with rfl | hz
      · exact h4
      · have := (List.pairwise_cons.1 p2).1 z hz
        omega
    · rw [List.drop_eq_nil_of_le hge]; intro z hz; cases hz
  refine List.pairwise_append.2 ⟨sortK_append p1 lo, p2, fun y hy z hz => ?_⟩
  rcases List.mem_append.1 hy with hy | hy
  · exact p3 y hy z hz
  · rw [List.mem_singleton.1 hy]; exact hi2 z hz
set_option maxHeartbeats 4000000 in
theorem put_spec {G h : AH} {col : Nat → Nat} (S : HS G h col) {v : AV} {l : List Int} (V : Vec (fun _ => 0) 0 G 3 1 v l.length (l.map (AV.int .i64))) (hs : SortK l) (x : Int) (hx : -1000000 ≤ x ∧ x ≤ 1000000) (hr : ∀ y ∈ l, -1000000 ≤ y ∧ y ≤ 1000000) (hl : l.length ≤ 2 ^ 37) :
    EvF (TT gt) X 97 [v, .int .i64 x] h (fun r h' => Step (fun _ => False) col h col h' ∧ ∃ G' l', HS G' h' col ∧ G.le G' ∧ Vec (fun _ => 0) 0 G' 3 1 r l'.length (l'.map (AV.int .i64)) ∧ SortK l' ∧ (∀ y, y ∈ l' ↔ y = x ∨ y ∈ l) ∧ l'.length ≤ l.length + 1) := by
  have S0 : HS G h (fun _ => 0) := ⟨S.wf, S.le, fun _ _ _ => rfl, fun _ _ => rfl⟩
  have row : IntRow G v l := row_ints V.row
  have ll := fun h' => RowOf.len_any (T := TT gt) (t := 35) row rfl h'
  refine EvF.enter rfl rfl rfl ?_
  repeat (first | refine EvO.plain rfl rfl rfl rfl rfl rfl ?_ | refine EvC.seq ?_ | refine EvC.region rfl ?_ | refine EvO.nil ?_ | refine at_normal ?_)
  (refine EvO.cons rfl rfl rfl (EvP.callF rfl rfl rfl rfl (EvF.mono (has_spec (RowOf.mono S.le row) x (by omega)) ?_)))
  rintro _ h _ ⟨rfl, rfl⟩
  by_cases hin : x ∈ l
  · rw [decide_eq_true hin]
    repeat (first | refine EvO.nil ?_ | refine at_normal ?_)
    refine EvC.cond (t := true) rfl (fun _ => ?_) (fun e => nomatch e)
    repeat (first | refine EvO.plain rfl rfl rfl rfl rfl rfl ?_ | refine EvC.seq ?_ | refine EvC.region rfl ?_ | refine EvO.nil ?_ | refine at_normal ?_ | refine EvC.ret ?_ | refine at_ret ?_)
    (refine ret_is (v := v) rfl rfl ?_)
    exact ⟨Step.refl S, G, l, S, fun _ _ e => e, V, hs, fun y => ⟨.inr, fun h => h.elim (fun e => e ▸ hin) id⟩, by omega⟩
  · rw [decide_eq_false hin]
    repeat (first | refine EvO.nil ?_ | refine at_normal ?_)
    refine EvC.cond (t := false) rfl (fun e => nomatch e) (fun _ => ?_)
    repeat (first | refine EvO.plain rfl rfl rfl rfl rfl rfl ?_ | refine EvC.seq ?_ | refine EvC.region rfl ?_ | refine EvO.nil ?_ | refine at_normal ?_ | refine EvC.skip ?_ | refine EvC.block ?_)
    refine EvC.loop (fun m σ h' => h' = h ∧ ∃ (i : Nat) (E : Nat → AV), i ≤ l.length ∧ (∀ j, j < i → key (l.getD j 0) < key x) ∧ m = l.length - i ∧ σ = upds [(0, v), (1, .int .i64 x), (5, .int .i64 i)] E) (l.length) ?_ ?_
    · exact ⟨rfl, 0, _, Nat.zero_le _, fun j hj => absurd hj (Nat.not_lt_zero _), rfl, hold ⟨rfl, rfl, rfl, trivial⟩⟩
    · rintro m _ h ⟨rfl, i, E, hi, hlo, rfl, rfl⟩
      have lh := ll h
      repeat (first | refine EvO.plain rfl rfl rfl rfl rfl rfl ?_ | refine EvO.plain rfl rfl rfl rfl rfl (by assumption) ?_ | refine EvC.seq ?_ | refine EvC.region rfl ?_)
      refine EvO.mono (fun σ h' => h' = h ∧ ∃ E, σ = upds [(0, v), (1, .int .i64 x), (5, .int .i64 i), (40, .bool (decide (i < l.length ∧ key (l.getD i 0) < key x)))] E) ?_ ?_
      · (refine EvO.cons rfl rfl rfl (EvP.bool rfl rfl (fun q1 => ?_) (fun q1 => ?_)))
        · have q1 := of_decide_eq_true q1
          have hlt : i < l.length := by omega
          obtain ⟨q, b1, b2⟩ := (RowOf.mono S.le row).at1 (T := TT gt) (t := 35) (e := 3) rfl rfl rfl rfl (k := .i64) (i := i) (by omega) (by omega)
          rw [Int.toNat_natCast] at b2
          have hne : l.getD i 0 ≠ x := fun e => hin (by rw [← e]; exact getD_mem hlt)
          have hka := key_abs hne
          have hry := hr _ (getD_mem hlt)
          repeat (first | refine EvO.plain rfl rfl rfl rfl rfl rfl ?_ | refine EvO.plainOn rfl rfl rfl rfl rfl rfl ?_ | refine EvO.plainOn rfl rfl rfl rfl rfl (by assumption) ?_)
          refine EvO.on rfl rfl rfl (EvP.callF rfl rfl rfl rfl (EvF.mono (var_spec (facts gt) (l.getD i 0) hry) ?_))
          rintro _ h _ ⟨rfl, rfl⟩
          repeat (refine EvO.plainOn rfl rfl rfl rfl rfl rfl ?_)
          refine EvO.on rfl rfl rfl (EvP.callF rfl rfl rfl rfl (EvF.mono (var_spec (facts gt) x hx) ?_))
          rintro _ h _ ⟨rfl, rfl⟩
          skip
          (refine EvO.on rfl rfl rfl (EvP.bool rfl rfl (fun q2 => ?_) (fun q2 => ?_)))
          · have q2 := of_decide_eq_true q2
            repeat (first | refine EvO.plain rfl rfl rfl rfl rfl rfl ?_ | refine EvO.nil ?_ | refine EvO.off rfl rfl rfl ?_ | refine EvO.plainOn rfl rfl rfl rfl rfl rfl ?_)
            exact ⟨rfl, _, hold ⟨rfl, rfl, rfl, congrArg AV.bool (decide_eq_true ⟨hlt, hka.2 (.inl q2)⟩).symm, trivial⟩⟩
          · have q2 := of_decide_eq_false q2
            repeat (first | refine EvO.plainOn rfl rfl rfl rfl rfl rfl ?_ | refine EvO.plainOn rfl rfl rfl rfl rfl (by assumption) ?_ | refine EvO.on rfl rfl rfl (EvP.neg64 rfl (by omega) ?_))
            by_cases e : l.getD i 0 = -x
            · refine EvO.on rfl rfl rfl (EvP.quiet rfl (isB (q := true) (beq_true e)) ?_)
              repeat (first | refine EvO.plainOn rfl rfl rfl rfl rfl rfl ?_ | refine EvO.plainOn rfl rfl rfl rfl rfl (by assumption) ?_)
              (refine EvO.on rfl rfl rfl (EvP.bool rfl rfl (fun q3 => ?_) (fun q3 => ?_)))
              · have q3 := of_decide_eq_true q3
                repeat (first | refine EvO.plain rfl rfl rfl rfl rfl rfl ?_ | refine EvO.nil ?_ | refine EvO.plainOn rfl rfl rfl rfl rfl rfl ?_)
                exact ⟨rfl, _, hold ⟨rfl, rfl, rfl, congrArg AV.bool (decide_eq_true ⟨hlt, hka.2 (.inr ⟨e, q3⟩)⟩).symm, trivial⟩⟩
              · have q3 := of_decide_eq_false q3
                repeat (first | refine EvO.plain rfl rfl rfl rfl rfl rfl ?_ | refine EvO.nil ?_ | refine EvO.plainOn rfl rfl rfl rfl rfl rfl ?_)
                exact ⟨rfl, _, hold ⟨rfl, rfl, rfl, congrArg AV.bool (decide_eq_false (fun h' => (hka.1 h'.2).elim q2 (fun h'' => q3 h''.2))).symm, trivial⟩⟩
            · refine EvO.on rfl rfl rfl (EvP.quiet rfl (isB (q := false) (beq_false e)) ?_)
              repeat (first | refine EvO.plain rfl rfl rfl rfl rfl rfl ?_ | refine EvO.nil ?_ | refine EvO.off rfl rfl rfl ?_ | refine EvO.plainOn rfl rfl rfl rfl rfl rfl ?_)
              exact ⟨rfl, _, hold ⟨rfl, rfl, rfl, congrArg AV.bool (decide_eq_false (fun h' => (hka.1 h'.2).elim q2 (fun h'' => e h''.1))).symm, trivial⟩⟩
        · have q1 := of_decide_eq_false q1
          repeat (first | refine EvO.plain rfl rfl rfl rfl rfl rfl ?_ | refine EvO.nil ?_ | refine EvO.off rfl rfl rfl ?_)
          exact ⟨rfl, _, hold ⟨rfl, rfl, rfl, congrArg AV.bool (decide_eq_false (fun h' => by omega)).symm, trivial⟩⟩
      · rintro σ h ⟨rfl, E2, rfl⟩
        repeat (refine at_normal ?_)
        refine EvC.decide rfl (fun hc => ?_) (fun hc => ?_)
        · repeat (first | refine EvO.plain rfl rfl rfl rfl rfl rfl ?_ | refine EvC.region rfl ?_ | refine EvO.nil ?_ | refine at_normal ?_ | refine EvC.skip ?_ | refine EvC.block ?_ | refine be_normal ?_ | refine ro_normal ?_ | refine EvO.cons rfl rfl rfl (EvP.add64 rfl rfl (by omega) ?_))
          refine ⟨l.length - (i + 1), by omega, rfl, i + 1, _, by omega, fun j hj => ?_, rfl, hold ⟨rfl, rfl, rfl, trivial⟩⟩
          rcases Nat.lt_or_ge j i with h' | h'
          · exact hlo j h'
          · obtain rfl : j = i := by omega
            exact hc.2
        · have hhi : i < l.length → ¬ key (l.getD i 0) < key x := fun h1 h2 => hc ⟨h1, h2⟩
          clear lh
          repeat (first | refine EvC.seq ?_ | refine EvC.region rfl ?_ | refine at_normal ?_ | refine EvC.exit ?_ | refine at_exit ?_ | refine be_same rfl ?_ | refine ro_exit ?_)
          (refine EvO.cons rfl rfl rfl (EvP.newC (b := .cells [] 3 false) (mk := .slice 0 0 true) S0 1 rfl rfl (by decide) (fun h1 id1 col1 A1 S1 o1 c1 _ => ?_)))
          have V1 : Vec col1 1 h1 3 1 (.slice id1 0 0 0 true) 0 [] := .mk (tail := []) o1 c1 rfl (fun _ => ⟨Nat.le_refl _, rfl⟩)
          obtain ⟨⟨p, s1, _, s3⟩, _⟩ := vec_parts (gt := gt) (V.le S1.le) hi
          repeat (first | refine EvO.plain rfl rfl rfl rfl rfl rfl ?_ | refine EvO.plain rfl rfl rfl rfl rfl (by assumption) ?_)
          (refine EvO.cons rfl rfl rfl (EvP_appendAny S1 V1 (by decide) s3 (ints_scalar _) (by simp; omega) rfl rfl rfl rfl rfl rfl rfl rfl rfl rfl (by show (0 + i) * 8 ≤ 70368744177664; omega) (by omega) (fun v2 h2 col2 A2 S2 V2 => ?_)))
          clear s1
          repeat (first | refine EvO.plain rfl rfl rfl rfl rfl rfl ?_ | refine EvC.seq ?_ | refine EvC.region rfl ?_ | refine EvO.nil ?_ | refine at_normal ?_)
          (refine EvO.cons rfl rfl rfl (EvP.newR (b := .cells [.int .i64 x] 3 false) (mk := .slice 1 1 true) S2 rfl rfl (fun h3 id3 A3 S3 hle3 o3 _ _ => ?_)))
          (refine EvO.cons rfl rfl rfl (EvP.appendC S3 (V2.step A3 S2.wf (fun e => e)) (by decide) rfl rfl rfl rfl rfl rfl rfl rfl rfl (by decide) rfl rfl (afirst_all o3 rfl) rfl (by decide) rfl (by show (0 + i + 1) * 8 ≤ 70368744177664; omega) (by show 0 + i + 1 ≤ 1099511627776; omega) (fun v4 h4 col4 A4 S4 V4 => ?_)))
          obtain ⟨_, ⟨q, s4, s5⟩⟩ := vec_parts (gt := gt) (V.le (AH.le.trans' hle3 S4.le)) hi
          repeat (first | refine EvO.plain rfl rfl rfl rfl rfl rfl ?_ | refine EvO.plain rfl rfl rfl rfl rfl (by assumption) ?_ | refine EvC.seq ?_ | refine EvC.region rfl ?_ | refine EvO.nil ?_ | refine at_normal ?_)
          (refine EvO.cons rfl rfl rfl (EvP_appendAny S4 V4 (by decide) s5 (ints_scalar _) (by simp) rfl rfl rfl rfl rfl rfl rfl rfl rfl rfl (by show (0 + i + 1 + (l.length - i)) * 8 ≤ 70368744177664; omega) (by omega) (fun v5 h5 col5 A5 S5 V5 => ?_)))
          repeat (first | refine EvO.plain rfl rfl rfl rfl rfl rfl ?_ | refine EvO.nil ?_ | refine at_normal ?_ | refine EvC.ret ?_)
          (refine ret_is (v := v5) rfl rfl ?_)
          have AA := (((A1.trans A2).trans (A3.mono (fun _ e => e.elim))).trans A4).trans A5
          obtain ⟨G', g1, g2, g3⟩ := publishV S AA (by decide) V5 (by decide)
          have hcells : [] ++ (l.take i).map (AV.int .i64) ++ [AV.int .i64 x] ++ (l.drop i).map (AV.int .i64) = (l.take i ++ [x] ++ l.drop i).map (AV.int .i64) := by simp
          have hlen : 0 + i + 1 + (l.length - i) = (l.take i ++ [x] ++ l.drop i).length := by simp; omega
          rw [hcells, hlen] at g3
          refine ⟨Step.hide S AA (by decide), G', _, g1, g2, g3, sortK_put hs hin hlo hhi hi, fun y => ?_, by simp; omega⟩
          have hm : y ∈ l ↔ y ∈ l.take i ∨ y ∈ l.drop i := by rw [← List.mem_append, List.take_append_drop]
          rw [hm]
          simp only [List.mem_append, List.mem_singleton]
          constructor
          · rintro ((h | h) | h)
            · exact .inr (.inl h)
            · exact .inl h
            · exact .inr (.inr h)
          · rintro (h | h | h)
            · exact .inl (.inr h)
            · exact .inl (.inl h)
            · exact .inr h
end Pf
end Go.Proofs.YtfjloafebkjadaaGreatDoor
namespace Go.Proofs.YtfjloafebkjadaaGreatDoor
namespace Pf
open Go Go.AI Go.Proofs
variable {gt : Tree (List AV)}
theorem mem_but_next {l : List Int} {v y : Int} {i : Nat} (h : i < l.length) : y ∈ but (l.take (i + 1)) v ↔ y ∈ but (l.take i) v ∨ (l.getD i 0 ≠ v ∧ y = l.getD i 0) := by
  rw [but_next h, List.mem_append]
  generalize l.getD i 0 = z
  by_cases e : z = v
  · rw [if_neg (by rw [bne_eq_false_iff_eq.2 e]; decide)]
    simp [e]
  · rw [if_pos (bne_iff_ne.2 e)]
    simp [e]
set_option maxHeartbeats 4000000 in
theorem resolvent_spec {G h : AH} {col : Nat → Nat} (S : HS G h col) {a b : AV} {A B : List Int} (ra : IntRow G a A) (rb : IntRow G b B) (ha : A.length ≤ 2 ^ 36) (hb : B.length ≤ 2 ^ 36) (oa : ∀ x ∈ A, -1000000 ≤ x ∧ x ≤ 1000000) (ob : ∀ x ∈ B, -1000000 ≤ x ∧ x ≤ 1000000) (v : Int) (hv : v ≤ 9223372036854775807) :
    EvF (TT gt) X 65 [a, b, .int .i64 v] h (fun r h' => Step (fun _ => False) col h col h' ∧ ∃ G', HS G' h' col ∧ G.le G' ∧ (((1 ≤ v ∧ v ∈ A ∧ -v ∈ B) ∧ ∃ w, r = .tuple [w, .int .i64 0] ∧ IntRow G' w (resL A B v) ∧ NZ w) ∨ (¬ (1 ≤ v ∧ v ∈ A ∧ -v ∈ B) ∧ r = .tuple [.nilSlice, .int .i64 4]))) := by
  have la := fun h' => RowOf.len_any (T := TT gt) (t := 35) ra rfl h'
  have lb := fun h' => RowOf.len_any (T := TT gt) (t := 35) rb rfl h'
  have bad : ¬ (1 ≤ v ∧ v ∈ A ∧ -v ∈ B) → Step (fun _ => False) col h col h ∧ ∃ G', HS G' h col ∧ G.le G' ∧ (((1 ≤ v ∧ v ∈ A ∧ -v ∈ B) ∧ ∃ w, AV.tuple [.nilSlice, .int .i64 4] = .tuple [w, .int .i64 0] ∧ IntRow G' w (resL A B v) ∧ NZ w) ∨ (¬ (1 ≤ v ∧ v ∈ A ∧ -v ∈ B) ∧ AV.tuple [.nilSlice, .int .i64 4] = .tuple [.nilSlice, .int .i64 4])) := fun hn => ⟨Step.refl S, G, S, fun _ _ e => e, .inr ⟨hn, rfl⟩⟩
  refine EvF.enter rfl rfl rfl ?_
  repeat (first | refine EvO.plain rfl rfl rfl rfl rfl rfl ?_ | refine EvC.seq ?_ | refine EvC.region rfl ?_ | refine EvO.nil ?_ | refine at_normal ?_)
  (refine EvO.cons rfl rfl rfl (EvP.bool rfl rfl (fun q1 => ?_) (fun q1 => ?_)))
  · have q1 := of_decide_eq_true q1
    repeat (first | refine EvO.plain rfl rfl rfl rfl rfl rfl ?_ | refine EvO.nil ?_ | refine at_normal ?_ | refine EvO.off rfl rfl rfl ?_)
    refine EvC.cond (t := true) rfl (fun _ => ?_) (fun e => nomatch e)
    repeat (first | refine EvO.plain rfl rfl rfl rfl rfl rfl ?_ | refine EvC.seq ?_ | refine EvC.region rfl ?_ | refine EvO.nil ?_ | refine at_normal ?_ | refine EvC.ret ?_ | refine at_ret ?_)
    (refine ret_are (vs := [.nilSlice, .int .i64 4]) rfl rfl ?_)
    exact bad (fun e => by omega)
  · have q1 := of_decide_eq_false q1
    repeat (first | refine EvO.plain rfl rfl rfl rfl rfl rfl ?_ | refine EvO.plainOn rfl rfl rfl rfl rfl rfl ?_)
    refine EvO.on rfl rfl rfl (EvP.callF rfl rfl rfl rfl (EvF.mono (has_spec (RowOf.mono S.le ra) v (by omega)) ?_))
    rintro _ h _ ⟨rfl, rfl⟩
    by_cases h1 : v ∈ A
    · rw [decide_eq_true h1]
      repeat (first | refine EvO.plain rfl rfl rfl rfl rfl rfl ?_ | refine EvO.plainOn rfl rfl rfl rfl rfl rfl ?_ | refine EvO.on rfl rfl rfl (EvP.neg64 rfl (by omega) ?_))
      refine EvO.on rfl rfl rfl (EvP.callF rfl rfl rfl rfl (EvF.mono (has_spec (RowOf.mono S.le rb) (-v) (by omega)) ?_))
      rintro _ h _ ⟨rfl, rfl⟩
      by_cases h2 : -v ∈ B
      · rw [decide_eq_true h2]
        have lh := la h
        repeat (first | refine EvO.plain rfl rfl rfl rfl rfl rfl ?_ | refine EvO.nil ?_ | refine at_normal ?_ | refine EvO.plainOn rfl rfl rfl rfl rfl rfl ?_)
        refine EvC.cond (t := false) rfl (fun e => nomatch e) (fun _ => ?_)
        repeat (first | refine EvO.plain rfl rfl rfl rfl rfl rfl ?_ | refine EvO.plain rfl rfl rfl rfl rfl (by assumption) ?_ | refine EvC.seq ?_ | refine EvC.region rfl ?_ | refine EvO.nil ?_ | refine at_normal ?_ | refine EvC.skip ?_ | refine EvC.block ?_)
        clear lh
        refine EvC.loop (fun m σ h' => ∃ (i : Nat) (w : AV) (l : List Int) (Gk : AH) (E : Nat → AV), Step (fun _ => False) col h col h' ∧ HS Gk h' col ∧ G.le Gk ∧ Vec (fun _ => 0) 0 Gk 3 1 w l.length (l.map (AV.int .i64)) ∧ SortK l ∧ (∀ y, y ∈ l ↔ y ∈ but (A.take i) v) ∧ l.length ≤ i ∧ i ≤ A.length ∧ m = A.length - i ∧ σ = upds [(1, b), (2, .int .i64 v), (8, w), (28, a), (29, .int .i64 A.length), (30, .int .i64 i)] E) (A.length) ?_ ?_
        · exact ⟨0, _, [], G, _, Step.refl S, S, fun _ _ e => e, .nil, .nil, fun y => by simp [but], Nat.le_refl _, Nat.zero_le _, rfl, hold ⟨rfl, rfl, rfl, rfl, rfl, rfl, trivial⟩⟩
        · rintro m _ h3 ⟨i, w, l, Gk, E, A1, S1, hG1, V1, hs, hm, hll, hi, rfl, rfl⟩
          repeat (first | refine EvO.plain rfl rfl rfl rfl rfl rfl ?_ | refine EvC.seq ?_ | refine EvC.region rfl ?_ | refine EvO.nil ?_ | refine at_normal ?_)
          refine EvC.decide rfl (fun hc => ?_) (fun hc => ?_)
          · have hlt : i < A.length := by omega
            obtain ⟨q, b1, b2⟩ := (RowOf.mono (AH.le.trans' hG1 S1.le) ra).at1 (T := TT gt) (t := 35) (e := 3) rfl rfl rfl rfl (k := .i64) (i := i) (by omega) (by omega)
            rw [Int.toNat_natCast] at b2
            have hnx := fun y => mem_but_next (v := v) (y := y) hlt
            have hox := oa _ (getD_mem hlt)
            repeat (first | refine EvO.plain rfl rfl rfl rfl rfl rfl ?_ | refine EvO.plain rfl rfl rfl rfl rfl (by assumption) ?_ | refine EvC.seq ?_ | refine EvC.region rfl ?_ | refine EvO.nil ?_ | refine at_normal ?_ | refine EvC.skip ?_ | refine EvC.block ?_)
            by_cases e : A.getD i 0 = v
            · refine EvC.cond (t := false) (isT (bne_eq_false_iff_eq.2 e)) (fun e => nomatch e) (fun _ => ?_)
              clear b1 b2
              repeat (first | refine EvO.plain rfl rfl rfl rfl rfl rfl ?_ | refine EvC.region rfl ?_ | refine EvO.nil ?_ | refine at_normal ?_ | refine EvC.skip ?_ | refine be_normal ?_ | refine ro_normal ?_ | refine EvO.cons rfl rfl rfl (EvP.add64 rfl rfl (by omega) ?_))
              exact ⟨A.length - (i + 1), by omega, i + 1, w, l, Gk, _, A1, S1, hG1, V1, hs, fun y => by rw [hnx, hm]; exact ⟨.inl, fun h => h.elim id (fun h => absurd e h.1)⟩, by omega, by omega, rfl, hold ⟨rfl, rfl, rfl, rfl, rfl, rfl, trivial⟩⟩
            · refine EvC.cond (t := true) (isT (bne_iff_ne.2 e)) (fun _ => ?_) (fun e => nomatch e)
              clear b1 b2
              repeat (first | refine EvO.plain rfl rfl rfl rfl rfl rfl ?_ | refine EvC.region rfl ?_)
              (refine EvO.cons rfl rfl rfl (EvP.callF rfl rfl rfl rfl (EvF.mono (put_spec S1 V1 hs (A.getD i 0) hox (fun y hy => oa y (List.mem_of_mem_take (List.mem_filter.1 ((hm y).1 hy)).1)) (by omega)) ?_)))
              rintro w' h4 _ ⟨A2, G2, l2, S2, hG2, V2, hs2, hm2, hl2⟩
              repeat (first | refine EvO.plain rfl rfl rfl rfl rfl rfl ?_ | refine EvC.region rfl ?_ | refine EvO.nil ?_ | refine at_normal ?_ | refine be_normal ?_ | refine ro_normal ?_ | refine EvO.cons rfl rfl rfl (EvP.add64 rfl rfl (by omega) ?_))
              exact ⟨A.length - (i + 1), by omega, i + 1, w', l2, G2, _, A1.trans A2, S2, AH.le.trans' hG1 hG2, V2, hs2, fun y => by
                rw [hnx, hm2, hm]
                exact ⟨fun h => h.elim (fun h => .inr ⟨e, h⟩) .inl, fun h => h.elim .inr (fun h => .inl h.2)⟩, by omega, by omega, rfl, hold ⟨rfl, rfl, rfl, rfl, rfl, rfl, trivial⟩⟩
          · obtain rfl : i = A.length := by omega
            rw [List.take_length] at hm
            have lh := lb h3
            repeat (first | refine EvO.plain rfl rfl rfl rfl rfl rfl ?_ | refine EvO.plain rfl rfl rfl rfl rfl (by assumption) ?_ | refine EvC.seq ?_ | refine EvC.region rfl ?_ | refine EvO.nil ?_ | refine at_normal ?_ | refine EvC.block ?_ | refine EvC.exit ?_ | refine at_exit ?_ | refine be_same rfl ?_ | refine ro_exit ?_)
            clear lh
            refine EvC.loop (fun m σ h' => ∃ (i : Nat) (w : AV) (l : List Int) (Gk : AH) (E : Nat → AV), Step (fun _ => False) col h col h' ∧ HS Gk h' col ∧ G.le Gk ∧ Vec (fun _ => 0) 0 Gk 3 1 w l.length (l.map (AV.int .i64)) ∧ SortK l ∧ (∀ y, y ∈ l ↔ y ∈ but A v ∨ y ∈ but (B.take i) (-v)) ∧ l.length ≤ A.length + i ∧ i ≤ B.length ∧ m = B.length - i ∧ σ = upds [(2, .int .i64 v), (8, w), (41, b), (42, .int .i64 B.length), (43, .int .i64 i)] E) (B.length) ?_ ?_
            · exact ⟨0, w, l, Gk, _, A1, S1, hG1, V1, hs, fun y => by rw [hm]; simp [but], by omega, Nat.zero_le _, rfl, hold ⟨rfl, rfl, rfl, rfl, rfl, trivial⟩⟩
            · rintro m _ h4 ⟨i, w, l, Gk, E, A1, S1, hG1, V1, hs, hm, hll, hi, rfl, rfl⟩
              repeat (first | refine EvO.plain rfl rfl rfl rfl rfl rfl ?_ | refine EvC.seq ?_ | refine EvC.region rfl ?_ | refine EvO.nil ?_ | refine at_normal ?_)
              refine EvC.decide rfl (fun hc => ?_) (fun hc => ?_)
              · have hlt : i < B.length := by omega
                obtain ⟨q, b1, b2⟩ := (RowOf.mono (AH.le.trans' hG1 S1.le) rb).at1 (T := TT gt) (t := 35) (e := 3) rfl rfl rfl rfl (k := .i64) (i := i) (by omega) (by omega)
                rw [Int.toNat_natCast] at b2
                have hnx := fun y => mem_but_next (v := -v) (y := y) hlt
                have hox := ob _ (getD_mem hlt)
                repeat (first | refine EvO.plain rfl rfl rfl rfl rfl rfl ?_ | refine EvO.plain rfl rfl rfl rfl rfl (by assumption) ?_ | refine EvC.seq ?_ | refine EvC.region rfl ?_ | refine EvO.nil ?_ | refine at_normal ?_ | refine EvC.skip ?_ | refine EvC.block ?_ | refine EvO.cons rfl rfl rfl (EvP.neg64 rfl (by omega) ?_))
                by_cases e : B.getD i 0 = -v
                · refine EvC.cond (t := false) (isT (bne_eq_false_iff_eq.2 e)) (fun e => nomatch e) (fun _ => ?_)
                  clear b1 b2
                  repeat (first | refine EvO.plain rfl rfl rfl rfl rfl rfl ?_ | refine EvC.region rfl ?_ | refine EvO.nil ?_ | refine at_normal ?_ | refine EvC.skip ?_ | refine be_normal ?_ | refine ro_normal ?_ | refine EvO.cons rfl rfl rfl (EvP.add64 rfl rfl (by omega) ?_))
                  exact ⟨B.length - (i + 1), by omega, i + 1, w, l, Gk, _, A1, S1, hG1, V1, hs, fun y => by rw [hnx, hm]; exact ⟨fun h => h.elim .inl (fun h => .inr (.inl h)), fun h => h.elim .inl (fun h => h.elim .inr (fun h => absurd e h.1))⟩, by omega, by omega, rfl, hold ⟨rfl, rfl, rfl, rfl, rfl, trivial⟩⟩
                · refine EvC.cond (t := true) (isT (bne_iff_ne.2 e)) (fun _ => ?_) (fun e => nomatch e)
                  clear b1 b2
                  repeat (first | refine EvO.plain rfl rfl rfl rfl rfl rfl ?_ | refine EvC.region rfl ?_)
                  (refine EvO.cons rfl rfl rfl (EvP.callF rfl rfl rfl rfl (EvF.mono (put_spec S1 V1 hs (B.getD i 0) hox (fun y hy => ((hm y).1 hy).elim (fun h => oa y (List.mem_filter.1 h).1) (fun h => ob y (List.mem_of_mem_take (List.mem_filter.1 h).1))) (by omega)) ?_)))
                  rintro w' h5 _ ⟨A2, G2, l2, S2, hG2, V2, hs2, hm2, hl2⟩
                  repeat (first | refine EvO.plain rfl rfl rfl rfl rfl rfl ?_ | refine EvC.region rfl ?_ | refine EvO.nil ?_ | refine at_normal ?_ | refine be_normal ?_ | refine ro_normal ?_ | refine EvO.cons rfl rfl rfl (EvP.add64 rfl rfl (by omega) ?_))
                  exact ⟨B.length - (i + 1), by omega, i + 1, w', l2, G2, _, A1.trans A2, S2, AH.le.trans' hG1 hG2, V2, hs2, fun y => by
                    rw [hnx, hm2, hm]
                    exact ⟨fun h => h.elim (fun h => .inr (.inr ⟨e, h⟩)) (fun h => h.elim .inl (fun h => .inr (.inl h))), fun h => h.elim (fun h => .inr (.inl h)) (fun h => h.elim (fun h => .inr (.inr h)) (fun h => .inl h.2))⟩, by omega, by omega, rfl, hold ⟨rfl, rfl, rfl, rfl, rfl, trivial⟩⟩
              · obtain rfl : i = B.length := by omega
                rw [List.take_length] at hm
                have el : l = resL A B v := sortK_eq hs (sortK_resL A B v) fun y => by
                  rw [hm]; unfold resL; rw [mem_ordL, List.mem_append]
                repeat (first | refine EvO.plain rfl rfl rfl rfl rfl rfl ?_ | refine EvC.seq ?_ | refine EvC.region rfl ?_ | refine EvO.nil ?_ | refine at_normal ?_ | refine EvC.ret ?_ | refine EvC.exit ?_ | refine at_exit ?_ | refine be_same rfl ?_ | refine ro_exit ?_)
                (refine ret_are (vs := [w, .int .i64 0]) rfl rfl ?_)
                have row : IntRow Gk w l := row_ints V1.row
                rw [el] at row
                exact ⟨A1, Gk, S1, hG1, .inl ⟨⟨by omega, h1, h2⟩, w, rfl, row, V1.nz⟩⟩
      · rw [decide_eq_false h2]
        repeat (first | refine EvO.plain rfl rfl rfl rfl rfl rfl ?_ | refine EvO.nil ?_ | refine at_normal ?_ | refine EvO.plainOn rfl rfl rfl rfl rfl rfl ?_)
        refine EvC.cond (t := true) rfl (fun _ => ?_) (fun e => nomatch e)
        repeat (first | refine EvO.plain rfl rfl rfl rfl rfl rfl ?_ | refine EvC.seq ?_ | refine EvC.region rfl ?_ | refine EvO.nil ?_ | refine at_normal ?_ | refine EvC.ret ?_ | refine at_ret ?_)
        (refine ret_are (vs := [.nilSlice, .int .i64 4]) rfl rfl ?_)
        exact bad (fun e => h2 e.2.2)
    · rw [decide_eq_false h1]
      repeat (first | refine EvO.plain rfl rfl rfl rfl rfl rfl ?_ | refine EvO.nil ?_ | refine at_normal ?_ | refine EvO.off rfl rfl rfl ?_ | refine EvO.plainOn rfl rfl rfl rfl rfl rfl ?_)
      refine EvC.cond (t := true) rfl (fun _ => ?_) (fun e => nomatch e)
      repeat (first | refine EvO.plain rfl rfl rfl rfl rfl rfl ?_ | refine EvC.seq ?_ | refine EvC.region rfl ?_ | refine EvO.nil ?_ | refine at_normal ?_ | refine EvC.ret ?_ | refine at_ret ?_)
      (refine ret_are (vs := [.nilSlice, .int .i64 4]) rfl rfl ?_)
      exact bad (fun e => h1 e.2.1)
set_option maxHeartbeats 4000000 in
theorem rResolve_spec {h : AH} (hw : WF h) {a b : AV} {A B : List Int} (ra : IntRow h a A) (rb : IntRow h b B) (ha : A.length ≤ 2 ^ 50) (hb : B.length ≤ 2 ^ 50) (v : Int) (hv : -9223372036854775808 ≤ v ∧ v ≤ 9223372036854775807) :
    EvF (TT gt) X 25 [a, b, .int .i64 v] h (fun r h' => (h.le h' ∧ WF h') ∧ ResSays A B v r h') := by
  have la := RowOf.len_any (T := TT gt) (t := 35) ra rfl h
  have lb := RowOf.len_any (T := TT gt) (t := 35) rb rfl h
  have bad : ¬ fineR A B v → (h.le h ∧ WF h) ∧ ResSays A B v (.tuple [.nilSlice, .int .i64 2]) h := fun hn => ⟨⟨fun _ _ e => e, hw⟩, .inl ⟨hn, rfl⟩⟩
  refine EvF.enter rfl rfl rfl ?_
  repeat (first | refine EvO.plain rfl rfl rfl rfl rfl rfl ?_ | refine EvO.plain rfl rfl rfl rfl rfl (by assumption) ?_ | refine EvC.seq ?_ | refine EvC.region rfl ?_ | refine EvO.nil ?_ | refine at_normal ?_)
  (refine EvO.cons rfl rfl rfl (EvP.bool rfl rfl (fun q1 => ?_) (fun q1 => ?_)))
  · have q1 := of_decide_eq_true q1
    repeat (first | refine EvO.plain rfl rfl rfl rfl rfl rfl ?_ | refine EvO.nil ?_ | refine at_normal ?_ | refine EvO.off rfl rfl rfl ?_)
    refine EvC.cond (t := true) rfl (fun _ => ?_) (fun e => nomatch e)
    repeat (first | refine EvO.plain rfl rfl rfl rfl rfl rfl ?_ | refine EvC.seq ?_ | refine EvC.region rfl ?_ | refine EvO.nil ?_ | refine at_normal ?_ | refine EvC.ret ?_ | refine at_ret ?_)
    (refine ret_are (vs := [.nilSlice, .int .i64 2]) rfl rfl ?_)
    exact bad (fun e => by have := e.1; omega)
  · have q1 := of_decide_eq_false q1
    repeat (first | refine EvO.plain rfl rfl rfl rfl rfl rfl ?_ | refine EvO.plainOn rfl rfl rfl rfl rfl rfl ?_ | refine EvO.plainOn rfl rfl rfl rfl rfl (by assumption) ?_)
    (refine EvO.on rfl rfl rfl (EvP.bool rfl rfl (fun q2 => ?_) (fun q2 => ?_)))
    · have q2 := of_decide_eq_true q2
      repeat (first | refine EvO.plain rfl rfl rfl rfl rfl rfl ?_ | refine EvO.nil ?_ | refine at_normal ?_ | refine EvO.off rfl rfl rfl ?_)
      refine EvC.cond (t := true) rfl (fun _ => ?_) (fun e => nomatch e)
      repeat (first | refine EvO.plain rfl rfl rfl rfl rfl rfl ?_ | refine EvC.seq ?_ | refine EvC.region rfl ?_ | refine EvO.nil ?_ | refine at_normal ?_ | refine EvC.ret ?_ | refine at_ret ?_)
      (refine ret_are (vs := [.nilSlice, .int .i64 2]) rfl rfl ?_)
      exact bad (fun e => by have := e.2.1; omega)
    · have q2 := of_decide_eq_false q2
      clear la lb
      repeat (first | refine EvO.plain rfl rfl rfl rfl rfl rfl ?_ | refine EvO.plainOn rfl rfl rfl rfl rfl rfl ?_)
      refine EvO.on rfl rfl rfl (EvP.callF rfl rfl rfl rfl (EvF.mono (clause_spec (facts gt) ra ha 50000 (by decide)) ?_))
      rintro _ h _ ⟨rfl, rfl⟩
      by_cases h1 : ∀ x ∈ A, ok 50000 x
      · rw [decide_eq_true h1]
        repeat (first | refine EvO.plain rfl rfl rfl rfl rfl rfl ?_ | refine EvO.plainOn rfl rfl rfl rfl rfl rfl ?_)
        refine EvO.on rfl rfl rfl (EvP.callF rfl rfl rfl rfl (EvF.mono (clause_spec (facts gt) rb hb 50000 (by decide)) ?_))
        rintro _ h _ ⟨rfl, rfl⟩
        by_cases h2 : ∀ x ∈ B, ok 50000 x
        · rw [decide_eq_true h2]
          repeat (first | refine EvO.plain rfl rfl rfl rfl rfl rfl ?_ | refine EvO.plainOn rfl rfl rfl rfl rfl rfl ?_)
          (refine EvO.on rfl rfl rfl (EvP.bool rfl rfl (fun q3 => ?_) (fun q3 => ?_)))
          · have q3 := of_decide_eq_true q3
            repeat (first | refine EvO.plain rfl rfl rfl rfl rfl rfl ?_ | refine EvO.nil ?_ | refine at_normal ?_ | refine EvO.off rfl rfl rfl ?_)
            refine EvC.cond (t := true) rfl (fun _ => ?_) (fun e => nomatch e)
            repeat (first | refine EvO.plain rfl rfl rfl rfl rfl rfl ?_ | refine EvC.seq ?_ | refine EvC.region rfl ?_ | refine EvO.nil ?_ | refine at_normal ?_ | refine EvC.ret ?_ | refine at_ret ?_)
            (refine ret_are (vs := [.nilSlice, .int .i64 2]) rfl rfl ?_)
            exact bad (fun e => by have := e.2.2.2.2.1; omega)
          · have q3 := of_decide_eq_false q3
            repeat (first | refine EvO.plain rfl rfl rfl rfl rfl rfl ?_ | refine EvO.plainOn rfl rfl rfl rfl rfl rfl ?_)
            (refine EvO.on rfl rfl rfl (EvP.bool rfl rfl (fun q4 => ?_) (fun q4 => ?_)))
            · have q4 := of_decide_eq_true q4
              repeat (first | refine EvO.plain rfl rfl rfl rfl rfl rfl ?_ | refine EvO.nil ?_ | refine at_normal ?_)
              refine EvC.cond (t := true) rfl (fun _ => ?_) (fun e => nomatch e)
              repeat (first | refine EvO.plain rfl rfl rfl rfl rfl rfl ?_ | refine EvC.seq ?_ | refine EvC.region rfl ?_ | refine EvO.nil ?_ | refine at_normal ?_ | refine EvC.ret ?_ | refine at_ret ?_)
              (refine ret_are (vs := [.nilSlice, .int .i64 2]) rfl rfl ?_)
              exact bad (fun e => by have := e.2.2.2.2.2; omega)
            · have q4 := of_decide_eq_false q4
              have fine : fineR A B v := ⟨by omega, by omega, h1, h2, by omega, by omega⟩
              repeat (first | refine EvO.plain rfl rfl rfl rfl rfl rfl ?_ | refine EvO.nil ?_ | refine at_normal ?_)
              refine EvC.cond (t := false) rfl (fun e => nomatch e) (fun _ => ?_)
              repeat (first | refine EvO.plain rfl rfl rfl rfl rfl rfl ?_ | refine EvC.seq ?_ | refine EvC.region rfl ?_ | refine at_normal ?_ | refine EvC.skip ?_)
              (refine EvO.cons rfl rfl rfl (EvP.callF rfl rfl rfl rfl (EvF.mono (resolvent_spec (HS.all hw) ra rb (by omega) (by omega) (fun x hx => by have := h1 x hx; unfold ok at this; omega) (fun x hx => by have := h2 x hx; unfold ok at this; omega) v hv.2) ?_)))
              rintro r h5 _ ⟨A5, G5, S5, hG5, hr⟩
              have hle5 : h.le h5 := AH.le.trans' hG5 S5.le
              rcases hr with ⟨h3, w, rfl, rw5, nz⟩ | ⟨h3, rfl⟩
              · repeat (first | refine EvO.plain rfl rfl rfl rfl rfl rfl ?_ | refine EvO.nil ?_ | refine at_normal ?_ | refine EvC.ret ?_)
                (refine ret_are (vs := [w, .int .i64 0]) rfl rfl ?_)
                exact ⟨⟨hle5, S5.wf⟩, .inr (.inl ⟨fine, h3.2, w, rfl, RowOf.mono S5.le rw5, nz⟩)⟩
              · repeat (first | refine EvO.plain rfl rfl rfl rfl rfl rfl ?_ | refine EvO.nil ?_ | refine at_normal ?_ | refine EvC.ret ?_)
                (refine ret_are (vs := [.nilSlice, .int .i64 4]) rfl rfl ?_)
                exact ⟨⟨hle5, S5.wf⟩, .inr (.inr ⟨fine, fun e => h3 ⟨by omega, e⟩, rfl⟩)⟩
        · rw [decide_eq_false h2]
          repeat (first | refine EvO.plain rfl rfl rfl rfl rfl rfl ?_ | refine EvO.nil ?_ | refine at_normal ?_ | refine EvO.off rfl rfl rfl ?_ | refine EvO.plainOn rfl rfl rfl rfl rfl rfl ?_)
          refine EvC.cond (t := true) rfl (fun _ => ?_) (fun e => nomatch e)
          repeat (first | refine EvO.plain rfl rfl rfl rfl rfl rfl ?_ | refine EvC.seq ?_ | refine EvC.region rfl ?_ | refine EvO.nil ?_ | refine at_normal ?_ | refine EvC.ret ?_ | refine at_ret ?_)
          (refine ret_are (vs := [.nilSlice, .int .i64 2]) rfl rfl ?_)
          exact bad (fun e => h2 e.2.2.2.1)
      · rw [decide_eq_false h1]
        repeat (first | refine EvO.plain rfl rfl rfl rfl rfl rfl ?_ | refine EvO.nil ?_ | refine at_normal ?_ | refine EvO.off rfl rfl rfl ?_ | refine EvO.plainOn rfl rfl rfl rfl rfl rfl ?_)
        refine EvC.cond (t := true) rfl (fun _ => ?_) (fun e => nomatch e)
        repeat (first | refine EvO.plain rfl rfl rfl rfl rfl rfl ?_ | refine EvC.seq ?_ | refine EvC.region rfl ?_ | refine EvO.nil ?_ | refine at_normal ?_ | refine EvC.ret ?_ | refine at_ret ?_)
        (refine ret_are (vs := [.nilSlice, .int .i64 2]) rfl rfl ?_)
        exact bad (fun e => h1 e.2.2.1)
end Pf
end Go.Proofs.YtfjloafebkjadaaGreatDoor
