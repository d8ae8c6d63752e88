/- Parts of rows; what is new is only read from then on. -/
import Derived.Test.YtfjloafebkjadaaGreatDoorPgM
namespace Go.Proofs.YtfjloafebkjadaaGreatDoor
namespace Pf
open Go Go.AI Go.Proofs
variable {gt : Tree (List AV)}
theorem publishV {G h h1 : AH} {col col1 : Nat → Nat} {R : Nat → Prop} {c : Nat} {e sz n : Nat} {v : AV} {cs : List AV} (S : HS G h col) (A : Step R (fun _ => 0) h col1 h1) (h0 : ¬ R 0) (V : Vec col1 c h1 e sz v n cs) (hc : c ≠ 0) : ∃ G', HS G' h1 col ∧ G.le G' ∧ Vec (fun _ => 0) 0 G' e sz v n cs := by
  have S1 := HS.hide S A h0
  cases V with
  | nil => exact ⟨G, S1, fun _ _ e => e, .nil⟩
  | @mk id _ cap ex _ tail hg hc' hn hx =>
    have hid : h.next ≤ id := by
      have hOB := Nat.lt_or_ge id h.next
      rcases hOB with hl | hl
      · have := A.old id hl
        rw [this] at hc'
        exact absurd hc'.symm hc
      · exact hl
    exact ⟨G.add id _, S1.add hg (S.fresh id hid), S1.le_add hg, .mk (AH.get_add ..) rfl hn hx⟩
/-- Parts of a row of whole numbers. -/
theorem vec_parts {col : Nat → Nat} {c : Nat} {h : AH} {v : AV} {l : List Int} {i : Nat} (V : Vec col c h 3 1 v l.length (l.map (AV.int .i64))) (hi : i ≤ l.length) :
    (∃ v', aslice (TT gt) h 35 v none (some (.int .i64 i)) none = some v' ∧ RowOf h 1 v' i (fun j => [.int .i64 ((l.take i).getD j 0)]) ∧ (alenOf v' = some i ∧ afirst h 1 i v' = some ((l.take i).map (AV.int .i64)))) ∧
    (∃ v', aslice (TT gt) h 35 v (some (.int .i64 i)) none none = some v' ∧ (alenOf v' = some (l.length - i) ∧ afirst h 1 (l.length - i) v' = some ((l.drop i).map (AV.int .i64)))) := by
  generalize hN : l.length = N at V
  generalize hC : l.map (AV.int .i64) = C at V
  cases V with
  | nil =>
    have hOB : i = 0 := by omega
    obtain rfl := hOB
    have : l = [] := List.eq_nil_of_length_eq_zero hN
    subst this
    exact ⟨⟨.nilSlice, rfl, .nil, rfl, rfl⟩, ⟨.nilSlice, rfl, rfl, rfl⟩⟩
  | @mk id _ cap ex _ tail hg hc hn hx =>
    subst hC
    rw [hN] at hi
    have hx' : ex = true → N ≤ cap ∧ (l.map (AV.int .i64) ++ tail).length = cap * 1 := hx
    have hOB := cut_to (gt := gt) hg hx' (by simp; omega) hi
    obtain ⟨c1, s1, _⟩ := hOB
    have hs1 : sub (l.map (AV.int .i64) ++ tail) 0 (i * 1) = some ((l.take i).map (AV.int .i64)) := by
      unfold sub
      rw [if_pos (by simp; omega), List.drop_zero, Nat.mul_one, List.take_append_of_le_length (by simp; omega), List.map_take]
    refine ⟨⟨_, s1, .mk (cs := l.map (AV.int .i64) ++ tail) (by unfold cellsOf; rw [hg]) fun j hj => ?_, rfl, ?_⟩, ?_⟩
    · rw [Nat.zero_add, Nat.mul_one]
      unfold sub
      rw [if_pos (by simp; omega), List.take_one, List.head?_drop, List.getElem?_append_left (by simp; omega), List.getElem?_map, List.getD_eq_getElem?_getD, List.getElem?_take_of_lt hj, List.getElem?_eq_getElem (by omega)]
      rfl
    · simp only [afirst, cellsOf, hg]; exact hs1
    · have hOB := Nat.lt_or_ge i N
      rcases hOB with hlt | hge
      · have hOB := cut_from (gt := gt) hg hx' (by simp; omega) hlt
        obtain ⟨c2, s2⟩ := hOB
        refine ⟨_, s2, rfl, ?_⟩
        simp only [afirst, cellsOf, hg, sub, Nat.mul_one]
        rw [if_pos (by simp; omega)]
        congr 1
        rw [List.drop_append_of_le_length (by simp; omega), List.take_append_of_le_length (by simp; omega), List.map_drop, List.take_of_length_le (by simp; omega)]
      · have hOB : i = N := by omega
        obtain rfl := hOB
        have e0 : l.drop i = [] := List.drop_eq_nil_of_le (by omega)
        rw [Nat.sub_self, e0]
        have b : ∀ c, bounds i c (some (.int .i64 i)) none none = some (i, i, c) := fun c => by
          show (match (if (0 : Int) ≤ (i : Int) ∧ (i : Int) ≤ (i : Int) then some ((i : Int)).toNat else none) with | none => none | some l => some (l, i, c)) = _
          rw [if_pos (by omega)]; rfl
        have fin : ∀ o, o ≤ (l.map (AV.int .i64) ++ tail).length → ∀ cap' ex', alenOf (.slice id o 0 cap' ex') = some 0 ∧ afirst h 1 0 (.slice id o 0 cap' ex') = some (([] : List Int).map (AV.int .i64)) := fun o ho cap' ex' => ⟨rfl, by
          simp only [afirst, cellsOf, hg, sub, Nat.zero_mul, Nat.add_zero]
          rw [if_pos ho]; simp⟩
        cases ex with
        | true =>
          refine ⟨.slice id (if cap = i then 0 else 0 + i * 1) (i - i) (cap - i) true, ?_, ?_⟩
          · show cut id 0 1 (bounds i cap (some (.int .i64 i)) none none) = _
            rw [b]; rfl
          · rw [Nat.sub_self]
            exact fin _ (by split <;> simp <;> omega) _ _
        | false =>
          have hal : aslice (TT gt) h 35 (.slice id 0 i cap false) (some (.int .i64 i)) none none = if i = (l.map (AV.int .i64) ++ tail).length ∧ 0 < i then some .eslice else some (.slice id i (i - i) 0 false) := by
            show (match some ti3, ownOf h id with
              | some ie, some (cs, el) =>
                if ie.size = 0 ∨ szOf (TT gt) el ≠ ie.size ∨ cs.length < 0 then none else
                match bounds i ((cs.length - 0) / ie.size) (some (.int .i64 i)) none none with
                | some (l, hi, mm) => if (cs.length - 0) / ie.size < hi then none else if l = (cs.length - 0) / ie.size ∧ 0 < l then some AV.eslice else some (AV.slice id (0 + l * ie.size) (hi - l) 0 false)
                | none => none
              | _, _ => none) = _
            have hs : szOf (TT gt) 3 = 1 := rfl
            have h1 : ti3.size = 1 := rfl
            simp only [ownOf, hg, hs, h1, b, Nat.sub_zero, Nat.div_one, Nat.zero_add, Nat.mul_one]
            rw [if_neg (by omega), if_neg (by simp; omega)]
          by_cases e : i = (l.map (AV.int .i64) ++ tail).length ∧ 0 < i
          · rw [if_pos e] at hal
            exact ⟨_, hal, rfl, rfl⟩
          · rw [if_neg e, Nat.sub_self] at hal
            exact ⟨_, hal, fin _ (by simp; omega) _ _⟩
/-- An append of so many cells, of none too. -/
theorem EvP_appendAny {T : Tab} {X : Oracle} {σ : Nat → AV} {h G : AH} {col : Nat → Nat} {cl : Call} {s y : Operand} {ts : List TypeId} {c : Nat} {e m k : Nat} {v x : AV} {cs new : List AV} {t xt e2 : TypeId} {ei : TInfo} {Q : AV → AH → Prop} (S : HS G h col) (V : Vec col c h e 1 v m cs) (h0 : c ≠ 0) (hx : alenOf x = some k ∧ afirst h 1 k x = some new) (hsc : new.all Go.AI.scalar = true) (hnl : new.length = k)
    (hcl : cl.callee = .builtin .append) (hts : cl.argTypes.toList = t :: xt :: ts) (hargs : cl.args.toList = [s, y]) (hv : evf σ s = v) (hy : evf σ y = x)
    (ht : descOf T t = .slice e) (hxt : descOf T xt = .slice e2) (hei : T.tt.get e = some ei) (hsz : ei.size = 1) (hz : ei.zero.length = 1) (hb : (m + k) * ei.bytes ≤ maxBytes) (hq : m + k ≤ 2 ^ 40)
    (H : ∀ v' h1 col1, Step (fun x => x = c) col h col1 h1 → HS G h1 col1 → Vec col1 c h1 e 1 v' (m + k) (cs ++ new) → Q v' h1) : EvP T X (.call cl) σ h Q := by
  have hOB := Nat.eq_zero_or_pos k
  rcases hOB with rfl | hk
  · have hOB : new = [] := List.eq_nil_of_length_eq_zero hnl
    obtain rfl := hOB
    have V0 : Vec col c h e 1 v (m + 0) (cs ++ []) := by simpa using V
    refine EvP.eff (v := v) (h' := h) (by simp only [kindOf, hcl]) ?_ (Nat.le_refl _) (H v h col (Step.refl S) S V0)
    have hap : aappend T h t xt v x = some (v, h) := by
      cases V with
      | nil => simp [aappend, ht, hxt, hei, hsz, hx.1, hx.2]
      | @mk id _ cap ex _ tail hg hc hn hxx =>
        cases ex with
        | true => simp [aappend, ht, hxt, hei, hsz, hx.1, hx.2, (hxx rfl).1]
        | false =>
          have hs : szOf T e = 1 := by simp [szOf, hei, hsz]
          simp [aappend, ht, hxt, hei, hsz, hx.1, hx.2, ownOf, hg, hs]
          omega
    simp only [feff, hcl, hts, hargs, hv, hy, hap, rb, Option.map_some]
  · exact EvP.appendC S V h0 hcl hts hargs hv hy ht hxt hei hsz (by decide) hz hx.1 hx.2 (by omega) hk hsc hb hq H
theorem has_spec {h : AH} {v : AV} {l : List Int} (row : IntRow h v l) (x : Int) (hl : l.length ≤ 2 ^ 50) :
    EvF (TT gt) X 96 [v, .int .i64 x] h (fun r h' => h' = h ∧ r = .bool (decide (x ∈ l))) := by
  have ln := row.len (T := TT gt) (t := 35) rfl
  refine EvF.enter rfl rfl rfl ?_
  repeat (first | refine EvO.plain rfl rfl rfl rfl rfl rfl ?_ | refine EvO.plain rfl rfl rfl rfl rfl (by assumption) ?_ | refine EvC.seq ?_ | refine EvC.region rfl ?_ | refine EvO.nil ?_ | refine at_normal ?_ | refine EvC.block ?_)
  refine EvC.loop (fun m σ h' => h' = h ∧ ∃ (i : Nat) (E : Nat → AV), i ≤ l.length ∧ x ∉ l.take i ∧ m = l.length - i ∧ σ = upds [(1, .int .i64 x), (7, v), (8, .int .i64 l.length), (9, .int .i64 i)] E) (l.length) ?_ ?_
  · exact ⟨rfl, 0, _, Nat.zero_le _, by simp, rfl, hold ⟨rfl, rfl, rfl, rfl, trivial⟩⟩
  · rintro m _ h ⟨rfl, i, E, hi, hx, rfl, rfl⟩
    repeat (first | refine EvO.plain rfl rfl rfl rfl rfl rfl ?_ | refine EvC.seq ?_ | refine EvC.region rfl ?_ | refine EvO.nil ?_ | refine at_normal ?_)
    refine EvC.decide rfl (fun hc => ?_) (fun hc => ?_)
    · have hlt : i < l.length := by omega
      have hOB := row.at1 (T := TT gt) (t := 35) (e := 3) rfl rfl rfl rfl (k := .i64) (i := i) (by omega) (by omega)
      obtain ⟨q, b1, b2⟩ := hOB
      rw [Int.toNat_natCast] at b2
      repeat (first | refine EvO.plain rfl rfl rfl rfl rfl rfl ?_ | refine EvO.plain rfl rfl rfl rfl rfl (by assumption) ?_ | refine EvC.seq ?_ | refine EvC.region rfl ?_ | refine EvO.nil ?_ | refine at_normal ?_ | refine EvC.skip ?_ | refine EvC.block ?_)
      by_cases e : x = l.getD i 0
      · refine EvC.cond (t := true) (isT (beq_true e)) (fun _ => ?_) (fun e => nomatch e)
        repeat (first | refine EvO.plain rfl rfl rfl rfl rfl rfl ?_ | refine EvC.seq ?_ | refine EvC.region rfl ?_ | refine EvO.nil ?_ | refine at_normal ?_ | refine EvC.ret ?_ | refine at_ret ?_ | refine be_ret ?_ | refine ro_ret ?_)
        (refine ret_is (v := .bool true) rfl rfl ?_)
        exact ⟨rfl, congrArg AV.bool (decide_eq_true (by rw [e]; exact getD_mem hlt)).symm⟩
      · refine EvC.cond (t := false) (isT (beq_false e)) (fun e => nomatch e) (fun _ => ?_)
        repeat (first | refine EvO.plain rfl rfl rfl rfl rfl rfl ?_ | refine EvC.region rfl ?_ | refine EvO.nil ?_ | refine at_normal ?_ | refine EvC.skip ?_ | refine be_normal ?_ | refine ro_normal ?_ | refine EvO.cons rfl rfl rfl (EvP.add64 rfl rfl (by omega) ?_))
        refine ⟨l.length - (i + 1), by omega, rfl, i + 1, _, by omega, ?_, rfl, hold ⟨rfl, rfl, rfl, rfl, trivial⟩⟩
        rw [take_next hlt]
        simp only [List.mem_append, List.mem_singleton]
        exact fun h => h.elim hx e
    · have hOB : i = l.length := by omega
      obtain rfl := hOB
      rw [List.take_length] at hx
      repeat (first | refine EvO.plain rfl rfl rfl rfl rfl rfl ?_ | refine EvC.seq ?_ | refine EvC.region rfl ?_ | refine EvO.nil ?_ | refine at_normal ?_ | refine EvC.ret ?_ | refine EvC.exit ?_ | refine at_exit ?_ | refine be_same rfl ?_ | refine ro_exit ?_)
      (refine ret_is (v := .bool false) rfl rfl ?_)
      exact ⟨rfl, congrArg AV.bool (decide_eq_false hx).symm⟩
end Pf
end Go.Proofs.YtfjloafebkjadaaGreatDoor
