/- Watched literals, without a program. -/
import Derived.Test.YtfjloafebkjadaaGreatDoorPfM
import Derived.Test.YtfjloafebkjadaaGreatDoorPf4
/- Whether a whole number is in a row. -/
namespace Go.Proofs.YtfjloafebkjadaaGreatDoor
namespace Pf
open Go Go.AI Go.Proofs
variable {gt : Tree (List AV)}
theorem take_next {l : List Int} {i : Nat} (h : i < l.length) : l.take (i + 1) = l.take i ++ [l.getD i 0] := by
  rw [List.take_add_one, List.getElem?_eq_getElem h, List.getD_eq_getElem?_getD, List.getElem?_eq_getElem h]; rfl
theorem indexI_spec {h : AH} {v : AV} {l : List Int} (row : IntRow h v l) (x : Int) (hl : l.length ≤ 2 ^ 50) :
    EvF (TT gt) X 99 [v, .int .i64 x] h (fun r h' => h' = h ∧ ∃ k : Int, r = .int .i64 k ∧ (k ≥ 0 ↔ x ∈ l)) := by
  have ln := row.len (T := TT gt) (t := 35) rfl
  refine EvF.enter rfl rfl rfl ?_
  repeat (first | refine EvO.plain rfl rfl rfl rfl rfl rfl ?_ | refine EvO.plain rfl rfl rfl rfl rfl (by assumption) ?_ | refine EvC.seq ?_ | refine EvC.region rfl ?_ | refine EvO.nil ?_ | refine at_normal ?_ | refine EvC.block ?_)
  refine EvC.loop (fun m σ h' => h' = h ∧ ∃ (i : Nat) (E : Nat → AV), i ≤ l.length ∧ x ∉ l.take i ∧ m = l.length - i ∧ σ = upds [(0, v), (1, .int .i64 x), (6, v), (7, .int .i64 l.length), (8, .int .i64 i)] E) (l.length) ?_ ?_
  · exact ⟨rfl, 0, _, Nat.zero_le _, by simp, rfl, hold ⟨rfl, rfl, rfl, rfl, rfl, trivial⟩⟩
  · rintro m _ h ⟨rfl, i, E, hi, hx, rfl, rfl⟩
    repeat (first | refine EvO.plain rfl rfl rfl rfl rfl rfl ?_ | refine EvC.seq ?_ | refine EvC.region rfl ?_ | refine EvO.nil ?_ | refine at_normal ?_)
    refine EvC.decide rfl (fun hc => ?_) (fun hc => ?_)
    · have hlt : i < l.length := by omega
      have hOB := row.at1 (T := TT gt) (t := 35) (e := 3) rfl rfl rfl rfl (k := .i64) (i := i) (by omega) (by omega)
      obtain ⟨q, b1, b2⟩ := hOB
      rw [Int.toNat_natCast] at b2
      repeat (first | refine EvO.plain rfl rfl rfl rfl rfl rfl ?_ | refine EvO.plain rfl rfl rfl rfl rfl (by assumption) ?_ | refine EvC.seq ?_ | refine EvC.region rfl ?_ | refine EvO.nil ?_ | refine at_normal ?_ | refine EvC.skip ?_ | refine EvC.block ?_)
      by_cases e : x = l.getD i 0
      · refine EvC.cond (t := true) (isT (beq_true e)) (fun _ => ?_) (fun e => nomatch e)
        repeat (first | refine EvO.plain rfl rfl rfl rfl rfl rfl ?_ | refine EvC.seq ?_ | refine EvC.region rfl ?_ | refine EvO.nil ?_ | refine at_normal ?_ | refine EvC.ret ?_ | refine at_ret ?_ | refine be_ret ?_ | refine ro_ret ?_)
        (refine ret_is (v := .int .i64 i) rfl rfl ?_)
        exact ⟨rfl, i, rfl, ⟨fun _ => by rw [e]; exact getD_mem hlt, fun _ => by omega⟩⟩
      · refine EvC.cond (t := false) (isT (beq_false e)) (fun e => nomatch e) (fun _ => ?_)
        repeat (first | refine EvO.plain rfl rfl rfl rfl rfl rfl ?_ | refine EvC.region rfl ?_ | refine EvO.nil ?_ | refine at_normal ?_ | refine EvC.skip ?_ | refine be_normal ?_ | refine ro_normal ?_ | refine EvO.cons rfl rfl rfl (EvP.add64 rfl rfl (by omega) ?_))
        refine ⟨l.length - (i + 1), by omega, rfl, i + 1, _, by omega, ?_, rfl, hold ⟨rfl, rfl, rfl, rfl, rfl, trivial⟩⟩
        rw [take_next hlt]
        simp only [List.mem_append, List.mem_singleton]
        exact fun h => h.elim hx e
    · have hOB : i = l.length := by omega
      obtain rfl := hOB
      rw [List.take_length] at hx
      repeat (first | refine EvO.plain rfl rfl rfl rfl rfl rfl ?_ | refine EvC.seq ?_ | refine EvC.region rfl ?_ | refine EvO.nil ?_ | refine at_normal ?_ | refine EvC.ret ?_ | refine EvC.exit ?_ | refine at_exit ?_ | refine be_same rfl ?_ | refine ro_exit ?_)
      (refine ret_is (v := .int .i64 (-1)) rfl rfl ?_)
      exact ⟨rfl, -1, rfl, ⟨fun h => absurd h (by decide), fun h => absurd h hx⟩⟩
theorem containsI_spec {h : AH} {v : AV} {l : List Int} (row : IntRow h v l) (x : Int) (hl : l.length ≤ 2 ^ 50) :
    EvF (TT gt) X 69 [v, .int .i64 x] h (fun r h' => h' = h ∧ r = .bool (decide (x ∈ l))) := by
  refine EvF.enter rfl rfl rfl ?_
  repeat (first | refine EvO.plain rfl rfl rfl rfl rfl rfl ?_ | refine EvC.seq ?_ | refine EvC.region rfl ?_ | refine EvO.nil ?_ | refine at_normal ?_)
  (refine EvO.cons rfl rfl rfl (EvP.callF rfl rfl rfl rfl (EvF.mono (indexI_spec row x hl) ?_)))
  rintro _ h _ ⟨rfl, k, rfl, hk⟩
  repeat (first | refine EvO.plain rfl rfl rfl rfl rfl rfl ?_ | refine EvO.nil ?_ | refine at_normal ?_ | refine EvC.ret ?_)
  (refine ret_is (v := .bool (decide (k ≥ 0))) rfl rfl ?_)
  exact ⟨rfl, congrArg AV.bool (decide_eq_decide.2 hk)⟩
end Pf
end Go.Proofs.YtfjloafebkjadaaGreatDoor
/- Watched literals, without a program. -/
namespace Go.Proofs.YtfjloafebkjadaaGreatDoor
namespace Pf
namespace Sa
/-- The clauses as they are watched now, the rows of those that watch a literal, and the trail. -/
structure Ws where
  cls : List (List Int)
  wat : List (List Nat)
  tr : List Int
  ends : List Nat
  head : Nat
def Ws.c (S : Ws) (k : Nat) : List Int := S.cls.getD k []
def Ws.w (S : Ws) (k i : Nat) : Int := (S.c k).getD i 0
def Ws.row (S : Ws) (j : Nat) : List Nat := S.wat.getD j []
def wi (l : Int) : Nat := (ix l).toNat
theorem wi_inj {a b : Int} (h : wi a = wi b) (_ha : a ≠ 0) (_hb : b ≠ 0) : a = b := by
  unfold wi ix at h
  split at h <;> split at h <;> omega
theorem wi_lt {n : Nat} {a : Int} (h : ok n a) : wi a < 2 * n + 2 := by
  obtain ⟨_, h1, h2⟩ := h
  unfold wi ix; split <;> omega
/-- Who watches what. -/
structure WI (n : Nat) (S : Ws) : Prop where
  oks : ∀ k, ∀ x ∈ S.c k, ok n x
  two : ∀ k, k < S.cls.length → 2 ≤ (S.c k).length
  nod : ∀ k, (S.c k).Nodup
  len : S.wat.length = 2 * n + 2
  rnod : ∀ j, (S.row j).Nodup
  win : ∀ k, k < S.cls.length → ∀ i, i < 2 → k ∈ S.row (wi (S.w k i))
  wof : ∀ j, ∀ k ∈ S.row j, k < S.cls.length ∧ ∃ i, i < 2 ∧ wi (S.w k i) = j
/-- The trail. -/
structure TI (n : Nat) (S : Ws) : Prop where
  oks : ∀ x ∈ S.tr, ok n x
  cons : ∀ x, x ∈ S.tr → -x ∉ S.tr
  nodup : S.tr.Nodup
  hle : S.head ≤ S.tr.length
  ends : ∀ e ∈ S.ends, e ≤ S.head
/-- Where a watched literal is gone the other one holds. -/
structure CI (S : Ws) : Prop where
  ch : ∀ k, k < S.cls.length → ∀ i, i < 2 → -(S.w k i) ∈ S.tr.take S.head → S.w k (1 - i) ∈ S.tr
  ce : ∀ e ∈ S.ends, ∀ k, k < S.cls.length → ∀ i, i < 2 → -(S.w k i) ∈ S.tr.take e → S.w k (1 - i) ∈ S.tr.take e
theorem two_lt {i : Nat} (h : i < 2) : i = 0 ∨ i = 1 := by omega
theorem mem_getD {l : List Int} {i : Nat} (h : i < l.length) : l.getD i 0 ∈ l := by
  rw [List.getD_eq_getElem?_getD, List.getElem?_eq_getElem h]; exact List.getElem_mem h
theorem getD_ne {l : List Int} (h : l.Nodup) {i j : Nat} (hi : i < l.length) (hj : j < l.length) (hne : i ≠ j) : l.getD i 0 ≠ l.getD j 0 := by
  rw [List.getD_eq_getElem?_getD, List.getElem?_eq_getElem hi, List.getD_eq_getElem?_getD, List.getElem?_eq_getElem hj]
  have := List.nodup_iff_pairwise_ne.1 h
  rw [List.pairwise_iff_getElem] at this
  have hOB := Nat.lt_or_ge i j
  rcases hOB with h1 | h1
  · exact this i j hi hj h1
  · exact fun e => this j i hj hi (by omega) e.symm
theorem WI.mem {n : Nat} {S : Ws} (W : WI n S) {k i : Nat} (hk : k < S.cls.length) (hi : i < 2) : S.w k i ∈ S.c k := mem_getD (by have := W.two k hk; omega)
theorem WI.wok {n : Nat} {S : Ws} (W : WI n S) {k i : Nat} (hk : k < S.cls.length) (hi : i < 2) : ok n (S.w k i) := W.oks k _ (W.mem hk hi)
theorem WI.wne {n : Nat} {S : Ws} (W : WI n S) {k : Nat} (hk : k < S.cls.length) : S.w k 0 ≠ S.w k 1 := getD_ne (W.nod k) (by have := W.two k hk; omega) (by have := W.two k hk; omega) (by omega)
theorem TI.neg {n : Nat} {S : Ws} (T : TI n S) {x : Int} (h : -x ∈ S.tr) : x ∉ S.tr := fun hx => T.cons x hx h
/-- Two places of a list changed about. -/
def swap (l : List Int) (i j : Nat) : List Int := (l.set i (l.getD j 0)).set j (l.getD i 0)
theorem swap_len (l : List Int) (i j : Nat) : (swap l i j).length = l.length := by simp [swap]
theorem swap_at (l : List Int) {i j : Nat} (hi : i < l.length) (hj : j < l.length) (m : Nat) : (swap l i j).getD m 0 = if m = j then l.getD i 0 else if m = i then l.getD j 0 else l.getD m 0 := by
  unfold swap
  rw [List.getD_eq_getElem?_getD, List.getElem?_set]
  by_cases h1 : j = m
  · subst h1; rw [if_pos rfl, if_pos (by simpa using hj), if_pos rfl]; rfl
  · rw [if_neg h1, if_neg (fun e => h1 e.symm), List.getElem?_set]
    by_cases h2 : i = m
    · subst h2; rw [if_pos rfl, if_pos hi, if_pos rfl]; rfl
    · rw [if_neg h2, if_neg (fun e => h2 e.symm), ← List.getD_eq_getElem?_getD]
theorem swap_mem {l : List Int} {i j : Nat} (hi : i < l.length) (hj : j < l.length) {x : Int} : x ∈ swap l i j ↔ x ∈ l := by
  have key : ∀ (l : List Int), i < l.length → j < l.length → x ∈ swap l i j → x ∈ l := by
    intro l hi hj hx
    have hOB := List.getElem_of_mem hx
    obtain ⟨m, hm, e⟩ := hOB
    have e' : (swap l i j).getD m 0 = x := by rw [List.getD_eq_getElem?_getD, List.getElem?_eq_getElem hm]; exact e
    rw [swap_at l hi hj] at e'
    rw [swap_len] at hm
    split at e'
    · rw [← e']; exact mem_getD hi
    · split at e'
      · rw [← e']; exact mem_getD hj
      · rw [← e']; exact mem_getD hm
  refine ⟨key l hi hj, fun hx => key (swap l i j) (by rw [swap_len]; exact hi) (by rw [swap_len]; exact hj) ?_⟩
  have : swap (swap l i j) i j = l := by
    apply List.ext_getElem?
    intro m
    have hOB := Nat.lt_or_ge m l.length
    rcases hOB with h | h
    · have h1 : (swap (swap l i j) i j).getD m 0 = l.getD m 0 := by
        rw [swap_at _ (by rw [swap_len]; exact hi) (by rw [swap_len]; exact hj), swap_at l hi hj, swap_at l hi hj, swap_at l hi hj]
        by_cases e1 : m = j
        · subst e1; simp only [if_true]; split
          · rename_i e; rw [e]
          · rfl
        · rw [if_neg e1, if_neg e1]
          by_cases e2 : m = i
          · subst e2; simp
          · rw [if_neg e2, if_neg e2]
      rw [List.getD_eq_getElem?_getD, List.getElem?_eq_getElem (by rw [swap_len, swap_len]; exact h), List.getD_eq_getElem?_getD, List.getElem?_eq_getElem h] at h1
      rw [List.getElem?_eq_getElem (by rw [swap_len, swap_len]; exact h), List.getElem?_eq_getElem h]
      simpa using h1
    · rw [List.getElem?_eq_none (by rw [swap_len, swap_len]; exact h), List.getElem?_eq_none h]
  rw [this]; exact hx
theorem swap_nodup {l : List Int} {i j : Nat} (hi : i < l.length) (hj : j < l.length) (h : l.Nodup) : (swap l i j).Nodup := by
  have hl : ∀ {a b : Nat}, a < l.length → b < l.length → l.getD a 0 = l.getD b 0 → a = b := fun ha hb e => Classical.byContradiction fun hne => getD_ne h ha hb hne e
  rw [List.nodup_iff_pairwise_ne, List.pairwise_iff_getElem]
  intro a b ha hb hab e
  have ha' := ha
  have hb' := hb
  rw [swap_len] at ha' hb'
  have e' : (swap l i j).getD a 0 = (swap l i j).getD b 0 := by
    rw [List.getD_eq_getElem?_getD, List.getElem?_eq_getElem ha, List.getD_eq_getElem?_getD, List.getElem?_eq_getElem hb, e]
  have hs : ∀ m, (swap l i j).getD m 0 = l.getD (if m = j then i else if m = i then j else m) 0 := fun m => by
    rw [swap_at l hi hj]; split
    · rfl
    · split <;> rfl
  rw [hs, hs] at e'
  have h1 : ∀ m, m < l.length → (if m = j then i else if m = i then j else m) < l.length := fun m hm => by
    split
    · exact hi
    · split
      · exact hj
      · exact hm
  have h2 := hl (h1 a ha') (h1 b hb') e'
  split at h2 <;> split at h2 <;> (try split at h2) <;> (try split at h2) <;> omega
/-- A clause's literals changed about. -/
def Ws.sw (S : Ws) (k i j : Nat) : Ws := { S with cls := S.cls.set k (swap (S.c k) i j) }
theorem sw_c (S : Ws) {k i j : Nat} (hk : k < S.cls.length) (m : Nat) : (S.sw k i j).c m = if m = k then swap (S.c k) i j else S.c m := by
  unfold Ws.sw Ws.c
  simp only
  rw [List.getD_eq_getElem?_getD, List.getElem?_set]
  by_cases h : k = m
  · subst h; rw [if_pos rfl, if_pos hk, if_pos rfl]; rfl
  · rw [if_neg h, if_neg (fun e => h e.symm), List.getD_eq_getElem?_getD]
theorem sw_len (S : Ws) (k i j : Nat) : (S.sw k i j).cls.length = S.cls.length := by simp [Ws.sw]
theorem sw_mem (S : Ws) {k i j : Nat} (hk : k < S.cls.length) (hi : i < (S.c k).length) (hj : j < (S.c k).length) (m : Nat) (x : Int) : x ∈ (S.sw k i j).c m ↔ x ∈ S.c m := by
  rw [sw_c S hk]
  split
  · rename_i e; rw [e]; exact swap_mem hi hj
  · exact Iff.rfl
/-- The first two changed about. -/
theorem sw01_w (S : Ws) {k : Nat} (hk : k < S.cls.length) (h2 : 2 ≤ (S.c k).length) (m i : Nat) (hi : i < 2) : (S.sw k 0 1).w m i = if m = k then S.w k (1 - i) else S.w m i := by
  unfold Ws.w
  rw [sw_c S hk]
  split
  · rw [swap_at _ (by omega) (by omega)]
    have hOB := two_lt hi
    rcases hOB with rfl | rfl <;> rfl
  · rfl
theorem sw_row (S : Ws) (k i j m : Nat) : (S.sw k i j).row m = S.row m := rfl
theorem WI.sw01 {n : Nat} {S : Ws} (W : WI n S) {k : Nat} (hk : k < S.cls.length) : WI n (S.sw k 0 1) := by
  have h2 := W.two k hk
  have hw := sw01_w S hk h2
  refine ⟨fun m x hx => W.oks m x ((sw_mem S hk (by omega) (by omega) m x).1 hx), fun m hm => ?_, fun m => ?_, W.len, W.rnod, fun m hm i hi => ?_, fun j m hm => ?_⟩
  · rw [sw_len] at hm
    rw [sw_c S hk]; split
    · rw [swap_len]; exact h2
    · exact W.two m hm
  · rw [sw_c S hk]; split
    · exact swap_nodup (by omega) (by omega) (W.nod k)
    · exact W.nod m
  · rw [sw_len] at hm
    rw [hw m i hi, sw_row]
    split
    · rename_i e; subst e; exact W.win m hm _ (by omega)
    · exact W.win m hm i hi
  · rw [sw_row] at hm
    have hOB := W.wof j m hm
    obtain ⟨h3, i, hi, h4⟩ := hOB
    rw [sw_len]
    refine ⟨h3, ?_⟩
    by_cases e : m = k
    · refine ⟨1 - i, by omega, ?_⟩
      rw [hw m _ (by omega), if_pos e, ← e]
      have hOB := two_lt hi
      rcases hOB with rfl | rfl <;> exact h4
    · exact ⟨i, hi, by rw [hw m i hi, if_neg e]; exact h4⟩
theorem CI.sw01 {n : Nat} {S : Ws} (C : CI S) (W : WI n S) {k : Nat} (hk : k < S.cls.length) : CI (S.sw k 0 1) := by
  have hw := sw01_w S hk (W.two k hk)
  have h1 : ∀ i, i < 2 → 1 - i < 2 := fun i hi => by omega
  refine ⟨fun m hm i hi => ?_, fun e he m hm i hi => ?_⟩
  · rw [sw_len] at hm
    rw [hw m i hi, hw m _ (h1 i hi)]
    split
    · rename_i e
      have hOB := two_lt hi
      rcases hOB with rfl | rfl
      · exact C.ch k hk 1 (by omega)
      · exact C.ch k hk 0 (by omega)
    · exact C.ch m hm i hi
  · rw [sw_len] at hm
    rw [hw m i hi, hw m _ (h1 i hi)]
    split
    · have hOB := two_lt hi
      rcases hOB with rfl | rfl
      · exact C.ce e he k hk 1 (by omega)
      · exact C.ce e he k hk 0 (by omega)
    · exact C.ce e he m hm i hi
/-- A clause watches another literal in place of its second one. -/
def Ws.mv (S : Ws) (k i g : Nat) : Ws := { S with cls := S.cls.set k (swap (S.c k) 1 i), wat := (S.wat.set g ((S.row g).erase k)).set (wi ((S.c k).getD i 0)) ((S.wat.set g ((S.row g).erase k)).getD (wi ((S.c k).getD i 0)) [] ++ [k]) }
theorem mv_len (S : Ws) (k i g : Nat) : (S.mv k i g).cls.length = S.cls.length := by simp [Ws.mv]
theorem mv_c (S : Ws) {k i g : Nat} (hk : k < S.cls.length) (m : Nat) : (S.mv k i g).c m = if m = k then swap (S.c k) 1 i else S.c m := sw_c S hk m
theorem mv_mem (S : Ws) {k i g : Nat} (hk : k < S.cls.length) (h1 : 1 < (S.c k).length) (hi : i < (S.c k).length) (m : Nat) (x : Int) : x ∈ (S.mv k i g).c m ↔ x ∈ S.c m := sw_mem S hk h1 hi m x
theorem mv_w (S : Ws) {k i g : Nat} (hk : k < S.cls.length) (hi : 2 ≤ i) (hl : i < (S.c k).length) (m a : Nat) (ha : a < 2) : (S.mv k i g).w m a = if m = k then (if a = 0 then S.w k 0 else (S.c k).getD i 0) else S.w m a := by
  unfold Ws.w
  rw [mv_c S hk]
  split
  · rw [swap_at _ (by omega) hl]
    have hOB := two_lt ha
    rcases hOB with rfl | rfl
    · rw [if_neg (by omega), if_neg (by omega), if_pos rfl]
    · rw [if_neg (by omega), if_pos rfl, if_neg (by omega)]
  · rfl
theorem mv_row (S : Ws) {k i g : Nat} (hg : g < S.wat.length) (hn : wi ((S.c k).getD i 0) < S.wat.length) (hne : wi ((S.c k).getD i 0) ≠ g) (j : Nat) : (S.mv k i g).row j = if j = wi ((S.c k).getD i 0) then S.row j ++ [k] else if j = g then (S.row g).erase k else S.row j := by
  have h0 : ∀ j', (S.wat.set g ((S.row g).erase k)).getD j' [] = if j' = g then (S.row g).erase k else S.row j' := fun j' => by
    rw [List.getD_eq_getElem?_getD, List.getElem?_set]
    by_cases e : g = j'
    · subst e; rw [if_pos rfl, if_pos hg, if_pos rfl]; rfl
    · rw [if_neg e, if_neg (fun e' => e e'.symm)]; unfold Ws.row; rw [List.getD_eq_getElem?_getD]
  show ((S.wat.set g ((S.row g).erase k)).set (wi ((S.c k).getD i 0)) _).getD j [] = _
  rw [List.getD_eq_getElem?_getD, List.getElem?_set]
  by_cases e : wi ((S.c k).getD i 0) = j
  · subst e
    rw [if_pos rfl, if_pos (by simpa using hn), if_pos rfl, Option.getD_some, h0, if_neg hne]
  · rw [if_neg e, if_neg (fun e' => e e'.symm), ← List.getD_eq_getElem?_getD, h0]
theorem WI.mv {n : Nat} {S : Ws} (W : WI n S) {k i g : Nat} (hk : k < S.cls.length) (hi : 2 ≤ i) (hl : i < (S.c k).length) (hg : wi (S.w k 1) = g) : WI n (S.mv k i g) := by
  have h2 := W.two k hk
  have hx : ok n ((S.c k).getD i 0) := W.oks k _ (mem_getD hl)
  have o1 := W.wok hk (i := 1) (by omega)
  have o0 := W.wok hk (i := 0) (by omega)
  have hglt : g < S.wat.length := by rw [W.len, ← hg]; exact wi_lt o1
  have hnlt : wi ((S.c k).getD i 0) < S.wat.length := by rw [W.len]; exact wi_lt hx
  have hd1 : (S.c k).getD i 0 ≠ S.w k 1 := getD_ne (W.nod k) hl (by omega) (by omega)
  have hd0 : (S.c k).getD i 0 ≠ S.w k 0 := getD_ne (W.nod k) hl (by omega) (by omega)
  have hne : wi ((S.c k).getD i 0) ≠ g := fun e => hd1 (wi_inj (e.trans hg.symm) hx.1 o1.1)
  have h0g : wi (S.w k 0) ≠ g := fun e => W.wne hk (wi_inj (e.trans hg.symm) o0.1 o1.1)
  have hw := fun m a ha => mv_w S (g := g) hk hi hl m a ha
  have hr := fun j => mv_row S (k := k) (i := i) hglt hnlt hne j
  have hnot : k ∉ S.row (wi ((S.c k).getD i 0)) := fun hm => by
    have hOB := W.wof _ k hm
    obtain ⟨_, a, ha, e⟩ := hOB
    have := wi_inj e (W.wok hk ha).1 hx.1
    have hOB := two_lt ha
    rcases hOB with rfl | rfl
    · exact hd0 this.symm
    · exact hd1 this.symm
  refine ⟨fun m x hx => W.oks m x ((mv_mem S hk (by omega) hl m x).1 hx), fun m hm => ?_, fun m => ?_, by simp [Ws.mv, W.len], fun j => ?_, fun m hm a ha => ?_, fun j m hm => ?_⟩
  · rw [mv_len] at hm
    rw [mv_c S hk]; split
    · rw [swap_len]; exact h2
    · exact W.two m hm
  · rw [mv_c S hk]; split
    · exact swap_nodup (by omega) hl (W.nod k)
    · exact W.nod m
  · rw [hr]; split
    · rename_i e
      rw [List.nodup_append]
      refine ⟨W.rnod j, by simp, fun a ha b hb => ?_⟩
      rw [List.mem_singleton.1 hb]
      intro e'
      rw [e, e'] at ha
      exact hnot ha
    · split
      · exact (W.rnod g).erase k
      · exact W.rnod j
  · rw [mv_len] at hm
    rw [hw m a ha, hr]
    by_cases e : m = k
    · subst e
      rw [if_pos rfl]
      have hOB := two_lt ha
      rcases hOB with rfl | rfl
      · rw [if_pos rfl, if_neg (fun e => hd0 (wi_inj e o0.1 hx.1).symm), if_neg h0g]
        exact W.win m hm 0 (by omega)
      · rw [if_neg (show ¬ ((1 : Nat) = 0) by omega), if_pos rfl]; simp
    · rw [if_neg e]
      have h3 := W.win m hm a ha
      split
      · exact List.mem_append_left _ h3
      · split
        · rename_i e'
          rw [e'] at h3
          exact (List.mem_erase_of_ne e).2 h3
        · exact h3
  · rw [hr] at hm
    rw [mv_len]
    have key : ∀ m, m ∈ S.row j → m ≠ k → m < S.cls.length ∧ ∃ a, a < 2 ∧ wi ((S.mv k i g).w m a) = j := fun m hm hne' => by
      have hOB := W.wof j m hm
      obtain ⟨h3, a, ha, h4⟩ := hOB
      exact ⟨h3, a, ha, by rw [hw m a ha, if_neg hne']; exact h4⟩
    split at hm
    · rename_i e
      have hOB := List.mem_append.1 hm
      rcases hOB with h3 | h3
      · refine key m h3 (fun e' => ?_)
        rw [e', e] at h3; exact hnot h3
      · have : m = k := List.mem_singleton.1 h3
        subst this
        exact ⟨hk, 1, by omega, by rw [hw m 1 (by omega), if_pos rfl, if_neg (by omega)]; exact e.symm⟩
    · split at hm
      · rename_i e
        have h3 := (W.rnod g).mem_erase_iff.1 hm
        exact key m (e ▸ h3.2) h3.1
      · rename_i hjg
        by_cases e : m = k
        · subst e
          have hOB := W.wof j m hm
          obtain ⟨_, a, ha, h4⟩ := hOB
          have hOB := two_lt ha
          rcases hOB with rfl | rfl
          · exact ⟨hk, 0, by omega, by rw [hw m 0 (by omega), if_pos rfl, if_pos rfl]; exact h4⟩
          · exact absurd (h4.symm.trans hg) hjg
        · exact key m hm e
theorem CI.mv {n : Nat} {S : Ws} (C : CI S) (T : TI n S) {k i g : Nat} (hk : k < S.cls.length) (hi : 2 ≤ i) (hl : i < (S.c k).length) (hgone : -(S.w k 1) ∈ S.tr) (hnew : -((S.c k).getD i 0) ∉ S.tr) : CI (S.mv k i g) := by
  have hw := fun m a ha => mv_w S (g := g) hk hi hl m a ha
  have h1 : ∀ i, i < 2 → 1 - i < 2 := fun i hi => by omega
  have hn := T.neg hgone
  refine ⟨fun m hm a ha => ?_, fun e he m hm a ha => ?_⟩
  · rw [mv_len] at hm
    rw [hw m a ha, hw m _ (h1 a ha)]
    split
    · have hOB := two_lt ha
      rcases hOB with rfl | rfl
      · rw [if_pos rfl]
        intro h
        exact absurd (C.ch k hk 0 (by omega) h) hn
      · rw [if_neg (by omega)]
        intro h
        exact absurd (List.mem_of_mem_take h) hnew
    · exact C.ch m hm a ha
  · rw [mv_len] at hm
    rw [hw m a ha, hw m _ (h1 a ha)]
    split
    · have hOB := two_lt ha
      rcases hOB with rfl | rfl
      · rw [if_pos rfl]
        intro h
        exact absurd (List.mem_of_mem_take (C.ce e he k hk 0 (by omega) h)) hn
      · rw [if_neg (by omega)]
        intro h
        exact absurd (List.mem_of_mem_take h) hnew
    · exact C.ce e he m hm a ha
/-- A literal more. -/
def Ws.push (S : Ws) (l : Int) : Ws := { S with tr := S.tr ++ [l] }
theorem WI.push {n : Nat} {S : Ws} (W : WI n S) (l : Int) : WI n (S.push l) := ⟨W.oks, W.two, W.nod, W.len, W.rnod, W.win, W.wof⟩
theorem TI.push {n : Nat} {S : Ws} (T : TI n S) {l : Int} (hl : ok n l) (h1 : l ∉ S.tr) (h2 : -l ∉ S.tr) : TI n (S.push l) where
  oks := fun x hx => by
    have hOB := List.mem_append.1 hx
    rcases hOB with h | h
    · exact T.oks x h
    · rw [List.mem_singleton.1 h]; exact hl
  cons := fun x hx hn => by
    have hOB := List.mem_append.1 hx
    rcases hOB with h | h
    · have hOB := List.mem_append.1 hn
      rcases hOB with h' | h'
      · exact T.cons x h h'
      · have := List.mem_singleton.1 h'
        exact h2 (by rw [← this, Int.neg_neg]; exact h)
    · have := List.mem_singleton.1 h
      subst this
      have hOB := List.mem_append.1 hn
      rcases hOB with h' | h'
      · exact h2 h'
      · have := List.mem_singleton.1 h'
        have := hl.1; omega
  nodup := by
    show (S.tr ++ [l]).Nodup
    rw [List.nodup_append]
    exact ⟨T.nodup, by simp, fun a ha b hb => by rw [List.mem_singleton.1 hb]; intro e; exact h1 (e ▸ ha)⟩
  hle := by show S.head ≤ (S.tr ++ [l]).length; have := T.hle; simp; omega
  ends := T.ends
theorem CI.push {n : Nat} {S : Ws} (C : CI S) (T : TI n S) (l : Int) : CI (S.push l) where
  ch := fun k hk i hi h => by
    have h : -(S.w k i) ∈ (S.tr ++ [l]).take S.head := h
    rw [List.take_append_of_le_length T.hle] at h
    exact List.mem_append_left _ (C.ch k hk i hi h)
  ce := fun e he k hk i hi h => by
    have h : -(S.w k i) ∈ (S.tr ++ [l]).take e := h
    show S.w k (1 - i) ∈ (S.tr ++ [l]).take e
    have hle := Nat.le_trans (T.ends e he) T.hle
    rw [List.take_append_of_le_length hle] at h ⊢
    exact C.ce e he k hk i hi h
/-- What has been gone through of a literal's row: the other watched literal of each holds. -/
def Gn (S : Ws) (gone : Int) (rest : List Nat) : Prop := ∀ k, k < S.cls.length → k ∉ rest → ∀ i, i < 2 → S.w k i = gone → S.w k (1 - i) ∈ S.tr
theorem Gn.start {n : Nat} {S : Ws} (W : WI n S) (gone : Int) : Gn S gone (S.row (wi gone)) := fun k hk hn i hi e => absurd (by rw [← e]; exact W.win k hk i hi) hn
theorem Gn.sw01 {n : Nat} {S : Ws} (W : WI n S) {gone : Int} {rest : List Nat} (g : Gn S gone rest) {k : Nat} (hk : k < S.cls.length) (hr : k ∈ rest) : Gn (S.sw k 0 1) gone rest := fun m hm hn i hi => by
  rw [sw_len] at hm
  have hne : m ≠ k := fun e => hn (e ▸ hr)
  rw [sw01_w S hk (W.two k hk) m i hi, sw01_w S hk (W.two k hk) m _ (by omega), if_neg hne, if_neg hne]
  exact g m hm hn i hi
theorem Gn.keep {n : Nat} {S : Ws} (W : WI n S) {gone : Int} {k : Nat} {rest : List Nat} (g : Gn S gone (k :: rest)) (hg : S.w k 1 = gone) (h : S.w k 0 ∈ S.tr) : Gn S gone rest := fun m hm hn i hi e => by
  by_cases hmk : m = k
  · subst hmk
    have hOB := two_lt hi
    rcases hOB with rfl | rfl
    · exact absurd (e.trans hg.symm) (W.wne hm)
    · exact h
  · exact g m hm (fun h' => (List.mem_cons.1 h').elim hmk hn) i hi e
theorem Gn.push {S : Ws} {gone : Int} {rest : List Nat} (g : Gn S gone rest) (l : Int) : Gn (S.push l) gone rest := fun k hk hn i hi e => List.mem_append_left _ (g k hk hn i hi e)
theorem Gn.mv {n : Nat} {S : Ws} (W : WI n S) {gone : Int} {k i gi : Nat} {rest : List Nat} (g : Gn S gone (k :: rest)) (hk : k < S.cls.length) (hi : 2 ≤ i) (hl : i < (S.c k).length) (hg : S.w k 1 = gone) : Gn (S.mv k i gi) gone rest := fun m hm hn a ha e => by
  rw [mv_len] at hm
  have hw := fun m a ha => mv_w S (g := gi) hk hi hl m a ha
  rw [hw m a ha] at e
  rw [hw m _ (by omega)]
  by_cases hmk : m = k
  · subst hmk
    rw [if_pos rfl] at e
    have hOB := two_lt ha
    rcases hOB with rfl | rfl
    · rw [if_pos rfl] at e
      exact absurd (e.trans hg.symm) (W.wne hm)
    · rw [if_neg (by omega)] at e
      exact absurd (e.trans hg.symm) (getD_ne (W.nod m) hl (by have := W.two m hm; omega) (by omega))
  · rw [if_neg hmk] at e ⊢
    exact g m hm (fun h' => (List.mem_cons.1 h').elim hmk hn) a ha e
/-- The literal has been gone through. -/
def Ws.adv (S : Ws) : Ws := { S with head := S.head + 1 }
theorem TI.adv {n : Nat} {S : Ws} (T : TI n S) (h : S.head < S.tr.length) : TI n S.adv := ⟨T.oks, T.cons, T.nodup, h, fun e he => Nat.le_succ_of_le (T.ends e he)⟩
theorem CI.adv {S : Ws} (C : CI S) (h : S.head < S.tr.length) (g : Gn S (-(S.tr.getD S.head 0)) []) : CI S.adv where
  ch := fun k hk i hi hm => by
    have hm : -(S.w k i) ∈ S.tr.take (S.head + 1) := hm
    rw [List.take_add_one, List.mem_append] at hm
    rcases hm with hm | hm
    · exact C.ch k hk i hi hm
    · refine g k hk (fun e => nomatch e) i hi ?_
      rw [List.getD_eq_getElem?_getD]
      rw [List.getElem?_eq_getElem h] at hm ⊢
      have : -(S.w k i) = S.tr[S.head] := by simpa using hm
      show S.w k i = -(S.tr[S.head])
      omega
  ce := C.ce
/-- Where all of the trail has been gone through each clause is settled. -/
theorem settled_all {n : Nat} {S : Ws} (W : WI n S) (_T : TI n S) (C : CI S) (h : S.head = S.tr.length) {k : Nat} (hk : k < S.cls.length) : settled S.tr (S.c k) := by
  have hch := C.ch
  rw [h, List.take_length] at hch
  have m0 := W.mem hk (i := 0) (by omega)
  have m1 := W.mem hk (i := 1) (by omega)
  by_cases h0 : S.w k 0 ∈ S.tr
  · exact .inl ⟨_, m0, h0⟩
  by_cases h1 : S.w k 1 ∈ S.tr
  · exact .inl ⟨_, m1, h1⟩
  refine .inr ⟨_, m0, _, m1, W.wne hk, ofT_zero.2 ⟨h0, fun e => h1 (hch k hk 0 (by omega) e)⟩, ofT_zero.2 ⟨h1, fun e => h0 (hch k hk 1 (by omega) e)⟩⟩
end Sa
end Pf
end Go.Proofs.YtfjloafebkjadaaGreatDoor
