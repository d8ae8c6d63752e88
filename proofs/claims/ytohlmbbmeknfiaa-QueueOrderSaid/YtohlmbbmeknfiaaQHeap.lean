/- A heap of times and keys, without a program. -/
import Derived.Test.YtohlmbbmeknfiaaAIMap
/- A heap of times and keys, without a program. -/
namespace Go.AI.Q
abbrev It := Int × Int
def lt (a b : It) : Prop := a.1 < b.1 ∨ a.1 = b.1 ∧ a.2 < b.2
instance : DecidableRel lt := fun a b => by unfold lt; infer_instance
def le (a b : It) : Prop := ¬ lt b a
theorem le_trans {a b c : It} (h : le a b) (g : le b c) : le a c := by unfold le lt at *; omega
theorem le_of_lt {a b : It} (h : lt a b) : le a b := by unfold le lt at *; omega
theorem le_refl (a : It) : le a a := by unfold le lt; omega
def z : It := (0, 0)
def at' (hp : List It) (i : Nat) : It := hp.getD i z
def swapL (hp : List It) (i j : Nat) : List It := (hp.set i (at' hp j)).set j (at' hp i)
theorem swap_len (hp : List It) (i j : Nat) : (swapL hp i j).length = hp.length := by simp [swapL]
theorem at_set {hp : List It} {i k : Nat} {x : It} (hi : i < hp.length) : at' (hp.set i x) k = if k = i then x else at' hp k := by
  unfold at'
  rw [List.getD_eq_getElem?_getD, List.getElem?_set]
  split
  · rename_i h; subst h; rw [if_pos rfl]; first | rfl | (rw [if_pos hi]; rfl)
  · rename_i h; rw [if_neg (fun e => h e.symm), List.getD_eq_getElem?_getD]
theorem at_swap {hp : List It} {i j k : Nat} (hi : i < hp.length) (hj : j < hp.length) : at' (swapL hp i j) k = if k = j then at' hp i else if k = i then at' hp j else at' hp k := by
  unfold swapL
  rw [at_set (by simpa using hj)]
  split
  · rfl
  · rw [at_set hi]
def par (i : Nat) : Nat := (i - 1) / 2
def Hp (hp : List It) : Prop := ∀ j, 0 < j → j < hp.length → le (at' hp (par j)) (at' hp j)
/-- In order but at one place. -/
def But (hp : List It) (i : Nat) : Prop := (∀ j, 0 < j → j < hp.length → j ≠ i → par j ≠ i → le (at' hp (par j)) (at' hp j)) ∧ (0 < i → ∀ j, 0 < j → j < hp.length → par j = i → le (at' hp (par i)) (at' hp j))
theorem up {hp : List It} {i : Nat} (B : But hp i) (h0 : 0 < i) (hi : i < hp.length) (hl : lt (at' hp i) (at' hp (par i))) : But (swapL hp i (par i)) (par i) := by
  have hp' : par i < hp.length := by unfold par; omega
  have hpi : par i < i := by unfold par; omega
  have sw := fun k => at_swap (k := k) hi hp'
  refine ⟨fun j j0 hj h1 h2 => ?_, fun g0 j j0 hj h1 => ?_⟩
  · rw [swap_len] at hj
    have hji : j ≠ i := fun e => h2 (by rw [e])
    rw [sw, sw, if_neg h2, if_neg h1, if_neg hji]
    split
    · rename_i e
      exact B.2 h0 j j0 hj e
    · rename_i e
      exact B.1 j j0 hj hji e
  · rw [swap_len] at hj
    have hpp : par (par i) < par i := by unfold par at *; omega
    have hb := B.1 (par i) g0 hp' (by omega) (by omega)
    rw [sw, sw, if_neg (by omega), if_neg (by omega), if_neg (by have := h1; unfold par at *; omega)]
    split
    · exact hb
    · rename_i e
      exact le_trans hb (by have := B.1 j j0 hj e (by omega); rwa [h1] at this)
/-- In order but for what comes below one place. -/
def Dn (hp : List It) (i : Nat) : Prop := But hp i ∧ (0 < i → le (at' hp (par i)) (at' hp i))
theorem done {hp : List It} {i : Nat} (D : Dn hp i) (h : ∀ j, 0 < j → j < hp.length → par j = i → le (at' hp i) (at' hp j)) : Hp hp := fun j j0 hj => by
  by_cases e : j = i
  · rw [e]; exact D.2 (by omega)
  · by_cases e2 : par j = i
    · rw [e2]; exact h j j0 hj e2
    · exact D.1.1 j j0 hj e e2
theorem down {hp : List It} {i c : Nat} (D : Dn hp i) (c0 : 0 < c) (hc : c < hp.length) (hpc : par c = i) (hl : lt (at' hp c) (at' hp i)) (h : ∀ j, 0 < j → j < hp.length → par j = i → le (at' hp c) (at' hp j)) : Dn (swapL hp i c) c := by
  have hic : i < c := by unfold par at hpc; omega
  have hi : i < hp.length := by omega
  have sw := fun k => at_swap (k := k) hi hc
  refine ⟨⟨fun j j0 hj h1 h2 => ?_, fun g0 j j0 hj h1 => ?_⟩, fun g0 => ?_⟩
  · rw [swap_len] at hj
    rw [sw, sw, if_neg h2, if_neg h1]
    by_cases e : j = i
    · rw [if_pos e, if_neg (by rw [e]; unfold par; omega), e]
      exact D.1.2 (by omega) c c0 hc hpc
    · rw [if_neg e]
      split
      · rename_i e2; exact h j j0 hj e2
      · rename_i e2; exact D.1.1 j j0 hj e e2
  · rw [swap_len] at hj
    have hjc : c < j := by unfold par at h1; omega
    rw [hpc, sw, sw, if_neg (by omega), if_pos rfl, if_neg (by omega), if_neg (by omega)]
    have := D.1.1 j j0 hj (by omega) (by omega)
    rwa [h1] at this
  · rw [hpc, sw, sw, if_neg (by omega), if_pos rfl, if_pos rfl]
    exact le_of_lt hl
theorem least {hp : List It} (H : Hp hp) : ∀ n i, i < n → i < hp.length → le (at' hp 0) (at' hp i)
  | 0, _, h, _ => absurd h (Nat.not_lt_zero _)
  | n + 1, i, h, hi => by
    rcases Nat.eq_zero_or_pos i with rfl | h0
    · exact le_refl _
    · have hlt : par i < i := by unfold par; omega
      exact le_trans (least H n (par i) (by omega) (by omega)) (H i h0 hi)
/-- Each key once. -/
def Kd (hp : List It) : Prop := ∀ i j, i < hp.length → j < hp.length → (at' hp i).2 = (at' hp j).2 → i = j
theorem kd_swap {hp : List It} (K : Kd hp) {i j : Nat} (hi : i < hp.length) (hj : j < hp.length) : Kd (swapL hp i j) := fun a b ha hb e => by
  rw [swap_len] at ha hb
  have sw := fun k => at_swap (k := k) hi hj
  rw [sw, sw] at e
  have := fun a b ha hb e => K a b ha hb e
  split at e <;> split at e <;> (try split at e) <;> (try split at e) <;> (have := K _ _ (by omega) (by omega) e; omega)
/-- What is in it. -/
def In (hp : List It) (x : It) : Prop := ∃ i, i < hp.length ∧ at' hp i = x
theorem in_swap {hp : List It} {i j : Nat} (hi : i < hp.length) (hj : j < hp.length) {x : It} : In (swapL hp i j) x ↔ In hp x := by
  have sw := fun k => at_swap (k := k) hi hj
  constructor
  · rintro ⟨k, hk, rfl⟩
    rw [swap_len] at hk
    rw [sw]
    split
    · exact ⟨i, hi, rfl⟩
    · split
      · exact ⟨j, hj, rfl⟩
      · exact ⟨k, hk, rfl⟩
  · rintro ⟨k, hk, rfl⟩
    by_cases e : k = i
    · exact ⟨j, by rw [swap_len]; exact hj, by rw [sw, if_pos rfl, e]⟩
    · by_cases e2 : k = j
      · refine ⟨i, by rw [swap_len]; exact hi, ?_⟩
        rw [sw]
        split
        · rename_i h; rw [e2, h]
        · rw [if_pos rfl, e2]
      · exact ⟨k, by rw [swap_len]; exact hk, by rw [sw, if_neg e2, if_neg e]⟩
/-- A heap with as much in it as another one, each key once. -/
structure Same (hp hp' : List It) : Prop where
  len : hp'.length = hp.length
  kd : Kd hp → Kd hp'
  inn : ∀ x, In hp' x ↔ In hp x
theorem Same.refl (hp : List It) : Same hp hp := ⟨rfl, id, fun _ => Iff.rfl⟩
theorem Same.trans {a b c : List It} (h : Same a b) (g : Same b c) : Same a c := ⟨g.len.trans h.len, fun k => g.kd (h.kd k), fun x => (g.inn x).trans (h.inn x)⟩
theorem Same.swap {hp : List It} {i j : Nat} (hi : i < hp.length) (hj : j < hp.length) : Same hp (swapL hp i j) := ⟨swap_len .., fun K => kd_swap K hi hj, fun _ => in_swap hi hj⟩
end Go.AI.Q
/- Where each key of a heap is, without a program. -/
namespace Go.AI.Q
open Go.AI
structure Pos (hp : List It) (m : List (Int × AV)) : Prop where
  here : ∀ i, i < hp.length → mget m (at' hp i).2 = some (.int .i64 i)
  only : ∀ k v, mget m k = some v → ∃ i, i < hp.length ∧ (at' hp i).2 = k
variable {hp : List It} {m : List (Int × AV)}
theorem Pos.kd (p : Pos hp m) : Kd hp := fun i j hi hj e => by
  have h1 := p.here i hi
  rw [e, p.here j hj] at h1
  injection h1 with h1
  injection h1 with _ h1
  omega
theorem Pos.swap (p : Pos hp m) {i j : Nat} (hi : i < hp.length) (hj : j < hp.length) : Pos (swapL hp i j) (mput (mput m (at' hp j).2 (.int .i64 i)) (at' hp i).2 (.int .i64 j)) where
  here := fun k hk => by
    rw [swap_len] at hk
    rw [at_swap hi hj, mget_mput, mget_mput]
    by_cases h1 : k = j
    · rw [if_pos h1, if_pos rfl, h1]
    · by_cases h2 : k = i
      · rw [if_neg h1, if_pos h2, if_pos rfl]
        rw [if_neg (fun e => h1 (h2.trans (p.kd i j hi hj e))), h2]
      · rw [if_neg h1, if_neg h2, if_neg (fun e => h2 (p.kd i k hi hk e).symm), if_neg (fun e => h1 (p.kd j k hj hk e).symm)]
        exact p.here k hk
  only := fun k v h => by
    rw [mget_mput, mget_mput] at h
    have sw := fun k => at_swap (k := k) hi hj
    by_cases h1 : (at' hp i).2 = k
    · exact ⟨j, by rw [swap_len]; exact hj, by rw [sw, if_pos rfl]; exact h1⟩
    · rw [if_neg h1] at h
      by_cases h2 : (at' hp j).2 = k
      · refine ⟨i, by rw [swap_len]; exact hi, ?_⟩
        rw [sw]
        split
        · rename_i e; subst e; exact h2
        · rw [if_pos rfl]; exact h2
      · rw [if_neg h2] at h
        obtain ⟨a, a1, a2⟩ := p.only k v h
        refine ⟨a, by rw [swap_len]; exact a1, ?_⟩
        rw [sw, if_neg (fun e => h2 (by rw [← e]; exact a2)), if_neg (fun e => h1 (by rw [← e]; exact a2))]
        exact a2
theorem at_app {x : It} {k : Nat} : at' (hp ++ [x]) k = if k < hp.length then at' hp k else if k = hp.length then x else z := by
  unfold at'
  rw [List.getD_eq_getElem?_getD, List.getD_eq_getElem?_getD]
  split
  · rename_i h; rw [List.getElem?_append_left h]
  · rename_i h
    rw [List.getElem?_append_right (by omega)]
    split
    · rename_i h2; rw [h2, Nat.sub_self]; rfl
    · rename_i h2; rw [List.getElem?_eq_none (by simp; omega)]; rfl
theorem Pos.add (p : Pos hp m) {t k : Int} (hn : mget m k = none) : Pos (hp ++ [(t, k)]) (mput m k (.int .i64 hp.length)) where
  here := fun i hi => by
    rw [List.length_append] at hi
    rw [at_app, mget_mput]
    split
    · rename_i h
      rw [if_neg (fun e => by rw [e, p.here i h] at hn; cases hn)]
      exact p.here i h
    · rename_i h
      have : i = hp.length := by simp at hi; omega
      rw [if_pos this, if_pos rfl, this]
  only := fun k' v h => by
    rw [mget_mput] at h
    by_cases h1 : k = k'
    · exact ⟨hp.length, by simp, by rw [at_app, if_neg (Nat.lt_irrefl _), if_pos rfl]; exact h1⟩
    · rw [if_neg h1] at h
      obtain ⟨i, i1, i2⟩ := p.only k' v h
      exact ⟨i, by simp; omega, by rw [at_app, if_pos i1]; exact i2⟩
theorem Pos.set (p : Pos hp m) {i : Nat} (hi : i < hp.length) (t : Int) : Pos (hp.set i (t, (at' hp i).2)) m where
  here := fun j hj => by
    rw [List.length_set] at hj
    rw [at_set hi]
    split
    · rename_i e; rw [e]; exact p.here i hi
    · exact p.here j hj
  only := fun k v h => by
    obtain ⟨j, j1, j2⟩ := p.only k v h
    refine ⟨j, by rw [List.length_set]; exact j1, ?_⟩
    rw [at_set hi]
    split
    · rename_i e; rw [← e]; exact j2
    · exact j2
/-- The first one taken out, the last one in its place. -/
def cutL (hp : List It) : List It := (hp.set 0 (at' hp (hp.length - 1))).take (hp.length - 1)
theorem cut_len : (cutL hp).length = hp.length - 1 := by unfold cutL; rw [List.length_take, List.length_set]; omega
theorem at_cut {k : Nat} (h0 : 0 < hp.length) (hk : k < hp.length - 1) : at' (cutL hp) k = if k = 0 then at' hp (hp.length - 1) else at' hp k := by
  have : at' (cutL hp) k = at' (hp.set 0 (at' hp (hp.length - 1))) k := by
    unfold cutL
    show List.getD _ _ _ = List.getD _ _ _
    rw [List.getD_eq_getElem?_getD, List.getD_eq_getElem?_getD, List.getElem?_take, if_pos hk]
  rw [this, at_set h0]
theorem in_cut (K : Kd hp) (h0 : 0 < hp.length) {x : It} : In (cutL hp) x ↔ In hp x ∧ x ≠ at' hp 0 := by
  constructor
  · rintro ⟨k, hk, rfl⟩
    rw [cut_len] at hk
    rw [at_cut h0 hk]
    split
    · rename_i e
      refine ⟨⟨_, by omega, rfl⟩, fun e2 => ?_⟩
      have := K _ _ (by omega) h0 (congrArg Prod.snd e2)
      omega
    · rename_i e
      refine ⟨⟨k, by omega, rfl⟩, fun e2 => ?_⟩
      have := K _ _ (by omega) h0 (congrArg Prod.snd e2)
      omega
  · rintro ⟨⟨k, hk, rfl⟩, hne⟩
    have hk0 : k ≠ 0 := fun e => hne (by rw [e])
    by_cases e : k = hp.length - 1
    · exact ⟨0, by rw [cut_len]; omega, by rw [at_cut h0 (by omega), if_pos rfl, e]⟩
    · exact ⟨k, by rw [cut_len]; omega, by rw [at_cut h0 (by omega), if_neg hk0]⟩
theorem Dn.cut (H : Hp hp) (h0 : 0 < hp.length) : Dn (cutL hp) 0 := by
  refine ⟨⟨fun j j0 hj h1 h2 => ?_, fun h => absurd h (Nat.lt_irrefl _)⟩, fun h => absurd h (Nat.lt_irrefl _)⟩
  rw [cut_len] at hj
  rw [at_cut h0 hj, if_neg h1, at_cut h0 (by have : par j ≤ j := by unfold par; omega
                                             omega), if_neg h2]
  exact H j j0 (by omega)
theorem Pos.cut (p : Pos hp m) (hm : (m.map (·.1)).Nodup) (h0 : 1 < hp.length) : Pos (cutL hp) (mput (mdel m (at' hp 0).2) (at' hp (hp.length - 1)).2 (.int .i64 0)) where
  here := fun k hk => by
    rw [cut_len] at hk
    rw [at_cut (by omega) hk, mget_mput, mget_mdel hm]
    split
    · rename_i e; rw [if_pos rfl, e]; rfl
    · rename_i e
      rw [if_neg (fun e2 => by have := p.kd _ _ (by omega) (by omega) e2; omega), if_neg (fun e2 => by have := p.kd _ _ (by omega) (by omega) e2; omega)]
      exact p.here k (by omega)
  only := fun k v h => by
    rw [mget_mput, mget_mdel hm] at h
    by_cases h1 : (at' hp (hp.length - 1)).2 = k
    · exact ⟨0, by rw [cut_len]; omega, by rw [at_cut (by omega) (by omega), if_pos rfl]; exact h1⟩
    · rw [if_neg h1] at h
      by_cases h2 : (at' hp 0).2 = k
      · rw [if_pos h2] at h; cases h
      · rw [if_neg h2] at h
        obtain ⟨i, i1, i2⟩ := p.only k v h
        have hi0 : i ≠ 0 := fun e => h2 (by rw [← e]; exact i2)
        have hi1 : i ≠ hp.length - 1 := fun e => h1 (by rw [← e]; exact i2)
        exact ⟨i, by rw [cut_len]; omega, by rw [at_cut (by omega) (by omega), if_neg hi0]; exact i2⟩
theorem Pos.last (p : Pos hp m) (hm : (m.map (·.1)).Nodup) (h1 : hp.length = 1) : Pos [] (mdel m (at' hp 0).2) where
  here := fun i hi => absurd hi (Nat.not_lt_zero _)
  only := fun k v h => by
    rw [mget_mdel hm] at h
    split at h
    · cases h
    · rename_i h2
      obtain ⟨i, i1, i2⟩ := p.only k v h
      have : i = 0 := by omega
      subst this
      exact absurd i2 h2
theorem But.set (H : Hp hp) {i : Nat} (hi : i < hp.length) (x : It) : But (hp.set i x) i := by
  refine ⟨fun j j0 hj h1 h2 => ?_, fun h0 j j0 hj h1 => ?_⟩
  · rw [List.length_set] at hj
    rw [at_set hi, at_set hi, if_neg h1, if_neg h2]
    exact H j j0 hj
  · rw [List.length_set] at hj
    have : par i < i := by unfold par; omega
    have : i < j := by unfold par at *; omega
    rw [at_set hi, at_set hi, if_neg (by omega), if_neg (by omega)]
    have g := H j j0 hj
    rw [h1] at g
    exact le_trans (H i h0 hi) g
theorem But.add (H : Hp hp) (x : It) : But (hp ++ [x]) hp.length := by
  refine ⟨fun j j0 hj h1 h2 => ?_, fun h0 j j0 hj h1 => ?_⟩
  · rw [List.length_append] at hj
    have hj' : j < hp.length := by simp at hj; omega
    have : par j ≤ j := by unfold par; omega
    rw [at_app, at_app, if_pos (by omega), if_pos hj']
    exact H j j0 hj'
  · rw [List.length_append] at hj
    simp at hj
    unfold par at h1
    omega
theorem in_set (K : Kd hp) {i : Nat} (hi : i < hp.length) {t : Int} {x : It} : In (hp.set i (t, (at' hp i).2)) x ↔ x = (t, (at' hp i).2) ∨ (In hp x ∧ x.2 ≠ (at' hp i).2) := by
  constructor
  · rintro ⟨k, hk, rfl⟩
    rw [List.length_set] at hk
    rw [at_set hi]
    split
    · exact .inl rfl
    · rename_i e
      exact .inr ⟨⟨k, hk, rfl⟩, fun e2 => e (K _ _ hk hi e2)⟩
  · rintro (rfl | ⟨⟨k, hk, rfl⟩, hne⟩)
    · exact ⟨i, by rw [List.length_set]; exact hi, by rw [at_set hi, if_pos rfl]⟩
    · exact ⟨k, by rw [List.length_set]; exact hk, by rw [at_set hi, if_neg (fun e => hne (by rw [e]))]⟩
theorem in_add {x y : It} : In (hp ++ [y]) x ↔ x = y ∨ In hp x := by
  constructor
  · rintro ⟨k, hk, rfl⟩
    rw [List.length_append] at hk
    rw [at_app]
    split
    · rename_i h; exact .inr ⟨k, h, rfl⟩
    · rename_i h
      have : k = hp.length := by simp at hk; omega
      rw [if_pos this]; exact .inl rfl
  · rintro (rfl | ⟨k, hk, rfl⟩)
    · exact ⟨hp.length, by simp, by rw [at_app, if_neg (Nat.lt_irrefl _), if_pos rfl]⟩
    · exact ⟨k, by simp; omega, by rw [at_app, if_pos hk]⟩
end Go.AI.Q
/- What is taken out of a heap; what is due, without a program. -/
namespace Go.AI.Q
open Go.AI
structure TakeI (hp cur : List It) (now : Int) (out : List Int) : Prop where
  heap : Hp cur
  sub : ∀ x, In cur x → In hp x
  outs : ∀ k ∈ out, In hp (now, k)
  asc : out.Pairwise (· < ·)
  low : ∀ k ∈ out, ∀ x, In cur x → x.1 = now → k < x.2
  ge : ∀ x, In cur x → now ≤ x.1
  len : out.length + cur.length = hp.length
  first : out = [] → cur = hp
theorem in0 {hp : List It} (h : 0 < hp.length) : In hp (at' hp 0) := ⟨0, h, rfl⟩
theorem le0 {hp : List It} (H : Hp hp) {x : It} (h : In hp x) : le (at' hp 0) x := by
  obtain ⟨i, hi, rfl⟩ := h
  exact least H (i + 1) i (Nat.lt_succ_self _) hi
theorem TakeI.start {hp : List It} (H : Hp hp) (_h0 : 0 < hp.length) : TakeI hp hp (at' hp 0).1 [] where
  heap := H
  sub := fun _ h => h
  outs := fun _ h => nomatch h
  asc := .nil
  low := fun _ h => nomatch h
  ge := fun x h => by have := le0 H h; unfold le lt at this; omega
  len := Nat.zero_add _
  first := fun _ => rfl
theorem TakeI.next {hp cur cur' : List It} {now : Int} {out : List Int} (T : TakeI hp cur now out) (K : Kd cur) (h0 : 0 < cur.length) (ht : (at' cur 0).1 = now) (H : Hp cur') (hl : cur'.length = cur.length - 1) (hi : ∀ x, In cur' x ↔ In cur x ∧ x ≠ at' cur 0) : TakeI hp cur' now (out ++ [(at' cur 0).2]) where
  heap := H
  sub := fun x h => T.sub x ((hi x).1 h).1
  outs := fun k hk => by
    rcases List.mem_append.1 hk with h | h
    · exact T.outs k h
    · rw [List.mem_singleton.1 h, ← ht]; exact T.sub _ (in0 h0)
  asc := by
    rw [List.pairwise_append]
    refine ⟨T.asc, by simp, fun a ha b hb => ?_⟩
    rw [List.mem_singleton.1 hb]
    exact T.low a ha _ (in0 h0) ht
  low := fun k hk x hx hn => by
    obtain ⟨h1, h2⟩ := (hi x).1 hx
    rcases List.mem_append.1 hk with h | h
    · exact T.low k h x h1 hn
    · rw [List.mem_singleton.1 h]
      have h3 := le0 T.heap h1
      obtain ⟨i, i1, rfl⟩ := h1
      have : (at' cur 0).2 ≠ (at' cur i).2 := fun e => h2 (by rw [K 0 i h0 i1 e])
      unfold le lt at h3
      omega
  ge := fun x hx => T.ge x ((hi x).1 hx).1
  len := by have := T.len; rw [List.length_append]; simp; omega
  first := fun e => by simp at e
/-- What is due of pairs of a key and a time, the last time of each. -/
def okP (x : It) : Prop := 0 ≤ x.1 ∧ x.1 < 10000 ∧ 0 ≤ x.2 ∧ x.2 ≤ 2000000
instance : DecidablePred okP := fun x => by unfold okP; infer_instance
def dueS (D : List (Int × AV)) (x : It) : List (Int × AV) := if okP x then mput D x.1 (.int .i64 x.2) else D
structure Rel (hp : List It) (D : List (Int × AV)) : Prop where
  heap : Hp hp
  here : ∀ x, In hp x ↔ mget D x.2 = some (.int .i64 x.1)
  val : ∀ k v, mget D k = some v → ∃ t, v = .int .i64 t
  len : hp.length = D.length
  rng : ∀ x, In hp x → 0 ≤ x.1 ∧ x.1 ≤ 2000000 ∧ 0 ≤ x.2 ∧ x.2 < 10000
theorem mput_len (D : List (Int × AV)) (k : Int) (v : AV) : (mput D k v).length = if mget D k = none then D.length + 1 else D.length := by
  have h := congrArg List.length (mput_keys D k v)
  rw [List.length_map] at h
  rw [h]
  by_cases e : k ∈ D.map (·.1)
  · rw [if_pos e, if_neg (fun e2 => mget_none.1 e2 e), List.length_map]
  · rw [if_neg e, if_pos (mget_none.2 e)]; simp
theorem Rel.nil : Rel [] [] where
  heap := fun j _ h => absurd h (Nat.not_lt_zero _)
  here := fun x => ⟨fun ⟨_, h, _⟩ => absurd h (Nat.not_lt_zero _), fun h => nomatch h⟩
  val := fun _ _ h => nomatch h
  len := rfl
  rng := fun x ⟨_, h, _⟩ => absurd h (Nat.not_lt_zero _)
/-- A key that is there gets another time. -/
theorem Rel.set {hp hp' : List It} {D : List (Int × AV)} (R : Rel hp D) (K : Kd hp) {i : Nat} (hi : i < hp.length) {k t : Int} (ok : okP (k, t)) (hk : (at' hp i).2 = k) (H : Hp hp') (S : Same (hp.set i (t, k)) hp') : Rel hp' (mput D k (.int .i64 t)) where
  heap := H
  here := fun x => by
    have h1 := in_set K hi (t := t) (x := x)
    rw [hk] at h1
    rw [S.inn, h1, mget_mput, R.here]
    constructor
    · rintro (rfl | ⟨h2, h3⟩)
      · rw [if_pos rfl]
      · rw [if_neg (fun e => h3 e.symm)]; exact h2
    · intro h2
      by_cases e : k = x.2
      · rw [if_pos e] at h2
        injection h2 with h2
        injection h2 with _ h2
        exact .inl (Prod.ext h2.symm e.symm)
      · rw [if_neg e] at h2
        exact .inr ⟨h2, fun e2 => e e2.symm⟩
  val := fun k' v h => by
    rw [mget_mput] at h
    split at h
    · cases h; exact ⟨t, rfl⟩
    · exact R.val k' v h
  len := by
    rw [S.len, List.length_set, mput_len, if_neg, R.len]
    intro e
    have := (R.here (at' hp i)).1 ⟨i, hi, rfl⟩
    rw [hk, e] at this; cases this
  rng := fun x hx => by
    have h1 := in_set K hi (t := t) (x := x)
    rw [hk] at h1
    unfold okP at ok
    rcases h1.1 ((S.inn x).1 hx) with rfl | ⟨h2, _⟩
    · simp only at ok ⊢; omega
    · exact R.rng x h2
/-- A key more. -/
theorem Rel.add {hp hp' : List It} {D : List (Int × AV)} (R : Rel hp D) {k t : Int} (ok : okP (k, t)) (hk : ∀ x, In hp x → x.2 ≠ k) (H : Hp hp') (S : Same (hp ++ [(t, k)]) hp') : Rel hp' (mput D k (.int .i64 t)) where
  heap := H
  here := fun x => by
    rw [S.inn, in_add, mget_mput, R.here]
    constructor
    · rintro (rfl | h2)
      · rw [if_pos rfl]
      · rw [if_neg (fun e => hk x ((R.here x).2 h2) e.symm)]; exact h2
    · intro h2
      by_cases e : k = x.2
      · rw [if_pos e] at h2
        injection h2 with h2
        injection h2 with _ h2
        exact .inl (Prod.ext h2.symm e.symm)
      · rw [if_neg e] at h2
        exact .inr h2
  val := fun k' v h => by
    rw [mget_mput] at h
    split at h
    · cases h; exact ⟨t, rfl⟩
    · exact R.val k' v h
  len := by
    have hn : mget D k = none := by
      cases e : mget D k with
      | none => rfl
      | some v =>
        obtain ⟨t', rfl⟩ := R.val k v e
        exact absurd rfl (hk (t', k) ((R.here (t', k)).2 e))
    rw [S.len, List.length_append, mput_len, if_pos hn, R.len]; rfl
  rng := fun x hx => by
    unfold okP at ok
    rcases in_add.1 ((S.inn x).1 hx) with rfl | h2
    · simp only at ok ⊢; omega
    · exact R.rng x h2
end Go.AI.Q
