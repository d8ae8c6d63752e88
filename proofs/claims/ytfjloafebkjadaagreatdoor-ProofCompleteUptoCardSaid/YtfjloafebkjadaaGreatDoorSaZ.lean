/- Levels and reasons, without a program. -/
import Derived.Test.YtfjloafebkjadaaGreatDoorSaB
/- What a search knows of levels and reasons, without a program. -/
namespace Go.Proofs.YtfjloafebkjadaaGreatDoor
namespace Pf
namespace Sa
/-- The level of a place of the trail. -/
def lv (ends : List Nat) (p : Nat) : Nat := ends.countP fun e => decide (e ≤ p)
theorem lv_app (ends : List Nat) (e p : Nat) : lv (ends ++ [e]) p = lv ends p + if e ≤ p then 1 else 0 := by
  unfold lv
  rw [List.countP_append, List.countP_singleton]
  by_cases h : e ≤ p <;> simp [h]
theorem lv_all {ends : List Nat} {p : Nat} (h : ∀ e ∈ ends, e ≤ p) : lv ends p = ends.length := by
  unfold lv
  rw [List.countP_eq_length]; intro e he; simpa using h e he
theorem lv_le (ends : List Nat) (p : Nat) : lv ends p ≤ ends.length := List.countP_le_length
theorem lv_zero {ends : List Nat} {p : Nat} : lv ends p = 0 ↔ ∀ e ∈ ends, p < e := by
  unfold lv
  rw [List.countP_eq_zero]
  constructor
  · intro h e he; have := h e he; simp at this; omega
  · intro h e he; have := h e he; simp; omega
theorem lv_full {ends : List Nat} {p : Nat} : lv ends p = ends.length ↔ ∀ e ∈ ends, e ≤ p := by
  unfold lv
  rw [List.countP_eq_length]
  constructor
  · intro h e he; simpa using h e he
  · intro h e he; simpa using h e he
theorem lv_mono {ends : List Nat} {p q : Nat} (h : p ≤ q) : lv ends p ≤ lv ends q := by
  unfold lv
  refine List.countP_mono_left fun e _ he => ?_
  have : e ≤ p := by simpa using he
  simp; omega
theorem lv_take {ends : List Nat} (hs : ends.Pairwise (· ≤ ·)) {j p : Nat} (hj : j < ends.length) (hp : p < ends.getD j 0) : lv (ends.take j) p = lv ends p := by
  have e : ends = ends.take j ++ ends.drop j := (List.take_append_drop ..).symm
  unfold lv
  conv => rhs; rw [e]
  rw [List.countP_append]
  have : (ends.drop j).countP (fun e => decide (e ≤ p)) = 0 := by
    rw [List.countP_eq_zero]
    intro x hx
    have hOB := List.getElem_of_mem hx
    obtain ⟨i, hi, rfl⟩ := hOB
    rw [List.length_drop] at hi
    rw [List.getElem_drop]
    rw [List.getD_eq_getElem?_getD, List.getElem?_eq_getElem hj] at hp
    have hp : p < ends[j] := hp
    have := List.pairwise_iff_getElem.1 hs j (j + i) (by omega) (by omega)
    have hOB := Nat.eq_zero_or_pos i
    rcases hOB with h0 | h0
    · subst h0; simp; omega
    · have := this (by omega); simp; omega
  omega
/-- The levels and reasons of a search's trail, and what its clauses are. -/
structure LInv (n : Nat) (L : List (List Int)) (S : Sr) : Prop where
  ll : S.level.length = n + 1
  wl : S.why.length = n + 1
  srt : S.s.ends.Pairwise (· ≤ ·)
  ele : ∀ e ∈ S.s.ends, e ≤ S.s.tr.length
  lvs : ∀ p, p < S.s.tr.length → S.level.getD (S.s.tr.getD p 0).natAbs 0 = (lv S.s.ends p : Int)
  wy : ∀ p, p < S.s.tr.length → ∀ k, S.why.getD (S.s.tr.getD p 0).natAbs none = some k → k < S.s.cls.length ∧ S.s.tr.getD p 0 ∈ S.s.c k ∧ ∀ x ∈ S.s.c k, x ≠ S.s.tr.getD p 0 → -x ∈ S.s.tr.take p
  wn : ∀ p, p < S.s.tr.length → S.why.getD (S.s.tr.getD p 0).natAbs none = none → lv S.s.ends p = 0 ∨ p ∈ S.s.ends
  sub : ∀ k, k < S.s.cls.length → ∃ l ∈ L ++ S.learnt, ∀ x, x ∈ S.s.c k ↔ x ∈ l
  der : ∀ p, p < S.s.tr.length → lv S.s.ends p = 0 → Der (L ++ S.learnt) [] (S.s.tr.getD p 0)
  rup : ∀ i, i < S.learnt.length → Clash (L ++ S.learnt.take i) ((S.learnt.getD i []).map (- ·)) ∧ (∀ x ∈ S.learnt.getD i [], ok n x) ∧ (S.learnt.getD i []).Nodup
  brk : S.broken = true → Clash (L ++ S.learnt) []
  cov : S.broken = false → ∀ l ∈ L, (∃ x ∈ l, -x ∈ l) ∨ (∃ p, p < S.s.tr.length ∧ lv S.s.ends p = 0 ∧ S.s.tr.getD p 0 ∈ l) ∨ ∃ k, k < S.s.cls.length ∧ ∀ x, x ∈ S.s.c k ↔ x ∈ l
theorem natAbs_max (x : Int) : (max x (-x)).toNat = x.natAbs := by omega
theorem getD_set {α : Type} {l : List α} {i j : Nat} {x d : α} (hi : i < l.length) : (l.set i x).getD j d = if i = j then x else l.getD j d := by
  rw [List.getD_eq_getElem?_getD, List.getElem?_set]
  by_cases e : i = j
  · subst e; rw [if_pos rfl, if_pos hi, if_pos rfl]; rfl
  · rw [if_neg e, if_neg e, List.getD_eq_getElem?_getD]
theorem LInv.take {n : Nat} {L : List (List Int)} {S : Sr} (I : LInv n L S) {x : Int} {w : Option Nat} (ho : ok n x) (hf : ofT S.s.tr x = 0) (hw : ∀ k, w = some k → k < S.s.cls.length ∧ x ∈ S.s.c k ∧ ∀ y ∈ S.s.c k, y ≠ x → -y ∈ S.s.tr) (hn : w = none → S.s.ends = [] ∨ S.s.tr.length ∈ S.s.ends) (hd : S.s.ends = [] → Der (L ++ S.learnt) [] x) : LInv n L (S.take x w) := by
  have hf' := ofT_zero.1 hf
  have hxl : x.natAbs < n + 1 := by obtain ⟨_, h1, h2⟩ := ho; omega
  have hlen : (S.s.tr ++ [x]).length = S.s.tr.length + 1 := by simp
  have hne : ∀ p, p < S.s.tr.length → x.natAbs ≠ (S.s.tr.getD p 0).natAbs := fun p hp e => by
    have hm : S.s.tr.getD p 0 ∈ S.s.tr := mem_getD hp
    have : S.s.tr.getD p 0 = x ∨ S.s.tr.getD p 0 = -x := by omega
    rcases this with h | h
    · exact hf'.1 (h ▸ hm)
    · exact hf'.2 (h ▸ hm)
  have hlast : lv S.s.ends S.s.tr.length = S.s.ends.length := lv_all I.ele
  have hold : ∀ p, p < S.s.tr.length → (S.s.tr ++ [x]).getD p 0 = S.s.tr.getD p 0 := fun p hp => getD_app hp
  have hnew : (S.s.tr ++ [x]).getD S.s.tr.length 0 = x := getD_new
  have hlv : ∀ p, p < S.s.tr.length → (S.level.set (max x (-x)).toNat S.s.ends.length).getD (S.s.tr.getD p 0).natAbs 0 = S.level.getD (S.s.tr.getD p 0).natAbs 0 := fun p hp => by
    rw [natAbs_max, getD_set (by rw [I.ll]; exact hxl), if_neg (hne p hp)]
  have hlx : (S.level.set (max x (-x)).toNat S.s.ends.length).getD x.natAbs 0 = (S.s.ends.length : Int) := by
    rw [natAbs_max, getD_set (by rw [I.ll]; exact hxl), if_pos rfl]
  have hwv : ∀ p, p < S.s.tr.length → (S.why.set (max x (-x)).toNat w).getD (S.s.tr.getD p 0).natAbs none = S.why.getD (S.s.tr.getD p 0).natAbs none := fun p hp => by
    rw [natAbs_max, getD_set (by rw [I.wl]; exact hxl), if_neg (hne p hp)]
  have hwx : (S.why.set (max x (-x)).toNat w).getD x.natAbs none = w := by
    rw [natAbs_max, getD_set (by rw [I.wl]; exact hxl), if_pos rfl]
  refine ⟨by show (S.level.set _ _).length = _; rw [List.length_set]; exact I.ll, by show (S.why.set _ _).length = _; rw [List.length_set]; exact I.wl, I.srt, fun e he => ?_, fun p hp => ?_, fun p hp k hk => ?_, fun p hp hk => ?_, I.sub, fun p hp h0 => ?_, I.rup, I.brk, fun hb l hl => ?_⟩
  · show e ≤ (S.s.tr ++ [x]).length
    have := I.ele e he; omega
  · have hp : p < (S.s.tr ++ [x]).length := hp
    show (S.level.set _ _).getD ((S.s.tr ++ [x]).getD p 0).natAbs 0 = _
    have hOB := Nat.lt_or_ge p S.s.tr.length
    rcases hOB with h | h
    · rw [hold p h, hlv p h]; exact I.lvs p h
    · have hOB : p = S.s.tr.length := by omega
      obtain rfl := hOB
      rw [hnew, hlx]; show _ = ((lv S.s.ends S.s.tr.length : Nat) : Int); rw [hlast]
  · have hp : p < (S.s.tr ++ [x]).length := hp
    have hk : (S.why.set _ _).getD ((S.s.tr ++ [x]).getD p 0).natAbs none = some k := hk
    show k < S.s.cls.length ∧ (S.s.tr ++ [x]).getD p 0 ∈ S.s.c k ∧ ∀ y ∈ S.s.c k, y ≠ (S.s.tr ++ [x]).getD p 0 → -y ∈ (S.s.tr ++ [x]).take p
    have hOB := Nat.lt_or_ge p S.s.tr.length
    rcases hOB with h | h
    · rw [hold p h] at hk ⊢
      rw [hwv p h] at hk
      rw [List.take_append_of_le_length (by omega)]
      exact I.wy p h k hk
    · have hOB : p = S.s.tr.length := by omega
      obtain rfl := hOB
      rw [hnew] at hk ⊢
      rw [hwx] at hk
      rw [List.take_append_of_le_length (Nat.le_refl _), List.take_length]
      exact hw k hk
  · have hp : p < (S.s.tr ++ [x]).length := hp
    have hk : (S.why.set _ _).getD ((S.s.tr ++ [x]).getD p 0).natAbs none = none := hk
    show lv S.s.ends p = 0 ∨ p ∈ S.s.ends
    have hOB := Nat.lt_or_ge p S.s.tr.length
    rcases hOB with h | h
    · rw [hold p h, hwv p h] at hk
      exact I.wn p h hk
    · have hOB : p = S.s.tr.length := by omega
      obtain rfl := hOB
      rw [hnew, hwx] at hk
      have hOB := hn hk
      rcases hOB with h1 | h1
      · left; rw [h1]; rfl
      · exact .inr h1
  · have hp : p < (S.s.tr ++ [x]).length := hp
    have h0 : lv S.s.ends p = 0 := h0
    show Der (L ++ S.learnt) [] ((S.s.tr ++ [x]).getD p 0)
    have hOB := Nat.lt_or_ge p S.s.tr.length
    rcases hOB with h | h
    · rw [hold p h]; exact I.der p h h0
    · have hOB : p = S.s.tr.length := by omega
      obtain rfl := hOB
      rw [hnew]
      rw [hlast] at h0
      exact hd (List.eq_nil_of_length_eq_zero h0)
  · have hOB := I.cov hb l hl
    rcases hOB with h | ⟨p, h1, h2, h3⟩ | h
    · exact .inl h
    · refine .inr (.inl ⟨p, ?_, h2, ?_⟩)
      · show p < (S.s.tr ++ [x]).length; omega
      · show (S.s.tr ++ [x]).getD p 0 ∈ l; rw [hold p h1]; exact h3
    · exact .inr (.inr h)
/-- Clauses whose literals are changed about only. -/
theorem LInv.same {n : Nat} {L : List (List Int)} {S : Sr} (I : LInv n L S) {s' : Ws} (ht : s'.tr = S.s.tr) (he : s'.ends = S.s.ends) (hl : s'.cls.length = S.s.cls.length) (hm : ∀ k x, x ∈ s'.c k ↔ x ∈ S.s.c k) : LInv n L { S with s := s' } := by
  refine ⟨I.ll, I.wl, by show s'.ends.Pairwise _; rw [he]; exact I.srt, fun e h => ?_, fun p hp => ?_, fun p hp k hk => ?_, fun p hp hk => ?_, fun k hk => ?_, fun p hp h0 => ?_, I.rup, I.brk, fun hb l hl' => ?_⟩
  · have h : e ∈ s'.ends := h
    show e ≤ s'.tr.length
    rw [he] at h; rw [ht]; exact I.ele e h
  · have hp : p < s'.tr.length := hp
    show S.level.getD (s'.tr.getD p 0).natAbs 0 = (lv s'.ends p : Int)
    rw [ht] at hp ⊢; rw [he]; exact I.lvs p hp
  · have hp : p < s'.tr.length := hp
    have hk : S.why.getD (s'.tr.getD p 0).natAbs none = some k := hk
    show k < s'.cls.length ∧ s'.tr.getD p 0 ∈ s'.c k ∧ ∀ x ∈ s'.c k, x ≠ s'.tr.getD p 0 → -x ∈ s'.tr.take p
    rw [ht] at hp hk ⊢
    have hOB := I.wy p hp k hk
    obtain ⟨h1, h2, h3⟩ := hOB
    exact ⟨by rw [hl]; exact h1, (hm _ _).2 h2, fun x hx => h3 x ((hm _ _).1 hx)⟩
  · have hp : p < s'.tr.length := hp
    have hk : S.why.getD (s'.tr.getD p 0).natAbs none = none := hk
    show lv s'.ends p = 0 ∨ p ∈ s'.ends
    rw [ht] at hp hk; rw [he]; exact I.wn p hp hk
  · have hk : k < s'.cls.length := hk
    rw [hl] at hk
    have hOB := I.sub k hk
    obtain ⟨l, h1, h2⟩ := hOB
    exact ⟨l, h1, fun x => (hm k x).trans (h2 x)⟩
  · have hp : p < s'.tr.length := hp
    have h0 : lv s'.ends p = 0 := h0
    show Der (L ++ S.learnt) [] (s'.tr.getD p 0)
    rw [ht] at hp ⊢; rw [he] at h0; exact I.der p hp h0
  · have hOB := I.cov hb l hl'
    rcases hOB with h | ⟨p, h1, h2, h3⟩ | ⟨k, h1, h2⟩
    · exact .inl h
    · refine .inr (.inl ⟨p, ?_, ?_, ?_⟩)
      · show p < s'.tr.length; rw [ht]; exact h1
      · show lv s'.ends p = 0; rw [he]; exact h2
      · show s'.tr.getD p 0 ∈ l; rw [ht]; exact h3
    · exact .inr (.inr ⟨k, by show k < s'.cls.length; rw [hl]; exact h1, fun x => (hm k x).trans (h2 x)⟩)
theorem Der.cut {a : List (List Int)} {t : List Int} {x : Int} (d : Der a t x) {u : List Int} (h : ∀ y ∈ t, Der a u y) : Der a u x := by
  induction d with
  | tak h1 => exact h _ h1
  | unit hc hx _ ih => exact .unit hc hx ih
/-- Units spread. -/
theorem LInv.spr {n : Nat} {L : List (List Int)} {S S' : Sr} (I : LInv n L S) (h2 : ∀ k, k < S.s.cls.length → 2 ≤ (S.s.c k).length) (P : Spr n S S') : LInv n L S' := by
  induction P with
  | refl => exact I
  | @sw S' k P hk ih =>
    have K := P.kept h2
    have h3 : 2 ≤ (S'.s.c k).length := by rw [K.clen]; exact h2 k (K.len ▸ hk)
    exact ih.same rfl rfl (sw_len ..) fun m x => sw_mem S'.s hk (by omega) (by omega) m x
  | @mv S' k i g P hk hi hl ih =>
    exact ih.same rfl rfl (mv_len ..) fun m x => mv_mem S'.s hk (by omega) hl m x
  | @take S' k l P hk hl ho hf hu ih =>
    refine ih.take ho hf (fun k' e => by cases e; exact ⟨hk, hl, hu⟩) (fun e => nomatch e) fun he => ?_
    have hOB := ih.sub k hk
    obtain ⟨c, h3, h4⟩ := hOB
    refine .unit h3 ((h4 l).1 hl) fun y hy hne => ?_
    have hm := hu y ((h4 y).2 hy) hne
    have hOB := List.getElem_of_mem hm
    obtain ⟨p, hp, e⟩ := hOB
    have e' : S'.s.tr.getD p 0 = -y := by rw [List.getD_eq_getElem?_getD, List.getElem?_eq_getElem hp]; exact e
    rw [← e']
    exact ih.der p hp (by rw [he]; rfl)
  | @adv S' P hl ih => exact ih.same rfl rfl rfl fun _ _ => Iff.rfl
/-- A level begins. -/
def Sr.level1 (S : Sr) : Sr := { S with s := { S.s with ends := S.s.ends ++ [S.s.tr.length] } }
theorem LInv.begin1 {n : Nat} {L : List (List Int)} {S : Sr} (I : LInv n L S) : LInv n L S.level1 := by
  have h : ∀ p, p < S.s.tr.length → lv (S.s.ends ++ [S.s.tr.length]) p = lv S.s.ends p := fun p hp => by rw [lv_app, if_neg (by omega)]; rfl
  refine ⟨I.ll, I.wl, ?_, fun e he => ?_, fun p hp => ?_, I.wy, fun p hp hk => ?_, I.sub, fun p hp h0 => I.der p hp ((h p hp).symm.trans h0), I.rup, I.brk, fun hb l hl => ?_⟩
  · show (S.s.ends ++ [S.s.tr.length]).Pairwise _
    rw [List.pairwise_append]
    exact ⟨I.srt, List.pairwise_singleton .., fun a ha b hb => by rw [List.mem_singleton.1 hb]; exact I.ele a ha⟩
  · have hOB := List.mem_append.1 he
    rcases hOB with h1 | h1
    · exact I.ele e h1
    · rw [List.mem_singleton.1 h1]; exact Nat.le_refl _
  · have := I.lvs p hp
    show _ = ((lv (S.s.ends ++ [S.s.tr.length]) p : Nat) : Int)
    rw [h p hp]; exact this
  · show lv (S.s.ends ++ [S.s.tr.length]) p = 0 ∨ p ∈ S.s.ends ++ [S.s.tr.length]
    rw [h p hp]
    have hOB := I.wn p hp hk
    rcases hOB with h1 | h1
    · exact .inl h1
    · exact .inr (List.mem_append_left _ h1)
  · have hOB := I.cov hb l hl
    rcases hOB with h1 | ⟨p, h1, h2, h3⟩ | h1
    · exact .inl h1
    · exact .inr (.inl ⟨p, h1, (h p h1).trans h2, h3⟩)
    · exact .inr (.inr h1)
/-- A clause is learnt. -/
theorem LInv.learn {n : Nat} {L : List (List Int)} {S : Sr} (I : LInv n L S) {C : List Int} (hC : Clash (L ++ S.learnt) (C.map (- ·))) (hK : ∀ x ∈ C, ok n x) (hN : C.Nodup) : LInv n L { S with learnt := S.learnt ++ [C] } := by
  have hs : ∀ c ∈ L ++ S.learnt, c ∈ L ++ (S.learnt ++ [C]) := fun c hc => by
    rw [← List.append_assoc]; exact List.mem_append_left _ hc
  refine ⟨I.ll, I.wl, I.srt, I.ele, I.lvs, I.wy, I.wn, fun k hk => ?_, fun p hp h0 => Der.mono hs (fun _ h => h) (I.der p hp h0), fun i hi => ?_, fun hb => Clash.mono hs (fun _ h => h) (I.brk hb), I.cov⟩
  · have hOB := I.sub k hk
    obtain ⟨l, h1, h2⟩ := hOB
    exact ⟨l, hs l h1, h2⟩
  · have hi : i < (S.learnt ++ [C]).length := hi
    show Clash (L ++ (S.learnt ++ [C]).take i) (((S.learnt ++ [C]).getD i []).map (- ·)) ∧ (∀ x ∈ (S.learnt ++ [C]).getD i [], ok n x) ∧ ((S.learnt ++ [C]).getD i []).Nodup
    rw [List.length_append, List.length_singleton] at hi
    have hOB := Nat.lt_or_ge i S.learnt.length
    rcases hOB with h | h
    · rw [List.take_append_of_le_length (by omega), getD_app h]; exact I.rup i h
    · have hOB : i = S.learnt.length := by omega
      obtain rfl := hOB
      rw [List.take_append_of_le_length (Nat.le_refl _), List.take_length, getD_new]; exact ⟨hC, hK, hN⟩
/-- A clause is laid. -/
theorem LInv.lay {n : Nat} {L : List (List Int)} {S : Sr} (I : LInv n L S) {C : List Int} (hC : ∃ l ∈ L ++ S.learnt, ∀ x, x ∈ C ↔ x ∈ l) : LInv n L { S with s := S.s.lay C } := by
  have hc : ∀ k, k < S.s.cls.length → (S.s.lay C).c k = S.s.c k := fun k h => lay_c h
  refine ⟨I.ll, I.wl, I.srt, I.ele, I.lvs, fun p hp k hk => ?_, I.wn, fun k hk => ?_, I.der, I.rup, I.brk, fun hb l hl => ?_⟩
  · have hOB := I.wy p hp k hk
    obtain ⟨h1, h2, h3⟩ := hOB
    show k < (S.s.lay C).cls.length ∧ S.s.tr.getD p 0 ∈ (S.s.lay C).c k ∧ ∀ x ∈ (S.s.lay C).c k, x ≠ S.s.tr.getD p 0 → -x ∈ S.s.tr.take p
    rw [hc k h1, lay_len]
    exact ⟨by omega, h2, h3⟩
  · have hk : k < (S.s.lay C).cls.length := hk
    rw [lay_len] at hk
    show ∃ l ∈ L ++ S.learnt, ∀ x, x ∈ (S.s.lay C).c k ↔ x ∈ l
    have hOB := Nat.lt_or_ge k S.s.cls.length
    rcases hOB with h | h
    · rw [hc k h]; exact I.sub k h
    · have hOB : k = S.s.cls.length := by omega
      obtain rfl := hOB
      rw [lay_c_new]; exact hC
  · have hOB := I.cov hb l hl
    rcases hOB with h1 | h1 | ⟨k, h1, h2⟩
    · exact .inl h1
    · exact .inr (.inl h1)
    · refine .inr (.inr ⟨k, ?_, fun x => ?_⟩)
      · show k < (S.s.lay C).cls.length; rw [lay_len]; omega
      · show x ∈ (S.s.lay C).c k ↔ _; rw [hc k h1]; exact h2 x
end Sa
end Pf
end Go.Proofs.YtfjloafebkjadaaGreatDoor
/- Going back to a level; what is found when all is taken; what begin leaves; without a program. -/
namespace Go.Proofs.YtfjloafebkjadaaGreatDoor
namespace Pf
namespace Sa
theorem TI.inj {n : Nat} {S : Ws} (T : TI n S) {p q : Nat} (hp : p < S.tr.length) (hq : q < S.tr.length) (e : (S.tr.getD p 0).natAbs = (S.tr.getD q 0).natAbs) : p = q := by
  have hmp : S.tr.getD p 0 ∈ S.tr := mem_getD hp
  have hmq : S.tr.getD q 0 ∈ S.tr := mem_getD hq
  have h : S.tr.getD p 0 = S.tr.getD q 0 ∨ S.tr.getD p 0 = -(S.tr.getD q 0) := by omega
  rcases h with h | h
  · exact Classical.byContradiction fun hne => getD_ne T.nodup hp hq hne h
  · exact absurd (h ▸ hmp) (T.cons _ hmq)
theorem mem_pos {l : List Int} {x : Int} (h : x ∈ l) : ∃ p, p < l.length ∧ l.getD p 0 = x := by
  have hOB := List.getElem_of_mem h
  obtain ⟨p, hp, e⟩ := hOB
  exact ⟨p, hp, by rw [List.getD_eq_getElem?_getD, List.getElem?_eq_getElem hp]; exact e⟩
theorem take_getD {l : List Int} {e p : Nat} (h : p < e) : (l.take e).getD p 0 = l.getD p 0 := by
  rw [List.getD_eq_getElem?_getD, List.getD_eq_getElem?_getD, List.getElem?_take_of_lt h]
theorem mem_take {l : List Int} {e p : Nat} (h : p < e) (hp : p < l.length) : l.getD p 0 ∈ l.take e := by
  rw [← take_getD h]; exact mem_getD (by rw [List.length_take]; omega)
/-- The reasons of some literals are forgotten. -/
def offW (why : List (Option Nat)) (l : List Int) : List (Option Nat) := l.foldl (fun w x => w.set x.natAbs none) why
theorem offW_len : ∀ (l : List Int) (why : List (Option Nat)), (offW why l).length = why.length
  | [], _ => rfl
  | x :: l, why => by
    show (offW (why.set x.natAbs none) l).length = _
    rw [offW_len l, List.length_set]
theorem offW_at : ∀ (l : List Int) (why : List (Option Nat)) (v : Nat), (∀ x ∈ l, x.natAbs ≠ v) → (offW why l).getD v none = why.getD v none
  | [], _, _, _ => rfl
  | x :: l, why, v, h => by
    show (offW (why.set x.natAbs none) l).getD v none = _
    rw [offW_at l _ v fun y hy => h y (List.mem_cons_of_mem _ hy), List.getD_eq_getElem?_getD, List.getElem?_set, if_neg (h x (List.mem_cons_self ..)), List.getD_eq_getElem?_getD]
/-- Back to a level. -/
def Ws.back (S : Ws) (j : Nat) : Ws := { S with tr := S.tr.take (S.ends.getD j 0), ends := S.ends.take j, head := S.ends.getD j 0 }
def Sr.back (S : Sr) (j : Nat) : Sr := { S with s := S.s.back j, why := offW S.why (S.s.tr.drop (S.s.ends.getD j 0)) }
theorem ends_at {ends : List Nat} {j : Nat} (hj : j < ends.length) : ends.getD j 0 ∈ ends := by
  rw [List.getD_eq_getElem?_getD, List.getElem?_eq_getElem hj]; exact List.getElem_mem hj
theorem ends_take {ends : List Nat} (hs : ends.Pairwise (· ≤ ·)) {j : Nat} (hj : j < ends.length) {e : Nat} (he : e ∈ ends.take j) : e ≤ ends.getD j 0 := by
  have hOB := List.getElem_of_mem he
  obtain ⟨i, hi, rfl⟩ := hOB
  rw [List.length_take] at hi
  rw [List.getElem_take, List.getD_eq_getElem?_getD, List.getElem?_eq_getElem hj]
  exact List.pairwise_iff_getElem.1 hs i j (by omega) hj (by omega)
theorem ends_lt {ends : List Nat} (hs : ends.Pairwise (· ≤ ·)) {j : Nat} (hj : j < ends.length) {e : Nat} (he : e ∈ ends) (hlt : e < ends.getD j 0) : e ∈ ends.take j := by
  have hOB := List.getElem_of_mem he
  obtain ⟨i, hi, rfl⟩ := hOB
  rw [List.getD_eq_getElem?_getD, List.getElem?_eq_getElem hj] at hlt
  have hlt : ends[i] < ends[j] := hlt
  have hij : i < j := by
    have hOB := Nat.lt_trichotomy i j
    rcases hOB with h | h | h
    · exact h
    · subst h; omega
    · have := List.pairwise_iff_getElem.1 hs j i hj hi h; omega
  refine List.mem_iff_getElem.2 ⟨i, by rw [List.length_take]; omega, List.getElem_take ..⟩
theorem WI.back {n : Nat} {S : Ws} (W : WI n S) (j : Nat) : WI n (S.back j) := ⟨W.oks, W.two, W.nod, W.len, W.rnod, W.win, W.wof⟩
theorem TI.back {n : Nat} {S : Ws} (T : TI n S) (hs : S.ends.Pairwise (· ≤ ·)) {j : Nat} (hj : j < S.ends.length) : TI n (S.back j) where
  oks := fun x hx => T.oks x (List.mem_of_mem_take hx)
  cons := fun x hx hn => T.cons x (List.mem_of_mem_take hx) (List.mem_of_mem_take hn)
  nodup := T.nodup.sublist (List.take_sublist ..)
  hle := by
    show S.ends.getD j 0 ≤ (S.tr.take (S.ends.getD j 0)).length
    have := T.ends _ (ends_at hj)
    have := T.hle
    rw [List.length_take]; omega
  ends := fun e he => ends_take hs hj he
theorem CI.back {S : Ws} (C : CI S) (hs : S.ends.Pairwise (· ≤ ·)) {j : Nat} (hj : j < S.ends.length) : CI (S.back j) where
  ch := fun k hk i hi h => by
    have h : -(S.w k i) ∈ (S.tr.take (S.ends.getD j 0)).take (S.ends.getD j 0) := h
    rw [List.take_take, Nat.min_self] at h
    exact C.ce _ (ends_at hj) k hk i hi h
  ce := fun e he k hk i hi h => by
    have h : -(S.w k i) ∈ (S.tr.take (S.ends.getD j 0)).take e := h
    have hle := ends_take hs hj he
    show S.w k (1 - i) ∈ (S.tr.take (S.ends.getD j 0)).take e
    rw [List.take_take, Nat.min_eq_left hle] at h ⊢
    exact C.ce e (List.mem_of_mem_take he) k hk i hi h
theorem LInv.back {n : Nat} {L : List (List Int)} {S : Sr} (I : LInv n L S) (T : TI n S.s) {j : Nat} (hj : j < S.s.ends.length) : LInv n L (S.back j) := by
  have he := I.ele _ (ends_at hj)
  generalize hE : S.s.ends.getD j 0 = e at *
  have htl : (S.s.tr.take e).length = e := by rw [List.length_take]; omega
  have htr : (S.back j).s.tr = S.s.tr.take e := by show S.s.tr.take (S.s.ends.getD j 0) = _; rw [hE]
  have hwhy : (S.back j).why = offW S.why (S.s.tr.drop e) := by show offW S.why (S.s.tr.drop (S.s.ends.getD j 0)) = _; rw [hE]
  have hends : (S.back j).s.ends = S.s.ends.take j := rfl
  have hat : ∀ p, p < e → (S.s.tr.take e).getD p 0 = S.s.tr.getD p 0 := fun p hp => take_getD hp
  have hlv : ∀ p, p < e → lv (S.s.ends.take j) p = lv S.s.ends p := fun p hp => lv_take I.srt hj (by rw [hE]; exact hp)
  have hw : ∀ p, p < e → (offW S.why (S.s.tr.drop e)).getD (S.s.tr.getD p 0).natAbs none = S.why.getD (S.s.tr.getD p 0).natAbs none := fun p hp => by
    refine offW_at _ _ _ fun x hx => ?_
    have hOB := List.getElem_of_mem hx
    obtain ⟨i, hi, rfl⟩ := hOB
    rw [List.length_drop] at hi
    rw [List.getElem_drop]
    intro e'
    have : S.s.tr.getD (e + i) 0 = S.s.tr[e + i] := by rw [List.getD_eq_getElem?_getD, List.getElem?_eq_getElem (by omega)]; rfl
    rw [← this] at e'
    have := T.inj (by omega) (by omega) e'
    omega
  refine ⟨I.ll, by rw [hwhy, offW_len]; exact I.wl, ?_, fun e' he' => ?_, fun p hp => ?_, fun p hp k hk => ?_, fun p hp hk => ?_, I.sub, fun p hp h0 => ?_, I.rup, I.brk, fun hb l hl => ?_⟩
  · rw [hends]; exact I.srt.sublist (List.take_sublist ..)
  · rw [hends] at he'
    have := ends_take I.srt hj he'
    rw [htr, htl]; omega
  · rw [htr] at hp ⊢
    rw [htl] at hp
    rw [hat p hp, hends, hlv p hp]; exact I.lvs p (by omega)
  · rw [htr] at hp hk ⊢
    rw [htl] at hp
    rw [hwhy, hat p hp, hw p hp] at hk
    rw [hat p hp, List.take_take, Nat.min_eq_left (by omega)]
    exact I.wy p (by omega) k hk
  · rw [htr] at hp hk
    rw [htl] at hp
    rw [hwhy, hat p hp, hw p hp] at hk
    rw [hends, hlv p hp]
    have hOB := I.wn p (by omega) hk
    rcases hOB with h | h
    · exact .inl h
    · exact .inr (ends_lt I.srt hj h (by rw [hE]; exact hp))
  · rw [htr] at hp ⊢
    rw [htl] at hp
    rw [hends, hlv p hp] at h0
    rw [hat p hp]
    exact I.der p (by omega) h0
  · have hOB := I.cov hb l hl
    rcases hOB with h | ⟨p, h1, h2, h3⟩ | h
    · exact .inl h
    · have hpe : p < e := by
        have := lv_zero.1 h2 _ (ends_at hj)
        rw [hE] at this; exact this
      refine .inr (.inl ⟨p, by rw [htr, htl]; exact hpe, by rw [hends, hlv p hpe]; exact h2, by rw [htr, hat p hpe]; exact h3⟩)
    · exact .inr (.inr h)
/-- A clause is laid whose first literal is taken: the others are gone, the second one at a level that no earlier end has. -/
theorem CI.learn1 {n : Nat} {S : Ws} (C : CI S) (_W : WI n S) (T : TI n S) {l : List Int} (h0 : -(l.getD 0 0) ∉ S.tr) (h1 : ∀ e ∈ S.ends, -(l.getD 1 0) ∉ S.tr.take e) : CI ((S.lay l).push (l.getD 0 0)) := by
  have hold : ∀ k i, k < S.cls.length → (S.lay l).w k i = S.w k i := fun k i h => congrArg (fun z : List Int => z.getD i 0) (lay_c h)
  have hnew : ∀ i, (S.lay l).w S.cls.length i = l.getD i 0 := fun i => congrArg (fun z : List Int => z.getD i 0) lay_c_new
  have htk : ∀ e, e ≤ S.tr.length → (S.tr ++ [l.getD 0 0]).take e = S.tr.take e := fun e he => List.take_append_of_le_length he
  refine ⟨fun k hk i hi h => ?_, fun e he k hk i hi h => ?_⟩
  · have hk : k < (S.lay l).cls.length := hk
    rw [lay_len] at hk
    have h : -((S.lay l).w k i) ∈ (S.tr ++ [l.getD 0 0]).take S.head := h
    rw [htk _ T.hle] at h
    show (S.lay l).w k (1 - i) ∈ S.tr ++ [l.getD 0 0]
    have hOB := Nat.lt_or_ge k S.cls.length
    rcases hOB with h2 | h2
    · rw [hold k _ h2] at h ⊢
      exact List.mem_append_left _ (C.ch k h2 i hi h)
    · have hOB : k = S.cls.length := by omega
      obtain rfl := hOB
      rw [hnew] at h ⊢
      have hOB := two_lt hi
      rcases hOB with rfl | rfl
      · exact absurd (List.mem_of_mem_take h) h0
      · exact List.mem_append_right _ (List.mem_singleton.2 rfl)
  · have hk : k < (S.lay l).cls.length := hk
    rw [lay_len] at hk
    have he : e ∈ S.ends := he
    have hle : e ≤ S.tr.length := Nat.le_trans (T.ends e he) T.hle
    have h : -((S.lay l).w k i) ∈ (S.tr ++ [l.getD 0 0]).take e := h
    rw [htk _ hle] at h
    show (S.lay l).w k (1 - i) ∈ (S.tr ++ [l.getD 0 0]).take e
    rw [htk _ hle]
    have hOB := Nat.lt_or_ge k S.cls.length
    rcases hOB with h2 | h2
    · rw [hold k _ h2] at h ⊢
      exact C.ce e he k h2 i hi h
    · have hOB : k = S.cls.length := by omega
      obtain rfl := hOB
      rw [hnew] at h ⊢
      have hOB := two_lt hi
      rcases hOB with rfl | rfl
      · exact absurd (List.mem_of_mem_take h) h0
      · exact absurd h (h1 e he)
/-- A level begins where all has been gone through. -/
theorem TI.level1 {n : Nat} {S : Ws} (T : TI n S) (hh : S.head = S.tr.length) : TI n { S with ends := S.ends ++ [S.tr.length] } := ⟨T.oks, T.cons, T.nodup, T.hle, fun e he => by
  have hOB := List.mem_append.1 he
  rcases hOB with h | h
  · exact T.ends e h
  · rw [List.mem_singleton.1 h, ← hh]; exact Nat.le_refl _⟩
theorem CI.level1 {S : Ws} (C : CI S) (hh : S.head = S.tr.length) : CI { S with ends := S.ends ++ [S.tr.length] } := ⟨C.ch, fun e he k hk i hi h => by
  have hOB := List.mem_append.1 he
  rcases hOB with h1 | h1
  · exact C.ce e h1 k hk i hi h
  · rw [List.mem_singleton.1 h1] at h ⊢
    have h2 := C.ch k hk i hi (by rw [hh]; exact h)
    show S.w k (1 - i) ∈ S.tr.take S.tr.length
    rw [List.take_length]; exact h2⟩
/-- What begin leaves of levels and reasons. -/
theorem Beg.zero {n : Nat} {L : List (List Int)} {S : Sr} (B : Beg n L S) : S.level.length = n + 1 ∧ S.why.length = n + 1 ∧ (∀ v, S.level.getD v 0 = 0) ∧ ∀ v, S.why.getD v none = none := by
  have rep : ∀ {α : Type} (m v : Nat) (d : α), (List.replicate m d).getD v d = d := fun m v d => by
    rw [List.getD_eq_getElem?_getD, List.getElem?_replicate]; split <;> rfl
  induction B with
  | nil => exact ⟨by simp [Sr.init], by simp [Sr.init], fun v => rep _ _ _, fun v => rep _ _ _⟩
  | taut _ _ _ ih => exact ih
  | @add L l S S' sc h hb hs ha ih =>
    rcases ha with ⟨_, rfl⟩ | ⟨y, _, ⟨_, rfl⟩ | ⟨_, rfl⟩ | ⟨_, rfl⟩⟩ | ⟨_, rfl⟩
    · exact ih
    · exact ih
    · obtain ⟨h1, h2, h3, h4⟩ := ih
      refine ⟨by show (S.level.set _ _).length = _; rw [List.length_set]; exact h1, by show (S.why.set _ _).length = _; rw [List.length_set]; exact h2, fun v => ?_, fun v => ?_⟩
      · show (S.level.set _ _).getD v 0 = 0
        rw [List.getD_eq_getElem?_getD, List.getElem?_set]
        split
        · split
          · show ((S.s.ends.length : Nat) : Int) = 0
            have : S.s.ends = [] := by
              clear h1 h2 h3 h4 hs hb
              have : ∀ {L S}, Beg n L S → S.s.ends = [] := fun B => by
                induction B with
                | nil => rfl
                | taut _ _ _ ih => exact ih
                | add _ _ _ ha ih =>
                  rcases ha with ⟨_, rfl⟩ | ⟨y, _, ⟨_, rfl⟩ | ⟨_, rfl⟩ | ⟨_, rfl⟩⟩ | ⟨_, rfl⟩ <;> exact ih
              exact this h
            rw [this]; rfl
          · rfl
        · rw [← List.getD_eq_getElem?_getD]; exact h3 v
      · show (S.why.set _ _).getD v none = none
        rw [List.getD_eq_getElem?_getD, List.getElem?_set]
        split
        · split <;> rfl
        · rw [← List.getD_eq_getElem?_getD]; exact h4 v
    · exact ih
    · exact ih
theorem BI.linv {n : Nat} {L : List (List Int)} {S : Sr} (I : BI n L S) (B : Beg n L S) : LInv n L S := by
  have hOB := B.zero
  obtain ⟨h1, h2, h3, h4⟩ := hOB
  have hl := B.learnt
  have hle : L ++ S.learnt = L := by rw [hl, List.append_nil]
  refine ⟨h1, h2, by rw [I.en]; exact .nil, fun e he => (by { rw [I.en] at he; cases he }), fun p hp => (by { rw [h3, I.en]; rfl }), fun p hp k hk => (by { rw [h4] at hk; cases hk }), fun p hp _ => .inl (by rw [I.en]; rfl), fun k hk => ?_, fun p hp _ => ?_, fun i hi => (by { rw [hl] at hi; cases hi }), fun hb => (by { rw [hle]; exact I.brk hb }), fun hb l hl' => ?_⟩
  · rw [hle]; exact I.sub k hk
  · rw [hle]; exact I.der _ (mem_getD hp)
  · have hOB := I.cov hb l hl'
    rcases hOB with h | ⟨x, h5, h6⟩ | h
    · exact .inl h
    · have hOB := mem_pos h6
      obtain ⟨p, hp, e⟩ := hOB
      exact .inr (.inl ⟨p, hp, by rw [I.en]; rfl, by rw [e]; exact h5⟩)
    · exact .inr (.inr h)
/-- Where all is taken, each clause has a literal that holds. -/
theorem LInv.found {n : Nat} {L : List (List Int)} {S : Sr} (I : LInv n L S) (W : WI n S.s) (T : TI n S.s) (C : CI S.s) (hh : S.s.head = S.s.tr.length) (hb : S.broken = false) (hall : ∀ x, ok n x → x ∈ S.s.tr ∨ -x ∈ S.s.tr) (hL : ∀ l ∈ L, ∀ x ∈ l, ok n x) : ∀ l ∈ L, ∃ x ∈ l, x ∈ S.s.tr := by
  intro l hl
  have hOB := I.cov hb l hl
  rcases hOB with ⟨x, h1, h2⟩ | ⟨p, h1, _, h3⟩ | ⟨k, h1, h2⟩
  · have hOB := hall x (hL l hl x h1)
    rcases hOB with h | h
    · exact ⟨x, h1, h⟩
    · exact ⟨-x, h2, h⟩
  · exact ⟨_, h3, mem_getD h1⟩
  · have hOB := settled_all W T C hh h1
    rcases hOB with ⟨z, h3, h4⟩ | ⟨y, h3, z, h4, h5, h6, h7⟩
    · exact ⟨z, (h2 z).1 h3, h4⟩
    · have := ofT_zero.1 h6
      have hOB := hall y (W.oks k y h3)
      rcases hOB with h | h
      · exact absurd h this.1
      · exact absurd h this.2
end Sa
end Pf
end Go.Proofs.YtfjloafebkjadaaGreatDoor
/- What a clash teaches, without a program. -/
namespace Go.Proofs.YtfjloafebkjadaaGreatDoor
namespace Pf
namespace Sa
def seenAt (S : Sr) (sn : Nat → Bool) (p : Nat) : Bool := decide (lv S.s.ends p = S.s.ends.length) && sn (S.s.tr.getD p 0).natAbs
/-- How many of the last level are seen below a place. -/
def opn (S : Sr) (sn : Nat → Bool) (at' : Nat) : Nat := (List.range at').countP fun p => seenAt S sn p
theorem opn_succ (S : Sr) (sn : Nat → Bool) (q : Nat) : opn S sn (q + 1) = opn S sn q + if seenAt S sn q = true then 1 else 0 := by
  unfold opn
  rw [List.range_succ, List.countP_append, List.countP_singleton]
theorem opn_pos {S : Sr} {sn : Nat → Bool} : ∀ {m : Nat}, 0 < opn S sn m → ∃ p, p < m ∧ seenAt S sn p = true
  | 0, h => absurd h (by simp [opn])
  | m + 1, h => by
    rw [opn_succ] at h
    by_cases hs : seenAt S sn m = true
    · exact ⟨m, by omega, hs⟩
    · rw [if_neg hs] at h
      have hOB := opn_pos (m := m) h
      obtain ⟨p, hp, h1⟩ := hOB
      exact ⟨p, by omega, h1⟩
theorem opn_zero {S : Sr} {sn : Nat → Bool} : ∀ {m : Nat}, opn S sn m = 0 → ∀ p, p < m → seenAt S sn p ≠ true
  | 0, _, p, hp => absurd hp (Nat.not_lt_zero _)
  | m + 1, h, p, hp => by
    rw [opn_succ] at h
    intro hs
    have hOB := Nat.lt_or_ge p m
    rcases hOB with h1 | h1
    · exact opn_zero (m := m) (by omega) p h1 hs
    · have hOB : p = m := by omega
      obtain rfl := hOB
      rw [if_pos hs] at h; omega
theorem opn_le (S : Sr) (sn : Nat → Bool) : ∀ m, opn S sn m ≤ m
  | 0 => by simp [opn]
  | m + 1 => by
    have := opn_le S sn m
    rw [opn_succ]; split <;> omega
def set1 (sn : Nat → Bool) (v : Nat) : Nat → Bool := fun w => decide (w = v) || sn w
theorem set1_same (sn : Nat → Bool) (v : Nat) : set1 sn v v = true := by simp [set1]
theorem set1_old {sn : Nat → Bool} {v w : Nat} (h : sn w = true) : set1 sn v w = true := by simp [set1, h]
theorem set1_other {sn : Nat → Bool} {v w : Nat} (h : w ≠ v) : set1 sn v w = sn w := by simp [set1, h]
theorem set1_cases {sn : Nat → Bool} {v w : Nat} (h : set1 sn v w = true) : w = v ∨ sn w = true := by
  by_cases e : w = v
  · exact .inl e
  · rw [set1_other e] at h; exact .inr h
section
variable {n : Nat} {L : List (List Int)} {S : Sr} {sn : Nat → Bool} {rest : List Int} {lev : Nat}
theorem opn_cur (T : TI n S.s) {p : Nat} (hp : p < S.s.tr.length) (hl : lv S.s.ends p = S.s.ends.length) (hs : sn (S.s.tr.getD p 0).natAbs = false) : ∀ {m : Nat}, m ≤ S.s.tr.length → opn S (set1 sn (S.s.tr.getD p 0).natAbs) m = opn S sn m + if p < m then 1 else 0
  | 0, _ => by simp [opn]
  | m + 1, hm => by
    rw [opn_succ, opn_succ, opn_cur T hp hl hs (m := m) (by omega)]
    by_cases e : m = p
    · subst e
      have h1 : seenAt S (set1 sn (S.s.tr.getD m 0).natAbs) m = true := by simp [seenAt, hl, set1_same]
      have h2 : ¬ seenAt S sn m = true := by unfold seenAt; rw [hs]; simp
      rw [if_pos h1, if_neg h2, if_neg (by omega), if_pos (by omega)]
    · have h3 : (S.s.tr.getD m 0).natAbs ≠ (S.s.tr.getD p 0).natAbs := fun e' => e (T.inj (by omega) hp e')
      have h4 : seenAt S (set1 sn (S.s.tr.getD p 0).natAbs) m = seenAt S sn m := by unfold seenAt; rw [set1_other h3]
      rw [h4]
      by_cases h5 : p < m
      · rw [if_pos h5, show (if p < m + 1 then 1 else 0) = 1 from if_pos (by omega)]; omega
      · rw [if_neg h5, show (if p < m + 1 then 1 else 0) = 0 from if_neg (by omega)]; omega
theorem opn_low (T : TI n S.s) {p : Nat} (hp : p < S.s.tr.length) (hl : lv S.s.ends p < S.s.ends.length) : ∀ {m : Nat}, m ≤ S.s.tr.length → opn S (set1 sn (S.s.tr.getD p 0).natAbs) m = opn S sn m
  | 0, _ => by simp [opn]
  | m + 1, hm => by
    rw [opn_succ, opn_succ, opn_low T hp hl (m := m) (by omega)]
    have h4 : seenAt S (set1 sn (S.s.tr.getD p 0).natAbs) m = seenAt S sn m := by
      unfold seenAt
      by_cases e : m = p
      · subst e
        rw [decide_eq_false (by omega)]; rfl
      · have h3 : (S.s.tr.getD m 0).natAbs ≠ (S.s.tr.getD p 0).natAbs := fun e' => e (T.inj (by omega) hp e')
        rw [set1_other h3]
    rw [h4]
/-- What is seen, and what of it is below the last level. -/
structure Ln (S : Sr) (sn : Nat → Bool) (rest : List Int) (lev : Nat) : Prop where
  sv : ∀ v, sn v = true → ∃ p, p < S.s.tr.length ∧ (S.s.tr.getD p 0).natAbs = v ∧ 1 ≤ lv S.s.ends p
  ro : ∀ x ∈ rest, sn x.natAbs = true ∧ ∃ p, p < S.s.tr.length ∧ S.s.tr.getD p 0 = -x ∧ lv S.s.ends p < S.s.ends.length ∧ lv S.s.ends p ≤ lev
  rs : ∀ p, p < S.s.tr.length → sn (S.s.tr.getD p 0).natAbs = true → lv S.s.ends p < S.s.ends.length → -(S.s.tr.getD p 0) ∈ rest
  rn : (rest.map Int.natAbs).Nodup
  rl : (rest = [] ∧ lev = 0) ∨ ∃ x ∈ rest, ∃ p, p < S.s.tr.length ∧ S.s.tr.getD p 0 = -x ∧ lv S.s.ends p = lev
theorem Ln.none (S : Sr) : Ln S (fun _ => false) [] 0 := ⟨fun _ h => (nomatch h), fun _ h => (nomatch h), fun _ _ h => (nomatch h), List.nodup_nil, .inl ⟨rfl, rfl⟩⟩
theorem Ln.cur (l : Ln S sn rest lev) (T : TI n S.s) {p : Nat} {x : Int} (hp : p < S.s.tr.length) (hx : S.s.tr.getD p 0 = -x) (hl : lv S.s.ends p = S.s.ends.length) (h1 : 1 ≤ lv S.s.ends p) : Ln S (set1 sn x.natAbs) rest lev := by
  have hv : (S.s.tr.getD p 0).natAbs = x.natAbs := by rw [hx, Int.natAbs_neg]
  refine ⟨fun v h => ?_, fun y hy => ⟨set1_old (l.ro y hy).1, (l.ro y hy).2⟩, fun q hq h h2 => ?_, l.rn, l.rl⟩
  · have hOB := set1_cases h
    rcases hOB with rfl | h
    · exact ⟨p, hp, hv, h1⟩
    · exact l.sv v h
  · have hOB := set1_cases h
    rcases hOB with h | h
    · have := T.inj hq hp (h.trans hv.symm)
      subst this; omega
    · exact l.rs q hq h h2
theorem Ln.low (l : Ln S sn rest lev) (T : TI n S.s) {p : Nat} {x : Int} (hp : p < S.s.tr.length) (hx : S.s.tr.getD p 0 = -x) (hl : lv S.s.ends p < S.s.ends.length) (h1 : 1 ≤ lv S.s.ends p) (hs : sn x.natAbs = false) : Ln S (set1 sn x.natAbs) (rest ++ [x]) (max lev (lv S.s.ends p)) := by
  have hv : (S.s.tr.getD p 0).natAbs = x.natAbs := by rw [hx, Int.natAbs_neg]
  refine ⟨fun v h => ?_, fun y hy => ?_, fun q hq h h2 => ?_, ?_, ?_⟩
  · have hOB := set1_cases h
    rcases hOB with rfl | h
    · exact ⟨p, hp, hv, h1⟩
    · exact l.sv v h
  · have hOB := List.mem_append.1 hy
    rcases hOB with h | h
    · have hOB := l.ro y h
      obtain ⟨h3, q, h4, h5, h6, h7⟩ := hOB
      exact ⟨set1_old h3, q, h4, h5, h6, by omega⟩
    · rw [List.mem_singleton.1 h]
      exact ⟨set1_same .., p, hp, hx, hl, by omega⟩
  · have hOB := set1_cases h
    rcases hOB with h | h
    · have := T.inj hq hp (h.trans hv.symm)
      subst this
      rw [hx, Int.neg_neg]
      exact List.mem_append_right _ (List.mem_singleton.2 rfl)
    · exact List.mem_append_left _ (l.rs q hq h h2)
  · rw [List.map_append, List.nodup_append]
    refine ⟨l.rn, by simp, fun a ha b hb e => ?_⟩
    have hOB := List.mem_map.1 ha
    obtain ⟨y, hy, rfl⟩ := hOB
    have hb : b = x.natAbs := by simpa using hb
    have := (l.ro y hy).1
    rw [e, hb, hs] at this; cases this
  · right
    by_cases h3 : lv S.s.ends p ≤ lev
    · rw [Nat.max_eq_left h3]
      have hOB := l.rl
      rcases hOB with ⟨h4, h5⟩ | ⟨y, h4, h5⟩
      · exact ⟨x, List.mem_append_right _ (List.mem_singleton.2 rfl), p, hp, hx, by omega⟩
      · exact ⟨y, List.mem_append_left _ h4, h5⟩
    · rw [Nat.max_eq_right (by omega)]
      exact ⟨x, List.mem_append_right _ (List.mem_singleton.2 rfl), p, hp, hx, rfl⟩
def low (S : Sr) (x : Int) : Prop := ∃ p, p < S.s.tr.length ∧ S.s.tr.getD p 0 = -x ∧ lv S.s.ends p = 0
/-- All of a clause but one literal is seen, or gone for good. -/
def Okc (S : Sr) (sn : Nat → Bool) (c : List Int) (y : Int) : Prop := ∀ x ∈ c, x ≠ y → low S x ∨ sn x.natAbs = true
/-- All that was come by at a place or above is gone through. -/
def Pd (S : Sr) (sn : Nat → Bool) (kc at' : Nat) : Prop := Okc S sn (S.s.c kc) 0 ∧ ∀ p, at' ≤ p → p < S.s.tr.length → sn (S.s.tr.getD p 0).natAbs = true → lv S.s.ends p = S.s.ends.length → ∃ k, S.why.getD (S.s.tr.getD p 0).natAbs none = some k ∧ Okc S sn (S.s.c k) (S.s.tr.getD p 0)
/-- It will be, once a clause is gone through. -/
def Hd (S : Sr) (sn : Nat → Bool) (kc at' k : Nat) (y : Int) : Prop := ∀ sn' : Nat → Bool, (∀ v, sn v = true → sn' v = true) → (∀ p, at' ≤ p → p < S.s.tr.length → sn' (S.s.tr.getD p 0).natAbs = true → sn (S.s.tr.getD p 0).natAbs = true) → Okc S sn' (S.s.c k) y → Pd S sn' kc at'
theorem Okc.mono {sn' : Nat → Bool} {c : List Int} {y : Int} (h : Okc S sn c y) (hs : ∀ v, sn v = true → sn' v = true) : Okc S sn' c y := fun x hx hne => (h x hx hne).imp id (hs _)
theorem Hd.first (S : Sr) (sn : Nat → Bool) (kc : Nat) : Hd S sn kc S.s.tr.length kc 0 := fun sn' _ _ hc => ⟨hc, fun p h1 h2 => absurd h2 (by omega)⟩
theorem Hd.next {kc at' q k : Nat} (P : Pd S sn kc at') (hw : S.why.getD (S.s.tr.getD q 0).natAbs none = some k) (hno : ∀ p, q < p → p < at' → p < S.s.tr.length → sn (S.s.tr.getD p 0).natAbs ≠ true) : Hd S sn kc q k (S.s.tr.getD q 0) := fun sn' hs hsame hc => ⟨P.1.mono hs, fun p h1 h2 h3 h4 => by
  by_cases e : p = q
  · subst e; exact ⟨k, hw, hc⟩
  · have h5 := hsame p h1 h2 h3
    have hOB := Nat.lt_or_ge p at'
    rcases hOB with h6 | h6
    · exact absurd h5 (hno p (by omega) h6 h2)
    · have hOB := P.2 p h6 h2 h5 h4
      obtain ⟨k', h7, h8⟩ := hOB
      exact ⟨k', h7, h8.mono hs⟩⟩
/-- The place where a clash's search ends is of the last level. -/
theorem seen_last {q : Nat} (h : 0 < opn S sn (q + 1)) : lv S.s.ends q = S.s.ends.length := by
  have hOB := opn_pos h
  obtain ⟨p, hp, hs⟩ := hOB
  have h1 : lv S.s.ends p = S.s.ends.length := by
    unfold seenAt at hs
    rw [Bool.and_eq_true, decide_eq_true_iff] at hs; exact hs.1
  have h2 := lv_mono (ends := S.s.ends) (show p ≤ q by omega)
  have h3 := lv_le S.s.ends q
  omega
/-- It has a reason, unless it is the last one. -/
theorem has_why (I : LInv n L S) {q : Nat} (hq : q < S.s.tr.length) (hc : S.s.ends ≠ []) (hl : lv S.s.ends q = S.s.ends.length) (h : 0 < opn S sn q) : ∃ k, S.why.getD (S.s.tr.getD q 0).natAbs none = some k := by
  cases hw : S.why.getD (S.s.tr.getD q 0).natAbs none with
  | some k => exact ⟨k, rfl⟩
  | none =>
    exfalso
    have hOB := I.wn q hq hw
    rcases hOB with h1 | h1
    · have : S.s.ends.length ≠ 0 := fun e => hc (List.eq_nil_of_length_eq_zero e)
      omega
    · have hOB := opn_pos h
      obtain ⟨p, hp, hs⟩ := hOB
      unfold seenAt at hs
      rw [Bool.and_eq_true, decide_eq_true_iff] at hs
      have := lv_full.1 hs.1 q h1
      omega
theorem learn_clash (I : LInv n L S) (W : WI n S.s) (T : TI n S.s) {kc at' q : Nat} (hk : kc < S.s.cls.length) (hf : ∀ y ∈ S.s.c kc, -y ∈ S.s.tr) (l : Ln S sn rest lev) (P : Pd S sn kc at') (hno : ∀ p, q < p → p < at' → p < S.s.tr.length → sn (S.s.tr.getD p 0).natAbs ≠ true) (h0 : opn S sn q = 0) :
    Clash (L ++ S.learnt) ((-(S.s.tr.getD q 0) :: rest).map (- ·)) := by
  have key : ∀ m p, p < m → p < S.s.tr.length → (lv S.s.ends p = 0 ∨ sn (S.s.tr.getD p 0).natAbs = true) → (lv S.s.ends p = S.s.ends.length → lv S.s.ends p ≠ 0 → q ≤ p) → Der (L ++ S.learnt) ((-(S.s.tr.getD q 0) :: rest).map (- ·)) (S.s.tr.getD p 0) := by
    intro m
    induction m with
    | zero => intro p hp; omega
    | succ m ih =>
      intro p hp hpl hor hcur
      by_cases hz : lv S.s.ends p = 0
      · exact Der.mono (t := []) (fun _ h => h) (fun _ h => (nomatch h)) (I.der p hpl hz)
      · have hs := hor.resolve_left hz
        have hOB := Nat.lt_or_ge (lv S.s.ends p) S.s.ends.length
        rcases hOB with hlt | hge
        · have := l.rs p hpl hs hlt
          exact .tak (List.mem_map.2 ⟨_, List.mem_cons_of_mem _ this, Int.neg_neg _⟩)
        · have hle := lv_le S.s.ends p
          have hle2 : lv S.s.ends p = S.s.ends.length := by omega
          have hqp := hcur hle2 hz
          by_cases e : p = q
          · subst e
            exact .tak (List.mem_map.2 ⟨_, List.mem_cons_self .., Int.neg_neg _⟩)
          · have hOB := Nat.lt_or_ge p at'
            rcases hOB with h6 | h6
            · exact absurd hs (hno p (by omega) h6 hpl)
            · have hOB := P.2 p h6 hpl hs hle2
              obtain ⟨k, h7, h8⟩ := hOB
              have hOB := I.wy p hpl k h7
              obtain ⟨h9, h10, h11⟩ := hOB
              have hOB := I.sub k h9
              obtain ⟨c, h12, h13⟩ := hOB
              refine .unit h12 ((h13 _).1 h10) fun y hy hne => ?_
              have hyk := (h13 y).2 hy
              have hOB := mem_pos (h11 y hyk hne)
              obtain ⟨p', hp', e'⟩ := hOB
              rw [List.length_take] at hp'
              rw [take_getD (by omega)] at e'
              have hnat : (S.s.tr.getD p' 0).natAbs = y.natAbs := by rw [e', Int.natAbs_neg]
              rw [← e']
              refine ih p' (by omega) (by omega) ?_ fun hl1 hl2 => ?_
              · have hOB := h8 y hyk hne
                rcases hOB with ⟨p'', h14, h15, h16⟩ | h14
                · have := T.inj (p := p'') (q := p') h14 (by omega) (by rw [h15, e'])
                  subst this; exact .inl h16
                · right; rw [hnat]; exact h14
              · have hOB := h8 y hyk hne
                rcases hOB with ⟨p'', h14, h15, h16⟩ | h14
                · have := T.inj (p := p'') (q := p') h14 (by omega) (by rw [h15, e'])
                  subst this; omega
                · refine Nat.le_of_not_lt fun hlt => opn_zero h0 p' hlt ?_
                  unfold seenAt
                  rw [Bool.and_eq_true, decide_eq_true_iff]
                  exact ⟨hl1, by rw [hnat]; exact h14⟩
  have hOB := I.sub kc hk
  obtain ⟨c, h1, h2⟩ := hOB
  refine .inr ⟨c, h1, fun y hy => ?_⟩
  have hyk := (h2 y).2 hy
  have hOB := mem_pos (hf y hyk)
  obtain ⟨p', hp', e'⟩ := hOB
  have hnat : (S.s.tr.getD p' 0).natAbs = y.natAbs := by rw [e', Int.natAbs_neg]
  have hok := P.1 y hyk (W.oks kc y hyk).1
  rw [← e']
  refine key (p' + 1) p' (by omega) hp' ?_ fun hl1 hl2 => ?_
  · rcases hok with ⟨p'', h14, h15, h16⟩ | h14
    · have := T.inj (p := p'') (q := p') h14 hp' (by rw [h15, e'])
      subst this; exact .inl h16
    · right; rw [hnat]; exact h14
  · rcases hok with ⟨p'', h14, h15, h16⟩ | h14
    · have := T.inj (p := p'') (q := p') h14 hp' (by rw [h15, e'])
      subst this; omega
    · refine Nat.le_of_not_lt fun hlt => opn_zero h0 p' hlt ?_
      unfold seenAt
      rw [Bool.and_eq_true, decide_eq_true_iff]
      exact ⟨hl1, by rw [hnat]; exact h14⟩
/-- What is known of a clause that was learnt. -/
structure Lt (n : Nat) (L : List (List Int)) (S : Sr) (C : List Int) (lev : Nat) : Prop where
  cl : Clash (L ++ S.learnt) (C.map (- ·))
  pos : 0 < C.length
  oks : ∀ x ∈ C, ok n x
  nod : C.Nodup
  lt : lev < S.s.ends.length
  fr : -(C.getD 0 0) ∉ S.s.tr.take (S.s.ends.getD lev 0) ∧ C.getD 0 0 ∉ S.s.tr
  fl : ∀ x ∈ C, x ≠ C.getD 0 0 → -x ∈ S.s.tr.take (S.s.ends.getD lev 0) ∧ 1 ≤ S.level.getD x.natAbs 0 ∧ S.level.getD x.natAbs 0 ≤ lev
  one : C.length = 1 → lev = 0
  mx : 1 < C.length → ∃ x ∈ C, x ≠ C.getD 0 0 ∧ S.level.getD x.natAbs 0 = lev
theorem below {ends : List Nat} (hs : ends.Pairwise (· ≤ ·)) {j p : Nat} (hj : j < ends.length) (h : lv ends p ≤ j) : p < ends.getD j 0 := by
  refine Nat.lt_of_not_le fun hge => ?_
  have e : ends = ends.take (j + 1) ++ ends.drop (j + 1) := (List.take_append_drop ..).symm
  have h1 : (ends.take (j + 1)).countP (fun e => decide (e ≤ p)) = j + 1 := by
    have : (ends.take (j + 1)).length = j + 1 := by rw [List.length_take]; omega
    refine (List.countP_eq_length.2 ?_).trans this
    intro x hx
    rw [List.take_add_one, List.getElem?_eq_getElem hj] at hx
    have hOB := List.mem_append.1 hx
    rcases hOB with h2 | h2
    · have := ends_take hs hj h2
      simp; omega
    · have h2 : x = ends[j] := by simpa using h2
      have h3 : ends.getD j 0 = ends[j] := by rw [List.getD_eq_getElem?_getD, List.getElem?_eq_getElem hj]; rfl
      simp; omega
  unfold lv at h
  rw [e, List.countP_append] at h
  omega
theorem learn_facts (I : LInv n L S) (T : TI n S.s) {q : Nat} (hq : q < S.s.tr.length) (hc : S.s.ends ≠ []) (hl : lv S.s.ends q = S.s.ends.length) (l : Ln S sn rest lev) (hC : Clash (L ++ S.learnt) ((-(S.s.tr.getD q 0) :: rest).map (- ·))) : Lt n L S (-(S.s.tr.getD q 0) :: rest) lev := by
  have hcur : 0 < S.s.ends.length := List.length_pos_iff.2 hc
  have hqm : S.s.tr.getD q 0 ∈ S.s.tr := mem_getD hq
  have hlev : lev < S.s.ends.length := by
    have hOB := l.rl
    rcases hOB with ⟨_, h⟩ | ⟨x, hx, p, h1, h2, h3⟩
    · omega
    · have hOB := l.ro x hx
      obtain ⟨_, p', h4, h5, h6, _⟩ := hOB
      have := T.inj h1 h4 (by rw [h2, h5])
      subst this; omega
  have hne : ∀ x ∈ rest, x.natAbs ≠ (S.s.tr.getD q 0).natAbs := fun x hx e => by
    have hOB := l.ro x hx
    obtain ⟨_, p, h4, h5, h6, _⟩ := hOB
    have := T.inj h4 hq (by rw [h5, Int.natAbs_neg]; exact e)
    subst this; omega
  have hnd : (-(S.s.tr.getD q 0) :: rest).Nodup := by
    rw [List.nodup_cons]
    refine ⟨fun hm => hne _ hm (Int.natAbs_neg _), ?_⟩
    have := l.rn
    rw [List.Nodup, List.pairwise_map] at this
    exact this.imp fun h e => h (by rw [e])
  have hlevel : ∀ p, p < S.s.tr.length → ∀ x, S.s.tr.getD p 0 = -x → S.level.getD x.natAbs 0 = (lv S.s.ends p : Int) := fun p hp x hx => by
    have := I.lvs p hp
    rw [hx, Int.natAbs_neg] at this; exact this
  refine ⟨hC, by simp, fun x hx => ?_, hnd, hlev, ⟨fun hm => ?_, fun hm => ?_⟩, fun x hx hx0 => ?_, fun h1 => ?_, fun h1 => ?_⟩
  · have hOB := List.mem_cons.1 hx
    rcases hOB with rfl | hx
    · have hOB := T.oks _ hqm
      obtain ⟨h1, h2, h3⟩ := hOB
      exact ⟨by omega, by omega, by omega⟩
    · have hOB := l.ro x hx
      obtain ⟨_, p, h4, h5, _⟩ := hOB
      have := T.oks _ (mem_getD h4)
      rw [h5] at this
      obtain ⟨h1, h2, h3⟩ := this
      exact ⟨by omega, by omega, by omega⟩
  · have hm : - -(S.s.tr.getD q 0) ∈ S.s.tr.take (S.s.ends.getD lev 0) := hm
    rw [Int.neg_neg] at hm
    have hOB := mem_pos hm
    obtain ⟨p, hp, e⟩ := hOB
    rw [List.length_take] at hp
    rw [take_getD (by omega)] at e
    have := T.inj (by omega) hq (congrArg Int.natAbs e)
    subst this
    have := lv_full.1 hl _ (ends_at hlev)
    omega
  · have hm : -(S.s.tr.getD q 0) ∈ S.s.tr := hm
    exact T.cons _ hqm hm
  · have hx0 : x ≠ -(S.s.tr.getD q 0) := hx0
    have hOB := List.mem_cons.1 hx
    rcases hOB with h | hx
    · exact absurd h hx0
    · have hOB := l.ro x hx
      obtain ⟨h3, p, h4, h5, h6, h7⟩ := hOB
      have hb := below I.srt hlev h7
      refine ⟨?_, ?_, ?_⟩
      · rw [← h5]; exact mem_take hb h4
      · rw [hlevel p h4 x h5]
        have hOB := l.sv _ h3
        obtain ⟨p2, h8, h9, h10⟩ := hOB
        have := T.inj h8 h4 (by rw [h9, h5, Int.natAbs_neg])
        subst this; omega
      · rw [hlevel p h4 x h5]; omega
  · have : rest = [] := List.eq_nil_of_length_eq_zero (by simpa using h1)
    have hOB := l.rl
    rcases hOB with ⟨_, h⟩ | ⟨x, hx, _⟩
    · exact h
    · rw [this] at hx; cases hx
  · have : rest ≠ [] := fun e => by rw [e] at h1; simp at h1
    have hOB := l.rl
    rcases hOB with ⟨h, _⟩ | ⟨x, hx, p, h2, h3, h4⟩
    · exact absurd h this
    · refine ⟨x, List.mem_cons_of_mem _ hx, fun e => ?_, by rw [hlevel p h2 x h3, h4]⟩
      have e : x = -(S.s.tr.getD q 0) := e
      exact hne x hx (by rw [e, Int.natAbs_neg])
end
end Sa
end Pf
end Go.Proofs.YtfjloafebkjadaaGreatDoor
