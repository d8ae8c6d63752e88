/- Assumptions, without a program. -/
import Derived.Test.YtfjloafebkjadaaGreatDoorSaB
import Derived.Test.YtfjloafebkjadaaGreatDoorSbB
/- Assumptions, without a program: which literals of a search's trail were taken ahead; a core. -/
namespace Go.Proofs.YtfjloafebkjadaaGreatDoor
namespace Pf
namespace Sa
/-- The literals that were taken on a level of the assumptions are assumptions; the first k assumptions hold. -/
structure Ah (ls : List Int) (k : Nat) (S : Sr) : Prop where
  dec : ∀ p, p < S.s.tr.length → S.why.getD (S.s.tr.getD p 0).natAbs none = none → lv S.s.ends p ≠ 0 → lv S.s.ends p ≤ ls.length → S.s.tr.getD p 0 ∈ ls
  hol : ∀ i, i < k → i < ls.length → ∃ p, p < S.s.tr.length ∧ S.s.tr.getD p 0 = ls.getD i 0 ∧ lv S.s.ends p ≤ i + 1
section
variable {n k : Nat} {L : List (List Int)} {ls : List Int} {S S' : Sr}
theorem Ah.more (A : Ah ls k S) (h : ls.length ≤ k ∨ ∃ p, p < S.s.tr.length ∧ S.s.tr.getD p 0 = ls.getD k 0 ∧ lv S.s.ends p ≤ k + 1) : Ah ls (k + 1) S := ⟨A.dec, fun i hi hl => by
  have hOB := Nat.lt_or_ge i k
  rcases hOB with h1 | h1
  · exact A.hol i h1 hl
  · have hOB : i = k := by omega
    obtain rfl := hOB
    exact h.resolve_left (by omega)⟩
theorem Ah.same (A : Ah ls k S) (ht : S'.s.tr = S.s.tr) (he : S'.s.ends = S.s.ends) (hw : S'.why = S.why) : Ah ls k S' := by
  refine ⟨fun p hp h1 h2 h3 => ?_, fun i hi hl => ?_⟩
  · rw [ht] at hp h1 ⊢
    rw [hw] at h1
    rw [he] at h2 h3
    exact A.dec p hp h1 h2 h3
  · rw [ht, he]; exact A.hol i hi hl
theorem Ah.level1 (A : Ah ls k S) : Ah ls k S.level1 := by
  have hl : ∀ p, p < S.s.tr.length → lv (S.s.ends ++ [S.s.tr.length]) p = lv S.s.ends p := fun p hp => by
    rw [lv_app, if_neg (by omega)]; omega
  refine ⟨fun p hp h1 h2 h3 => ?_, fun i hi h1 => ?_⟩
  · have hp : p < S.s.tr.length := hp
    have h2 : lv (S.s.ends ++ [S.s.tr.length]) p ≠ 0 := h2
    have h3 : lv (S.s.ends ++ [S.s.tr.length]) p ≤ ls.length := h3
    rw [hl p hp] at h2 h3
    exact A.dec p hp h1 h2 h3
  · have hOB := A.hol i hi h1
    obtain ⟨p, hp, h2, h3⟩ := hOB
    exact ⟨p, hp, h2, by show lv (S.s.ends ++ [S.s.tr.length]) p ≤ i + 1; rw [hl p hp]; exact h3⟩
theorem Ah.take (A : Ah ls k S) (hwl : S.why.length = n + 1) (ele : ∀ e ∈ S.s.ends, e ≤ S.s.tr.length) {x : Int} {w : Option Nat} (ho : ok n x) (hf : ofT S.s.tr x = 0) (hw : w = none → S.s.ends = [] ∨ ls.length < S.s.ends.length ∨ x ∈ ls) : Ah ls k (S.take x w) := by
  have hf' := ofT_zero.1 hf
  have hxl : x.natAbs < n + 1 := by obtain ⟨_, h1, h2⟩ := ho; omega
  have hlen : (S.s.tr ++ [x]).length = S.s.tr.length + 1 := by simp
  have hold : ∀ p, p < S.s.tr.length → (S.s.tr ++ [x]).getD p 0 = S.s.tr.getD p 0 := fun p hp => getD_app hp
  have hnew : (S.s.tr ++ [x]).getD S.s.tr.length 0 = x := getD_new
  have hne : ∀ p, p < S.s.tr.length → x.natAbs ≠ (S.s.tr.getD p 0).natAbs := fun p hp e => by
    have hm : S.s.tr.getD p 0 ∈ S.s.tr := mem_getD hp
    have : S.s.tr.getD p 0 = x ∨ S.s.tr.getD p 0 = -x := by omega
    rcases this with h | h
    · exact hf'.1 (h ▸ hm)
    · exact hf'.2 (h ▸ hm)
  have hwv : ∀ p, p < S.s.tr.length → (S.why.set (max x (-x)).toNat w).getD (S.s.tr.getD p 0).natAbs none = S.why.getD (S.s.tr.getD p 0).natAbs none := fun p hp => by
    rw [natAbs_max, getD_set (by rw [hwl]; exact hxl), if_neg (hne p hp)]
  have hwx : (S.why.set (max x (-x)).toNat w).getD x.natAbs none = w := by
    rw [natAbs_max, getD_set (by rw [hwl]; exact hxl), if_pos rfl]
  refine ⟨fun p hp h1 h2 h3 => ?_, fun i hi h1 => ?_⟩
  · have hp : p < (S.s.tr ++ [x]).length := hp
    have h1 : (S.why.set (max x (-x)).toNat w).getD ((S.s.tr ++ [x]).getD p 0).natAbs none = none := h1
    show (S.s.tr ++ [x]).getD p 0 ∈ ls
    have hOB := Nat.lt_or_ge p S.s.tr.length
    rcases hOB with h | h
    · rw [hold p h] at h1 ⊢
      rw [hwv p h] at h1
      exact A.dec p h h1 h2 h3
    · have hOB : p = S.s.tr.length := by omega
      obtain rfl := hOB
      rw [hnew] at h1 ⊢
      rw [hwx] at h1
      have h2 : lv S.s.ends S.s.tr.length ≠ 0 := h2
      have h3 : lv S.s.ends S.s.tr.length ≤ ls.length := h3
      rw [lv_all ele] at h2 h3
      have hOB := hw h1
      rcases hOB with h4 | h4 | h4
      · rw [h4] at h2; exact absurd rfl h2
      · omega
      · exact h4
  · have hOB := A.hol i hi h1
    obtain ⟨p, hp, h2, h3⟩ := hOB
    exact ⟨p, by show p < (S.s.tr ++ [x]).length; omega, by show (S.s.tr ++ [x]).getD p 0 = _; rw [hold p hp]; exact h2, h3⟩
theorem Ah.spr (A : Ah ls k S) (I : LInv n L S) (h2 : ∀ k, k < S.s.cls.length → 2 ≤ (S.s.c k).length) (P : Spr n S S') : Ah ls k S' := by
  induction P with
  | refl => exact A
  | sw _ _ ih => exact ih.same rfl rfl rfl
  | mv _ _ _ _ ih => exact ih.same rfl rfl rfl
  | take P _ _ ho hf _ ih => exact ih.take (I.spr h2 P).wl (I.spr h2 P).ele ho hf (fun e => nomatch e)
  | adv _ _ ih => exact ih.same rfl rfl rfl
theorem Ah.back (A : Ah ls k S) (I : LInv n L S) (T : TI n S.s) {j : Nat} (hj : j < S.s.ends.length) (hk : j ≤ k) : Ah ls j (S.back j) := by
  have he := I.ele _ (ends_at hj)
  have hbel : ∀ p, lv S.s.ends p ≤ j → p < S.s.ends.getD j 0 := fun p h => below I.srt hj h
  generalize hE : S.s.ends.getD j 0 = e at *
  have htl : (S.s.tr.take e).length = e := by rw [List.length_take]; omega
  have htr : (S.back j).s.tr = S.s.tr.take e := by show S.s.tr.take (S.s.ends.getD j 0) = _; rw [hE]
  have hwhy : (S.back j).why = offW S.why (S.s.tr.drop e) := by show offW S.why (S.s.tr.drop (S.s.ends.getD j 0)) = _; rw [hE]
  have hends : (S.back j).s.ends = S.s.ends.take j := rfl
  have hat : ∀ p, p < e → (S.s.tr.take e).getD p 0 = S.s.tr.getD p 0 := fun p hp => take_getD hp
  have hlv : ∀ p, p < e → lv (S.s.ends.take j) p = lv S.s.ends p := fun p hp => lv_take I.srt hj (by rw [hE]; exact hp)
  have hw : ∀ p, p < e → (offW S.why (S.s.tr.drop e)).getD (S.s.tr.getD p 0).natAbs none = S.why.getD (S.s.tr.getD p 0).natAbs none := fun p hp => by
    refine offW_at _ _ _ fun x hx => ?_
    have hOB := List.getElem_of_mem hx
    obtain ⟨i, hi, rfl⟩ := hOB
    rw [List.length_drop] at hi
    rw [List.getElem_drop]
    intro e'
    have : S.s.tr.getD (e + i) 0 = S.s.tr[e + i] := by rw [List.getD_eq_getElem?_getD, List.getElem?_eq_getElem (by omega)]; rfl
    rw [← this] at e'
    have := T.inj (by omega) (by omega) e'
    omega
  refine ⟨fun p hp h1 h2 h3 => ?_, fun i hi h1 => ?_⟩
  · rw [htr] at hp h1 ⊢
    rw [htl] at hp
    rw [hwhy, hat p hp, hw p hp] at h1
    rw [hends, hlv p hp] at h2 h3
    rw [hat p hp]
    exact A.dec p (by omega) h1 h2 h3
  · have hOB := A.hol i (by omega) h1
    obtain ⟨p, hp, h2, h3⟩ := hOB
    have hpe := hbel p (by omega)
    exact ⟨p, by rw [htr, htl]; exact hpe, by rw [htr, hat p hpe]; exact h2, by rw [hends, hlv p hpe]; exact h3⟩
theorem Ah.all (A : Ah ls k S) (hk : ls.length ≤ k) : ∀ x ∈ ls, x ∈ S.s.tr := fun x hx => by
  have hOB := List.getElem_of_mem hx
  obtain ⟨i, hi, rfl⟩ := hOB
  have hOB := A.hol i (by omega) hi
  obtain ⟨p, hp, h2, _⟩ := hOB
  rw [List.getD_eq_getElem?_getD (l := ls), List.getElem?_eq_getElem hi] at h2
  have h2 : S.s.tr.getD p 0 = ls[i] := h2
  rw [← h2]; exact mem_getD hp
/-- A model of a set is one of what was learnt from it. -/
theorem rup_holds {P : List (List Int)} {m : List Bool} (hm : m.length = n) (hL : ∀ l ∈ L, ∀ x ∈ l, ok n x) (R : ∀ i, i < P.length → Clash (L ++ P.take i) ((P.getD i []).map (- ·)) ∧ (∀ x ∈ P.getD i [], ok n x) ∧ (P.getD i []).Nodup) (hA : ∀ c ∈ L, ∃ z ∈ c, holdsB m z = true) : ∀ c ∈ L ++ P, ∃ z ∈ c, holdsB m z = true := by
  have key : ∀ i, i ≤ P.length → ∀ c ∈ P.take i, ∃ z ∈ c, holdsB m z = true := by
    intro i
    induction i with
    | zero => intro _ c hc; rw [List.take_zero] at hc; cases hc
    | succ i ih =>
      intro hi c hc
      have hlt : i < P.length := by omega
      rw [List.take_add_one, List.getElem?_eq_getElem hlt, Option.toList_some] at hc
      have hOB := List.mem_append.1 hc
      rcases hOB with h1 | h1
      · exact ih (by omega) c h1
      · have hce : c = P.getD i [] := by
          rw [List.getD_eq_getElem?_getD, List.getElem?_eq_getElem hlt]; simpa using h1
        have hOB := R i hlt
        obtain ⟨hcl, hok, _⟩ := hOB
        refine Classical.byContradiction fun hno => ?_
        have hall : ∀ z ∈ P.getD i [], holdsB m z = false := fun z hz => by
          cases hq : holdsB m z with
          | false => rfl
          | true => exact absurd ⟨z, hce ▸ hz, hq⟩ hno
        refine clash_holds (m := m) (L := L ++ P.take i) (ls := (P.getD i []).map (- ·)) (fun l hl x hx => ?_) (fun x hx => ?_) (fun d hd => ?_) (fun x hx => ?_) hcl
        · rw [hm]
          have hOB := List.mem_append.1 hl
          rcases hOB with h2 | h2
          · exact hL l h2 x hx
          · have hOB := List.getElem_of_mem h2
            obtain ⟨j, hj, rfl⟩ := hOB
            rw [List.length_take] at hj
            have := (R j (by omega)).2.1
            rw [List.getD_eq_getElem?_getD, List.getElem?_eq_getElem (by omega)] at this
            refine this x ?_
            rw [List.getElem_take] at hx; exact hx
        · have hOB := List.mem_map.1 hx
          obtain ⟨y, hy, rfl⟩ := hOB
          rw [hm]; exact ok_neg (hok y hy)
        · have hOB := List.mem_append.1 hd
          rcases hOB with h2 | h2
          · exact hA d h2
          · exact ih (by omega) d h2
        · have hOB := List.mem_map.1 hx
          obtain ⟨y, hy, rfl⟩ := hOB
          rw [holdsB_neg (by rw [hm]; exact hok y hy), hall y hy]; rfl
  intro c hc
  have hOB := List.mem_append.1 hc
  rcases hOB with h | h
  · exact hA c h
  · exact key P.length (Nat.le_refl _) c (by rw [List.take_length]; exact h)
/-- Which of a trail's literals are seen, and which are needed. -/
structure Mks (S : Sr) (sn : Nat → Bool) (nd : Int → Bool) (at' : Nat) : Prop where
  mrk : ∀ p, at' ≤ p → p < S.s.tr.length → sn (S.s.tr.getD p 0).natAbs = true → lv S.s.ends p ≠ 0 → (S.why.getD (S.s.tr.getD p 0).natAbs none = none ∧ nd (S.s.tr.getD p 0) = true) ∨ ∃ k, S.why.getD (S.s.tr.getD p 0).natAbs none = some k ∧ ∀ x ∈ S.s.c k, sn x.natAbs = true
/-- What is seen holds in each model in which what is needed holds. -/
theorem Mks.holds {sn : Nat → Bool} {nd : Int → Bool} (K : Mks S sn nd 0) (I : LInv n L S) (_T : TI n S.s) {m : List Bool} (hm : m.length = n) (hL : ∀ l ∈ L, ∀ x ∈ l, ok n x) (hA : ∀ c ∈ L, ∃ z ∈ c, holdsB m z = true) (hnd : ∀ x, nd x = true → x ∈ S.s.tr → holdsB m x = true) : ∀ x, x ∈ S.s.tr → sn x.natAbs = true → holdsB m x = true := by
  have hAll := rup_holds hm hL I.rup hA
  have hok : ∀ l ∈ L ++ S.learnt, ∀ x ∈ l, ok m.length x := fun l hl x hx => by
    rw [hm]
    have hOB := List.mem_append.1 hl
    rcases hOB with h2 | h2
    · exact hL l h2 x hx
    · have hOB := List.getElem_of_mem h2
      obtain ⟨j, hj, rfl⟩ := hOB
      have := (I.rup j hj).2.1
      rw [List.getD_eq_getElem?_getD, List.getElem?_eq_getElem hj] at this
      exact this x hx
  have key : ∀ q p, p < q → p < S.s.tr.length → sn (S.s.tr.getD p 0).natAbs = true → holdsB m (S.s.tr.getD p 0) = true := by
    intro q
    induction q with
    | zero => intro p hp; exact absurd hp (Nat.not_lt_zero _)
    | succ q ih =>
      intro p hpq hp hs
      by_cases h0 : lv S.s.ends p = 0
      · exact der_holds (ls := []) hok (fun x hx => nomatch hx) hAll (fun x hx => nomatch hx) (I.der p hp h0)
      · have hOB := K.mrk p (Nat.zero_le _) hp hs h0
        rcases hOB with ⟨_, h2⟩ | ⟨k, h1, h2⟩
        · exact hnd _ h2 (mem_getD hp)
        · have hOB := I.wy p hp k h1
          obtain ⟨hk, hm1, hoth⟩ := hOB
          have hOB := I.sub k hk
          obtain ⟨l, hl, hsame⟩ := hOB
          have hOB := hAll l hl
          obtain ⟨z, hz, hz2⟩ := hOB
          have hzk := (hsame z).2 hz
          by_cases e : z = S.s.tr.getD p 0
          · rw [← e]; exact hz2
          · have h4 := hoth z hzk e
            have hOB := List.getElem_of_mem h4
            obtain ⟨r, hr, hr2⟩ := hOB
            rw [List.length_take] at hr
            rw [List.getElem_take] at hr2
            have hr3 : S.s.tr.getD r 0 = -z := by rw [List.getD_eq_getElem?_getD, List.getElem?_eq_getElem (by omega)]; exact hr2
            have h5 := ih r (by omega) (by omega) (by rw [hr3, Int.natAbs_neg]; exact h2 z hzk)
            rw [hr3, holdsB_neg (hok l hl z hz), hz2] at h5
            cases h5
  intro x hx hs
  have hOB := mem_pos hx
  obtain ⟨p, hp, rfl⟩ := hOB
  exact key (p + 1) p (Nat.lt_succ_self _) hp hs
/-- The clause that a literal follows from is marked. -/
theorem Mks.why {sn sn' : Nat → Bool} {nd : Int → Bool} {q k' : Nat} (K : Mks S sn nd (q + 1)) (T : TI n S.s) (I : LInv n L S) (hq : q < S.s.tr.length) (hw : S.why.getD (S.s.tr.getD q 0).natAbs none = some k') (hgr : ∀ v, sn v = true → sn' v = true) (hnew : ∀ v, sn' v = true → sn v = true ∨ ∃ x ∈ S.s.c k', x.natAbs = v) (hall : ∀ x ∈ S.s.c k', sn' x.natAbs = true) : Mks S sn' nd q := ⟨fun p h1 h2 h3 h4 => by
  have hOB := Nat.eq_or_lt_of_le h1
  rcases hOB with rfl | h5
  · exact .inr ⟨k', hw, hall⟩
  · have hs : sn (S.s.tr.getD p 0).natAbs = true := by
      have hOB := hnew _ h3
      rcases hOB with h6 | ⟨x, hx, hxe⟩
      · exact h6
      · have hOB := I.wy q hq k' hw
        obtain ⟨hk, hm, hoth⟩ := hOB
        exfalso
        by_cases e : x = S.s.tr.getD q 0
        · subst e
          have := T.inj hq h2 hxe
          omega
        · have h7 := hoth x hx e
          have hOB := List.getElem_of_mem h7
          obtain ⟨r, hr, hr2⟩ := hOB
          rw [List.length_take] at hr
          rw [List.getElem_take] at hr2
          have hr3 : S.s.tr.getD r 0 = -x := by rw [List.getD_eq_getElem?_getD, List.getElem?_eq_getElem (by omega)]; exact hr2
          have := T.inj (p := r) (q := p) (by omega) h2 (by rw [hr3, Int.natAbs_neg]; exact hxe)
          omega
    have hOB := K.mrk p h5 h2 hs h4
    rcases hOB with h6 | ⟨k, h6, h7⟩
    · exact .inl h6
    · exact .inr ⟨k, h6, fun x hx => hgr _ (h7 x hx)⟩⟩
theorem Mks.skip {sn : Nat → Bool} {nd : Int → Bool} {q : Nat} (K : Mks S sn nd (q + 1)) (h : sn (S.s.tr.getD q 0).natAbs = true → lv S.s.ends q = 0) : Mks S sn nd q := ⟨fun p h1 h2 h3 h4 => by
  have hOB := Nat.eq_or_lt_of_le h1
  rcases hOB with rfl | h5
  · exact absurd (h h3) h4
  · exact K.mrk p h5 h2 h3 h4⟩
theorem Mks.need {sn : Nat → Bool} {nd nd' : Int → Bool} {q : Nat} (K : Mks S sn nd (q + 1)) (hw : S.why.getD (S.s.tr.getD q 0).natAbs none = none) (hg : ∀ x, nd x = true → nd' x = true) (hn : nd' (S.s.tr.getD q 0) = true) : Mks S sn nd' q := ⟨fun p h1 h2 h3 h4 => by
  have hOB := Nat.eq_or_lt_of_le h1
  rcases hOB with rfl | h5
  · exact .inl ⟨hw, hn⟩
  · have hOB := K.mrk p h5 h2 h3 h4
    rcases hOB with ⟨h6, h7⟩ | h6
    · exact .inl ⟨h6, hg _ h7⟩
    · exact .inr h6⟩
end
end Sa
end Pf
end Go.Proofs.YtfjloafebkjadaaGreatDoor
