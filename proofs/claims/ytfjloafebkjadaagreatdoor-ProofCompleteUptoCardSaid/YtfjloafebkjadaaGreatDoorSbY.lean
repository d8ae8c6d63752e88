/- A refutation is sound; what Solve answers, in short. -/
import Derived.Test.YtfjloafebkjadaaGreatDoorSbX
import Derived.Test.YtfjloafebkjadaaGreatDoorSaB
/- A chain of clauses down to the empty one has no model; the ways through all variables are such a chain. -/
namespace Go.Proofs.YtfjloafebkjadaaGreatDoor
namespace Pf
namespace Sa
open Go Go.AI Go.Proofs
/-- A set with a refutation has no model. -/
theorem rup_sound {n : Nat} {L P : List (List Int)} {m : List Bool} (hm : m.length = n) (hL : ∀ l ∈ L, ∀ x ∈ l, ok n x) (R : Rup n L P) : ¬ ∀ c ∈ L, ∃ z ∈ c, holdsB m z = true := by
  intro hA
  have key : ∀ i, i ≤ P.length → ∀ c ∈ P.take i, ∃ z ∈ c, holdsB m z = true := by
    intro i
    induction i with
    | zero => intro _ c hc; rw [List.take_zero] at hc; cases hc
    | succ i ih =>
      intro hi c hc
      have hlt : i < P.length := by omega
      rw [List.take_add_one, List.getElem?_eq_getElem hlt, Option.toList_some] at hc
      have hOB := List.mem_append.1 hc
      rcases hOB with h1 | h1
      · exact ih (by omega) c h1
      · have hce : c = P.getD i [] := by
          rw [List.getD_eq_getElem?_getD, List.getElem?_eq_getElem hlt]; simpa using h1
        have hOB := R.2 i hlt
        obtain ⟨hcl, hok, _⟩ := hOB
        refine Classical.byContradiction fun hno => ?_
        have hall : ∀ z ∈ P.getD i [], holdsB m z = false := fun z hz => by
          cases hq : holdsB m z with
          | false => rfl
          | true => exact absurd ⟨z, hce ▸ hz, hq⟩ hno
        refine clash_holds (m := m) (L := L ++ P.take i) (ls := (P.getD i []).map (- ·)) (fun l hl x hx => ?_) (fun x hx => ?_) (fun d hd => ?_) (fun x hx => ?_) hcl
        · rw [hm]
          have hOB := List.mem_append.1 hl
          rcases hOB with h2 | h2
          · exact hL l h2 x hx
          · have hOB := List.getElem_of_mem h2
            obtain ⟨j, hj, rfl⟩ := hOB
            rw [List.length_take] at hj
            have := (R.2 j (by omega)).2.1
            rw [List.getD_eq_getElem?_getD, List.getElem?_eq_getElem (by omega)] at this
            refine this x ?_
            rw [List.getElem_take] at hx; exact hx
        · have hOB := List.mem_map.1 hx
          obtain ⟨y, hy, rfl⟩ := hOB
          rw [hm]; exact ok_neg (hok y hy)
        · have hOB := List.mem_append.1 hd
          rcases hOB with h2 | h2
          · exact hA d h2
          · exact ih (by omega) d h2
        · have hOB := List.mem_map.1 hx
          obtain ⟨y, hy, rfl⟩ := hOB
          rw [holdsB_neg (by rw [hm]; exact hok y hy), hall y hy]; rfl
  have hne : P ≠ [] := fun e => by rw [e] at R; exact nomatch R.1
  have hlast : ([] : List Int) ∈ P := List.mem_of_getLast? R.1
  have hOB := key P.length (Nat.le_refl _) [] (by rw [List.take_length]; exact hlast)
  obtain ⟨z, hz, _⟩ := hOB
  cases hz
theorem spl_succ (s d : Nat) : spl s (d + 1) = spl s d ++ [if s / 2 ^ d % 2 = 1 then -(1 + (d : Int)) else 1 + (d : Int)] := by
  unfold spl; rw [List.range_succ, List.map_append]; rfl
theorem mem_spl {s d : Nat} {x : Int} : x ∈ spl s d ↔ ∃ i, i < d ∧ x = if s / 2 ^ i % 2 = 1 then -(1 + (i : Int)) else 1 + (i : Int) := by
  unfold spl
  rw [List.mem_map]
  constructor
  · rintro ⟨i, h1, h2⟩; exact ⟨i, List.mem_range.1 h1, h2.symm⟩
  · rintro ⟨i, h1, h2⟩; exact ⟨i, List.mem_range.2 h1, h2.symm⟩
theorem spl_ok {n s d : Nat} (hd : d ≤ n) : ∀ x ∈ spl s d, ok n x := fun x hx => by
  have hOB := mem_spl.1 hx
  obtain ⟨i, hi, rfl⟩ := hOB
  split <;> exact ⟨by omega, by omega, by omega⟩
/-- A higher bit does not turn the lower ones. -/
theorem bit_low {s d i : Nat} (hi : i < d) : (s + 2 ^ d) / 2 ^ i % 2 = s / 2 ^ i % 2 := by
  have e : 2 ^ d = 2 ^ i * (2 * 2 ^ (d - i - 1)) := by
    rw [← Nat.pow_succ', ← Nat.pow_add]; congr 1; omega
  rw [e, Nat.add_mul_div_left _ _ (Nat.two_pow_pos i)]
  omega
theorem spl_high (s d : Nat) : spl (s + 2 ^ d) d = spl s d := by
  unfold spl
  refine List.map_congr_left fun i hi => ?_
  rw [bit_low (List.mem_range.1 hi)]
theorem spl_nodup (s d : Nat) : (spl s d).Nodup := by
  unfold spl
  rw [List.Nodup, List.pairwise_map]
  refine List.Pairwise.imp ?_ (List.pairwise_lt_range (n := d))
  intro a b hab e
  split at e <;> split at e <;> omega
theorem split_rup {n : Nat} {L : List (List Int)} (hL : ∀ l ∈ L, ∀ x ∈ l, ok n x) (hno : ∀ s, s < 2 ^ n → ¬ allB L (bitsB s n)) : Rup n L (splitL n (n + 1)) := by
  have key : ∀ k, k ≤ n + 1 → ∀ i, i < (splitL n k).length → Clash (L ++ (splitL n k).take i) (((splitL n k).getD i []).map (- ·)) ∧ (∀ x ∈ (splitL n k).getD i [], ok n x) ∧ ((splitL n k).getD i []).Nodup := by
    intro k
    induction k with
    | zero => intro _ i hi; cases hi
    | succ k ih =>
      intro hk i hi
      rw [splitL] at hi ⊢
      have hOB := Nat.lt_or_ge i (splitL n k).length
      rcases hOB with h1 | h1
      · rw [List.take_append_of_le_length (by omega), getD_app h1]; exact ih (by omega) i h1
      · have hOB : ∃ s, i = (splitL n k).length + s := ⟨i - (splitL n k).length, by omega⟩
        obtain ⟨s, hs⟩ := hOB
        subst hs
        rw [List.length_append] at hi
        have hll : (lvlL (n - k) (2 ^ (n - k))).length = 2 ^ (n - k) := by simp [lvlL]
        have hsl : s < 2 ^ (n - k) := by omega
        have hg : (splitL n k ++ lvlL (n - k) (2 ^ (n - k))).getD ((splitL n k).length + s) [] = spl s (n - k) := by
          rw [List.getD_eq_getElem?_getD, List.getElem?_append_right (by omega), Nat.add_sub_cancel_left]
          unfold lvlL
          rw [List.getElem?_map, List.getElem?_range hsl]; rfl
        rw [hg]
        refine ⟨?_, spl_ok (by omega), spl_nodup _ _⟩
        have hsub : ∀ c ∈ L ++ splitL n k, c ∈ L ++ (splitL n k ++ lvlL (n - k) (2 ^ (n - k))).take ((splitL n k).length + s) := fun c hc => by
          have hOB := List.mem_append.1 hc
          rcases hOB with h2 | h2
          · exact List.mem_append_left _ h2
          · refine List.mem_append_right _ ?_
            rw [List.take_append]
            refine List.mem_append_left _ ?_
            rw [List.take_of_length_le (by omega)]; exact h2
        refine Clash.mono hsub (fun _ h => h) ?_
        cases k with
        | zero =>
          have hno2 := hno s hsl
          have hOB : ∃ j, j < L.length ∧ ¬ (L.getD j []).any (holdsB (bitsB s n)) = true := Classical.byContradiction fun h2 => hno2 fun j hj => Classical.byContradiction fun h3 => h2 ⟨j, hj, h3⟩
          obtain ⟨j, hj, hany⟩ := hOB
          refine .inr ⟨L.getD j [], List.mem_append_left _ (getDL_mem hj), fun y hy => .tak ?_⟩
          have hyo := hL _ (getDL_mem hj) y hy
          have hyh : holdsB (bitsB s n) y ≠ true := fun h2 => hany (List.any_eq_true.2 ⟨y, hy, h2⟩)
          refine List.mem_map.2 ⟨y, mem_spl.2 ⟨y.natAbs - 1, ?_, ?_⟩, rfl⟩
          · obtain ⟨y0, y1, y2⟩ := hyo
            omega
          · obtain ⟨y0, y1, y2⟩ := hyo
            have hb : (bitsB s n).getD (y.natAbs - 1) false = (s / 2 ^ (y.natAbs - 1) % 2 == 1) := by
              have hlt : y.natAbs - 1 < n := by omega
              unfold bitsB
              rw [List.getD_eq_getElem?_getD, List.getElem?_map, List.getElem?_range hlt]; rfl
            have ha : (absI y - 1).toNat = y.natAbs - 1 := by unfold absI; split <;> omega
            unfold holdsB at hyh
            rw [ha, hb] at hyh
            by_cases hp : y > 0
            · rw [decide_eq_true hp] at hyh
              have hz : ¬ s / 2 ^ (y.natAbs - 1) % 2 = 1 := fun e => hyh (by rw [e]; rfl)
              rw [if_neg hz]; omega
            · rw [decide_eq_false hp] at hyh
              have hz : s / 2 ^ (y.natAbs - 1) % 2 = 1 := Classical.byContradiction fun e => hyh (by rw [beq_false_of_ne e]; rfl)
              rw [if_pos hz]; omega
        | succ k =>
          have hOB : ∃ d, n - (k + 1) = d := ⟨_, rfl⟩
          obtain ⟨d, hd⟩ := hOB
          have hd1 : n - k = d + 1 := by omega
          rw [hd] at hsl ⊢
          have hbs : s / 2 ^ d % 2 = 0 := by rw [Nat.div_eq_of_lt hsl]
          have hbh : (s + 2 ^ d) / 2 ^ d % 2 = 1 := by
            rw [Nat.add_div_right _ (Nat.two_pow_pos d), Nat.div_eq_of_lt hsl]
          have hin : ∀ t, t < 2 ^ (d + 1) → spl t (d + 1) ∈ L ++ splitL n (k + 1) := fun t ht => by
            refine List.mem_append_right _ ?_
            rw [splitL, hd1]
            exact List.mem_append_right _ (List.mem_map.2 ⟨t, List.mem_range.2 ht, rfl⟩)
          have e1 : spl s (d + 1) = spl s d ++ [1 + (d : Int)] := by rw [spl_succ, if_neg (by omega)]
          have e2 : spl (s + 2 ^ d) (d + 1) = spl s d ++ [-(1 + (d : Int))] := by rw [spl_succ, if_pos hbh, spl_high]
          have hp2 : 2 ^ (d + 1) = 2 ^ d + 2 ^ d := by rw [Nat.pow_succ]; omega
          refine .inl ⟨1 + (d : Int), ?_, ?_⟩
          · refine .unit (hin s (by omega)) (by rw [e1]; simp) fun y hy hne => .tak ?_
            rw [e1] at hy
            have hOB := List.mem_append.1 hy
            rcases hOB with h2 | h2
            · exact List.mem_map.2 ⟨y, h2, rfl⟩
            · exact absurd (List.mem_singleton.1 h2) hne
          · refine .unit (hin (s + 2 ^ d) (by omega)) (by rw [e2]; simp) fun y hy hne => .tak ?_
            rw [e2] at hy
            have hOB := List.mem_append.1 hy
            rcases hOB with h2 | h2
            · exact List.mem_map.2 ⟨y, h2, rfl⟩
            · exact absurd (List.mem_singleton.1 h2) hne
  refine ⟨?_, key (n + 1) (Nat.le_refl _)⟩
  rw [splitL, Nat.sub_self]
  show (splitL n n ++ [[]]).getLast? = _
  simp
end Sa
end Pf
end Go.Proofs.YtfjloafebkjadaaGreatDoor
/- What Solve answers, in short. -/
namespace Go.Proofs.YtfjloafebkjadaaGreatDoor
namespace Pf
namespace Sa
open Go Go.AI Go.Proofs
theorem oks_len {n : Nat} {l : List Int} (hn : l.Nodup) (h : ∀ x ∈ l, ok n x) : l.length ≤ 2 * n + 1 := by
  have := nodup_len (m := (List.range (2 * n + 1)).map fun i : Nat => (i : Int) - n) hn fun x hx => by
    have hOB := h x hx
    obtain ⟨_, h1, h2⟩ := hOB
    exact List.mem_map.2 ⟨(x + n).toNat, List.mem_range.2 (by omega), by omega⟩
  simpa using this
theorem valid_oks {n : Nat} {L : List (List Int)} (hv : valid n L) : ∀ l ∈ L, ∀ x ∈ l, ok n x := fun l hl => by
  have hOB := List.getElem_of_mem hl
  obtain ⟨i, hi, rfl⟩ := hOB
  have := hv.2.2.2.2 i hi
  rwa [List.getD_eq_getElem?_getD, List.getElem?_eq_getElem hi] at this
theorem allB_mem {L : List (List Int)} {B : List Bool} (h : allB L B) : ∀ c ∈ L, ∃ z ∈ c, holdsB B z = true := fun c hc => by
  have hOB := List.getElem_of_mem hc
  obtain ⟨i, hi, rfl⟩ := hOB
  have := h i hi
  rw [List.getD_eq_getElem?_getD, List.getElem?_eq_getElem hi] at this
  exact List.any_eq_true.1 this
/-- What Solve answers, without the machine: a refutation in each case in which there is no model. -/
theorem says_rup {n : Nat} {L P : List (List Int)} (hL : ∀ l ∈ L, ∀ x ∈ l, ok n x) (h : (Rup n L P ∧ P.length ≤ 20002) ∨ (n ≤ 12 ∧ P = splitL n (n + 1) ∧ ∀ s, s < 2 ^ n → ¬ allB L (bitsB s n))) : (Rup n L P ∧ P.length ≤ 60000) ∧ ∀ B : List Bool, B.length = n → ¬ allB L B := by
  have R : Rup n L P ∧ P.length ≤ 60000 := by
    rcases h with h | ⟨hn, rfl, hno⟩
    · exact ⟨h.1, by omega⟩
    · refine ⟨split_rup hL hno, ?_⟩
      have h1 := splitL_len n (n + 1) (Nat.le_refl _)
      have h2 : 2 ^ n ≤ 2 ^ 12 := Nat.pow_le_pow_right (by decide) hn
      have h3 : (n + 1) * 2 ^ n ≤ 13 * 2 ^ 12 := Nat.mul_le_mul (by omega) h2
      omega
  exact ⟨R, fun B hB hA => rup_sound hB hL R.1 (allB_mem hA)⟩
end Sa
end Pf
end Go.Proofs.YtfjloafebkjadaaGreatDoor
