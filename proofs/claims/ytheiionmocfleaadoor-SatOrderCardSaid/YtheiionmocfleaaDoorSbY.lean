/- A refutation is sound; the law's own questions. -/
import Derived.Test.YtheiionmocfleaaDoorSbX
import Derived.Test.YtheiionmocfleaaDoorSaY
/- A chain of clauses down to the empty one has no model; the ways through all variables are such a chain. -/
namespace Go.Proofs.YtheiionmocfleaaDoor
namespace Pf
namespace Sa
open Go Go.AI Go.Proofs
/-- A set with a refutation has no model. -/
theorem rup_sound {n : Nat} {L P : List (List Int)} {m : List Bool} (hm : m.length = n) (hL : ∀ l ∈ L, ∀ x ∈ l, ok n x) (R : Rup n L P) : ¬ ∀ c ∈ L, ∃ z ∈ c, holdsB m z = true := by
  intro hA
  have key : ∀ i, i ≤ P.length → ∀ c ∈ P.take i, ∃ z ∈ c, holdsB m z = true := by
    intro i
    induction i with
    | zero => intro _ c hc; rw [List.take_zero] at hc; cases hc
    | succ i ih =>
      intro hi c hc
      have hlt : i < P.length := by omega
      rw [List.take_add_one, List.getElem?_eq_getElem hlt, Option.toList_some] at hc
      have hOB := List.mem_append.1 hc
      rcases hOB with h1 | h1
      · exact ih (by omega) c h1
      · have hce : c = P.getD i [] := by
          rw [List.getD_eq_getElem?_getD, List.getElem?_eq_getElem hlt]; simpa using h1
        have hOB := R.2 i hlt
        obtain ⟨hcl, hok, _⟩ := hOB
        refine Classical.byContradiction fun hno => ?_
        have hall : ∀ z ∈ P.getD i [], holdsB m z = false := fun z hz => by
          cases hq : holdsB m z with
          | false => rfl
          | true => exact absurd ⟨z, hce ▸ hz, hq⟩ hno
        refine clash_holds (m := m) (L := L ++ P.take i) (ls := (P.getD i []).map (- ·)) (fun l hl x hx => ?_) (fun x hx => ?_) (fun d hd => ?_) (fun x hx => ?_) hcl
        · rw [hm]
          have hOB := List.mem_append.1 hl
          rcases hOB with h2 | h2
          · exact hL l h2 x hx
          · have hOB := List.getElem_of_mem h2
            obtain ⟨j, hj, rfl⟩ := hOB
            rw [List.length_take] at hj
            have := (R.2 j (by omega)).2.1
            rw [List.getD_eq_getElem?_getD, List.getElem?_eq_getElem (by omega)] at this
            refine this x ?_
            rw [List.getElem_take] at hx; exact hx
        · have hOB := List.mem_map.1 hx
          obtain ⟨y, hy, rfl⟩ := hOB
          rw [hm]; exact ok_neg (hok y hy)
        · have hOB := List.mem_append.1 hd
          rcases hOB with h2 | h2
          · exact hA d h2
          · exact ih (by omega) d h2
        · have hOB := List.mem_map.1 hx
          obtain ⟨y, hy, rfl⟩ := hOB
          rw [holdsB_neg (by rw [hm]; exact hok y hy), hall y hy]; rfl
  have hne : P ≠ [] := fun e => by rw [e] at R; exact nomatch R.1
  have hlast : ([] : List Int) ∈ P := List.mem_of_getLast? R.1
  have hOB := key P.length (Nat.le_refl _) [] (by rw [List.take_length]; exact hlast)
  obtain ⟨z, hz, _⟩ := hOB
  cases hz
theorem spl_succ (s d : Nat) : spl s (d + 1) = spl s d ++ [if s / 2 ^ d % 2 = 1 then -(1 + (d : Int)) else 1 + (d : Int)] := by
  unfold spl; rw [List.range_succ, List.map_append]; rfl
theorem mem_spl {s d : Nat} {x : Int} : x ∈ spl s d ↔ ∃ i, i < d ∧ x = if s / 2 ^ i % 2 = 1 then -(1 + (i : Int)) else 1 + (i : Int) := by
  unfold spl
  rw [List.mem_map]
  constructor
  · rintro ⟨i, h1, h2⟩; exact ⟨i, List.mem_range.1 h1, h2.symm⟩
  · rintro ⟨i, h1, h2⟩; exact ⟨i, List.mem_range.2 h1, h2.symm⟩
theorem spl_ok {n s d : Nat} (hd : d ≤ n) : ∀ x ∈ spl s d, ok n x := fun x hx => by
  have hOB := mem_spl.1 hx
  obtain ⟨i, hi, rfl⟩ := hOB
  split <;> exact ⟨by omega, by omega, by omega⟩
/-- A higher bit does not turn the lower ones. -/
theorem bit_low {s d i : Nat} (hi : i < d) : (s + 2 ^ d) / 2 ^ i % 2 = s / 2 ^ i % 2 := by
  have e : 2 ^ d = 2 ^ i * (2 * 2 ^ (d - i - 1)) := by
    rw [← Nat.pow_succ', ← Nat.pow_add]; congr 1; omega
  rw [e, Nat.add_mul_div_left _ _ (Nat.two_pow_pos i)]
  omega
theorem spl_high (s d : Nat) : spl (s + 2 ^ d) d = spl s d := by
  unfold spl
  refine List.map_congr_left fun i hi => ?_
  rw [bit_low (List.mem_range.1 hi)]
theorem spl_nodup (s d : Nat) : (spl s d).Nodup := by
  unfold spl
  rw [List.Nodup, List.pairwise_map]
  refine List.Pairwise.imp ?_ (List.pairwise_lt_range (n := d))
  intro a b hab e
  split at e <;> split at e <;> omega
theorem split_rup {n : Nat} {L : List (List Int)} (hL : ∀ l ∈ L, ∀ x ∈ l, ok n x) (hno : ∀ s, s < 2 ^ n → ¬ allB L (bitsB s n)) : Rup n L (splitL n (n + 1)) := by
  have key : ∀ k, k ≤ n + 1 → ∀ i, i < (splitL n k).length → Clash (L ++ (splitL n k).take i) (((splitL n k).getD i []).map (- ·)) ∧ (∀ x ∈ (splitL n k).getD i [], ok n x) ∧ ((splitL n k).getD i []).Nodup := by
    intro k
    induction k with
    | zero => intro _ i hi; cases hi
    | succ k ih =>
      intro hk i hi
      rw [splitL] at hi ⊢
      have hOB := Nat.lt_or_ge i (splitL n k).length
      rcases hOB with h1 | h1
      · rw [List.take_append_of_le_length (by omega), getD_app h1]; exact ih (by omega) i h1
      · have hOB : ∃ s, i = (splitL n k).length + s := ⟨i - (splitL n k).length, by omega⟩
        obtain ⟨s, hs⟩ := hOB
        subst hs
        rw [List.length_append] at hi
        have hll : (lvlL (n - k) (2 ^ (n - k))).length = 2 ^ (n - k) := by simp [lvlL]
        have hsl : s < 2 ^ (n - k) := by omega
        have hg : (splitL n k ++ lvlL (n - k) (2 ^ (n - k))).getD ((splitL n k).length + s) [] = spl s (n - k) := by
          rw [List.getD_eq_getElem?_getD, List.getElem?_append_right (by omega), Nat.add_sub_cancel_left]
          unfold lvlL
          rw [List.getElem?_map, List.getElem?_range hsl]; rfl
        rw [hg]
        refine ⟨?_, spl_ok (by omega), spl_nodup _ _⟩
        have hsub : ∀ c ∈ L ++ splitL n k, c ∈ L ++ (splitL n k ++ lvlL (n - k) (2 ^ (n - k))).take ((splitL n k).length + s) := fun c hc => by
          have hOB := List.mem_append.1 hc
          rcases hOB with h2 | h2
          · exact List.mem_append_left _ h2
          · refine List.mem_append_right _ ?_
            rw [List.take_append]
            refine List.mem_append_left _ ?_
            rw [List.take_of_length_le (by omega)]; exact h2
        refine Clash.mono hsub (fun _ h => h) ?_
        cases k with
        | zero =>
          have hno2 := hno s hsl
          have hOB : ∃ j, j < L.length ∧ ¬ (L.getD j []).any (holdsB (bitsB s n)) = true := Classical.byContradiction fun h2 => hno2 fun j hj => Classical.byContradiction fun h3 => h2 ⟨j, hj, h3⟩
          obtain ⟨j, hj, hany⟩ := hOB
          refine .inr ⟨L.getD j [], List.mem_append_left _ (getDL_mem hj), fun y hy => .tak ?_⟩
          have hyo := hL _ (getDL_mem hj) y hy
          have hyh : holdsB (bitsB s n) y ≠ true := fun h2 => hany (List.any_eq_true.2 ⟨y, hy, h2⟩)
          refine List.mem_map.2 ⟨y, mem_spl.2 ⟨y.natAbs - 1, ?_, ?_⟩, rfl⟩
          · obtain ⟨y0, y1, y2⟩ := hyo
            omega
          · obtain ⟨y0, y1, y2⟩ := hyo
            have hb : (bitsB s n).getD (y.natAbs - 1) false = (s / 2 ^ (y.natAbs - 1) % 2 == 1) := by
              have hlt : y.natAbs - 1 < n := by omega
              unfold bitsB
              rw [List.getD_eq_getElem?_getD, List.getElem?_map, List.getElem?_range hlt]; rfl
            have ha : (absI y - 1).toNat = y.natAbs - 1 := by unfold absI; split <;> omega
            unfold holdsB at hyh
            rw [ha, hb] at hyh
            by_cases hp : y > 0
            · rw [decide_eq_true hp] at hyh
              have hz : ¬ s / 2 ^ (y.natAbs - 1) % 2 = 1 := fun e => hyh (by rw [e]; rfl)
              rw [if_neg hz]; omega
            · rw [decide_eq_false hp] at hyh
              have hz : s / 2 ^ (y.natAbs - 1) % 2 = 1 := Classical.byContradiction fun e => hyh (by rw [beq_false_of_ne e]; rfl)
              rw [if_pos hz]; omega
        | succ k =>
          have hOB : ∃ d, n - (k + 1) = d := ⟨_, rfl⟩
          obtain ⟨d, hd⟩ := hOB
          have hd1 : n - k = d + 1 := by omega
          rw [hd] at hsl ⊢
          have hbs : s / 2 ^ d % 2 = 0 := by rw [Nat.div_eq_of_lt hsl]
          have hbh : (s + 2 ^ d) / 2 ^ d % 2 = 1 := by
            rw [Nat.add_div_right _ (Nat.two_pow_pos d), Nat.div_eq_of_lt hsl]
          have hin : ∀ t, t < 2 ^ (d + 1) → spl t (d + 1) ∈ L ++ splitL n (k + 1) := fun t ht => by
            refine List.mem_append_right _ ?_
            rw [splitL, hd1]
            exact List.mem_append_right _ (List.mem_map.2 ⟨t, List.mem_range.2 ht, rfl⟩)
          have e1 : spl s (d + 1) = spl s d ++ [1 + (d : Int)] := by rw [spl_succ, if_neg (by omega)]
          have e2 : spl (s + 2 ^ d) (d + 1) = spl s d ++ [-(1 + (d : Int))] := by rw [spl_succ, if_pos hbh, spl_high]
          have hp2 : 2 ^ (d + 1) = 2 ^ d + 2 ^ d := by rw [Nat.pow_succ]; omega
          refine .inl ⟨1 + (d : Int), ?_, ?_⟩
          · refine .unit (hin s (by omega)) (by rw [e1]; simp) fun y hy hne => .tak ?_
            rw [e1] at hy
            have hOB := List.mem_append.1 hy
            rcases hOB with h2 | h2
            · exact List.mem_map.2 ⟨y, h2, rfl⟩
            · exact absurd (List.mem_singleton.1 h2) hne
          · refine .unit (hin (s + 2 ^ d) (by omega)) (by rw [e2]; simp) fun y hy hne => .tak ?_
            rw [e2] at hy
            have hOB := List.mem_append.1 hy
            rcases hOB with h2 | h2
            · exact List.mem_map.2 ⟨y, h2, rfl⟩
            · exact absurd (List.mem_singleton.1 h2) hne
  refine ⟨?_, key (n + 1) (Nat.le_refl _)⟩
  rw [splitL, Nat.sub_self]
  show (splitL n n ++ [[]]).getLast? = _
  simp
end Sa
end Pf
end Go.Proofs.YtheiionmocfleaaDoor
/- Whether units alone clash: the law's own question. -/
namespace Go.Proofs.YtheiionmocfleaaDoor
namespace Pf
namespace Sa
open Go Go.AI Go.Proofs
variable {gt : Tree (List AV)}
set_option maxHeartbeats 4000000 in
theorem clashes_spec {h : AH} (hw : WF h) {vars : Int} {cl : AV} {L : List (List Int)} {cv : Nat → AV} (C : CnfAt h vars cl L cv) {tv : AV} {ls : List Int} (rt : IntRow h tv ls) (htl : ls.length ≤ 2 ^ 50) (hv : valid vars L) (hok : ∀ x ∈ ls, ok vars x) :
    EvF (TT gt) X 18 [.agg [.int .i64 vars, cl], tv] h (fun r h' => (h.le h' ∧ WF h') ∧ ∃ q, r = .bool q ∧ (q = true ↔ Clash L ls)) := by
  have S0 := HS.all hw
  refine EvF.enter rfl rfl rfl ?_
  repeat (first | refine EvO.plain rfl rfl rfl rfl rfl rfl ?_ | refine EvO.plain rfl rfl rfl rfl rfl (by assumption) ?_ | refine EvC.seq ?_ | refine EvC.region rfl ?_ | refine EvO.nil ?_ | refine at_normal ?_ | refine EvC.skip ?_ | refine EvC.block ?_ | refine EvC.ret ?_ | refine at_ret ?_ | refine be_ret ?_ | refine ro_ret ?_ | refine EvC.exit ?_ | refine at_exit ?_ | refine be_same rfl ?_ | refine be_other rfl ?_ | refine ro_exit ?_ | refine be_normal ?_ | refine EvC.scope ?_ | refine EvC.label ?_ | refine EvR.nil ?_ | refine EvH.nil ?_ | refine jo_normal ?_ | refine jo_ret ?_ | refine jo_exit ?_ | refine ro_normal ?_ | refine EvO.cons rfl rfl rfl (EvP.add64 rfl rfl (by omega) ?_) | refine EvO.cons rfl rfl rfl (EvP.sub64 rfl rfl (by omega) ?_) | refine EvO.cons rfl rfl rfl (EvP.mul64 rfl rfl (by omega) ?_) | refine EvO.cons rfl rfl rfl (EvP.neg64 rfl (by omega) ?_) | refine EvO.cons rfl rfl rfl (EvP.max rfl rfl rfl rfl ?_) | refine EvO.cons rfl rfl rfl (EvP.min rfl rfl rfl rfl ?_) | refine EvO.off rfl rfl rfl ?_ | refine EvO.plainOn rfl rfl rfl rfl rfl rfl ?_ | refine EvO.plainOn rfl rfl rfl rfl rfl (by assumption) ?_ | refine EvO.on rfl rfl rfl (EvP.add64 rfl rfl (by omega) ?_) | refine EvO.on rfl rfl rfl (EvP.sub64 rfl rfl (by omega) ?_) | refine EvO.on rfl rfl rfl (EvP.mul64 rfl rfl (by omega) ?_) | refine EvO.on rfl rfl rfl (EvP.neg64 rfl (by omega) ?_) | refine EvO.on rfl rfl rfl (EvP.max rfl rfl rfl rfl ?_) | refine EvO.on rfl rfl rfl (EvP.min rfl rfl rfl rfl ?_) | refine EvR.plain rfl rfl rfl rfl rfl rfl rfl ?_ | refine EvR.plain rfl rfl rfl rfl rfl rfl (by assumption) ?_ | refine EvR.cons rfl rfl rfl rfl (EvP.add64 rfl rfl (by omega) ?_) | refine EvR.cons rfl rfl rfl rfl (EvP.sub64 rfl rfl (by omega) ?_) | refine EvR.cons rfl rfl rfl rfl (EvP.mul64 rfl rfl (by omega) ?_) | refine EvR.cons rfl rfl rfl rfl (EvP.neg64 rfl (by omega) ?_) | refine EvR.cons rfl rfl rfl rfl (EvP.max rfl rfl rfl rfl ?_) | refine EvR.cons rfl rfl rfl rfl (EvP.min rfl rfl rfl rfl ?_) | refine EvR.off rfl rfl rfl rfl ?_ | refine EvR.plainOn rfl rfl rfl rfl rfl rfl rfl ?_ | refine EvR.plainOn rfl rfl rfl rfl rfl rfl (by assumption) ?_ | refine EvR.on rfl rfl rfl rfl (EvP.add64 rfl rfl (by omega) ?_) | refine EvR.on rfl rfl rfl rfl (EvP.sub64 rfl rfl (by omega) ?_) | refine EvR.on rfl rfl rfl rfl (EvP.mul64 rfl rfl (by omega) ?_) | refine EvR.on rfl rfl rfl rfl (EvP.neg64 rfl (by omega) ?_) | refine EvR.on rfl rfl rfl rfl (EvP.max rfl rfl rfl rfl ?_) | refine EvR.on rfl rfl rfl rfl (EvP.min rfl rfl rfl rfl ?_))
  (first | refine EvO.cons rfl rfl rfl (EvP.newR (b := .cells [.int .i64 vars, cl] 24 false) (mk := .ptr) S0 rfl rfl (fun h1 b A1 S1 hle1 o1 _ _ => ?_)) | refine EvO.cons0 rfl rfl (EvP.newR (b := .cells [.int .i64 vars, cl] 24 false) (mk := .ptr) S0 rfl rfl (fun h1 b A1 S1 hle1 o1 _ _ => ?_)) | refine EvO.on rfl rfl rfl (EvP.newR (b := .cells [.int .i64 vars, cl] 24 false) (mk := .ptr) S0 rfl rfl (fun h1 b A1 S1 hle1 o1 _ _ => ?_)) | refine EvR.cons rfl rfl rfl rfl (EvP.newR (b := .cells [.int .i64 vars, cl] 24 false) (mk := .ptr) S0 rfl rfl (fun h1 b A1 S1 hle1 o1 _ _ => ?_)) | refine EvR.cons0 rfl rfl rfl (EvP.newR (b := .cells [.int .i64 vars, cl] 24 false) (mk := .ptr) S0 rfl rfl (fun h1 b A1 S1 hle1 o1 _ _ => ?_)) | refine EvR.on rfl rfl rfl rfl (EvP.newR (b := .cells [.int .i64 vars, cl] 24 false) (mk := .ptr) S0 rfl rfl (fun h1 b A1 S1 hle1 o1 _ _ => ?_)))
  have f1 := loadAgg (T := TT gt) (t := 24) (off := 0) (n := 2) (r := [.int .i64 vars, cl]) o1 rfl rfl
  have hle01 : h.le h1 := fun i o e => S1.le _ _ (hle1 _ _ e)
  repeat (first | refine EvO.plain rfl rfl rfl rfl rfl rfl ?_ | refine EvO.plain rfl rfl rfl rfl rfl (by assumption) ?_ | refine EvC.seq ?_ | refine EvC.region rfl ?_ | refine EvO.nil ?_ | refine at_normal ?_ | refine EvC.skip ?_ | refine EvC.block ?_ | refine EvC.ret ?_ | refine at_ret ?_ | refine be_ret ?_ | refine ro_ret ?_ | refine EvC.exit ?_ | refine at_exit ?_ | refine be_same rfl ?_ | refine be_other rfl ?_ | refine ro_exit ?_ | refine be_normal ?_ | refine EvC.scope ?_ | refine EvC.label ?_ | refine EvR.nil ?_ | refine EvH.nil ?_ | refine jo_normal ?_ | refine jo_ret ?_ | refine jo_exit ?_ | refine ro_normal ?_ | refine EvO.cons rfl rfl rfl (EvP.add64 rfl rfl (by omega) ?_) | refine EvO.cons rfl rfl rfl (EvP.sub64 rfl rfl (by omega) ?_) | refine EvO.cons rfl rfl rfl (EvP.mul64 rfl rfl (by omega) ?_) | refine EvO.cons rfl rfl rfl (EvP.neg64 rfl (by omega) ?_) | refine EvO.cons rfl rfl rfl (EvP.max rfl rfl rfl rfl ?_) | refine EvO.cons rfl rfl rfl (EvP.min rfl rfl rfl rfl ?_) | refine EvO.off rfl rfl rfl ?_ | refine EvO.plainOn rfl rfl rfl rfl rfl rfl ?_ | refine EvO.plainOn rfl rfl rfl rfl rfl (by assumption) ?_ | refine EvO.on rfl rfl rfl (EvP.add64 rfl rfl (by omega) ?_) | refine EvO.on rfl rfl rfl (EvP.sub64 rfl rfl (by omega) ?_) | refine EvO.on rfl rfl rfl (EvP.mul64 rfl rfl (by omega) ?_) | refine EvO.on rfl rfl rfl (EvP.neg64 rfl (by omega) ?_) | refine EvO.on rfl rfl rfl (EvP.max rfl rfl rfl rfl ?_) | refine EvO.on rfl rfl rfl (EvP.min rfl rfl rfl rfl ?_) | refine EvR.plain rfl rfl rfl rfl rfl rfl rfl ?_ | refine EvR.plain rfl rfl rfl rfl rfl rfl (by assumption) ?_ | refine EvR.cons rfl rfl rfl rfl (EvP.add64 rfl rfl (by omega) ?_) | refine EvR.cons rfl rfl rfl rfl (EvP.sub64 rfl rfl (by omega) ?_) | refine EvR.cons rfl rfl rfl rfl (EvP.mul64 rfl rfl (by omega) ?_) | refine EvR.cons rfl rfl rfl rfl (EvP.neg64 rfl (by omega) ?_) | refine EvR.cons rfl rfl rfl rfl (EvP.max rfl rfl rfl rfl ?_) | refine EvR.cons rfl rfl rfl rfl (EvP.min rfl rfl rfl rfl ?_) | refine EvR.off rfl rfl rfl rfl ?_ | refine EvR.plainOn rfl rfl rfl rfl rfl rfl rfl ?_ | refine EvR.plainOn rfl rfl rfl rfl rfl rfl (by assumption) ?_ | refine EvR.on rfl rfl rfl rfl (EvP.add64 rfl rfl (by omega) ?_) | refine EvR.on rfl rfl rfl rfl (EvP.sub64 rfl rfl (by omega) ?_) | refine EvR.on rfl rfl rfl rfl (EvP.mul64 rfl rfl (by omega) ?_) | refine EvR.on rfl rfl rfl rfl (EvP.neg64 rfl (by omega) ?_) | refine EvR.on rfl rfl rfl rfl (EvP.max rfl rfl rfl rfl ?_) | refine EvR.on rfl rfl rfl rfl (EvP.min rfl rfl rfl rfl ?_))
  (first | refine EvO.cons rfl rfl rfl (EvP.callF rfl rfl rfl rfl (EvF.mono (refUnits_spec S1.wf (C.mono hle01) (RowOf.mono hle01 rt) htl) ?_)) | refine EvO.cons0 rfl rfl (EvP.callF rfl rfl rfl rfl (EvF.mono (refUnits_spec S1.wf (C.mono hle01) (RowOf.mono hle01 rt) htl) ?_)) | refine EvO.on rfl rfl rfl (EvP.callF rfl rfl rfl rfl (EvF.mono (refUnits_spec S1.wf (C.mono hle01) (RowOf.mono hle01 rt) htl) ?_)) | refine EvR.cons rfl rfl rfl rfl (EvP.callF rfl rfl rfl rfl (EvF.mono (refUnits_spec S1.wf (C.mono hle01) (RowOf.mono hle01 rt) htl) ?_)) | refine EvR.cons0 rfl rfl rfl (EvP.callF rfl rfl rfl rfl (EvF.mono (refUnits_spec S1.wf (C.mono hle01) (RowOf.mono hle01 rt) htl) ?_)) | refine EvR.on rfl rfl rfl rfl (EvP.callF rfl rfl rfl rfl (EvF.mono (refUnits_spec S1.wf (C.mono hle01) (RowOf.mono hle01 rt) htl) ?_)))
  rintro _ h2 _ ⟨⟨hle2, hw2⟩, hR⟩
  clear f1
  rcases hR with ⟨hn, _⟩ | ⟨_, ⟨hcl, rfl⟩ | ⟨a, val, rfl, V, ht, hs, _⟩⟩
  · exact absurd ⟨hv, hok⟩ hn
  · repeat (first | refine EvO.plain rfl rfl rfl rfl rfl rfl ?_ | refine EvO.plain rfl rfl rfl rfl rfl (by assumption) ?_ | refine EvC.seq ?_ | refine EvC.region rfl ?_ | refine EvO.nil ?_ | refine at_normal ?_ | refine EvC.skip ?_ | refine EvC.block ?_ | refine EvC.ret ?_ | refine at_ret ?_ | refine be_ret ?_ | refine ro_ret ?_ | refine EvC.exit ?_ | refine at_exit ?_ | refine be_same rfl ?_ | refine be_other rfl ?_ | refine ro_exit ?_ | refine be_normal ?_ | refine EvC.scope ?_ | refine EvC.label ?_ | refine EvR.nil ?_ | refine EvH.nil ?_ | refine jo_normal ?_ | refine jo_ret ?_ | refine jo_exit ?_ | refine ro_normal ?_ | refine EvO.cons rfl rfl rfl (EvP.add64 rfl rfl (by omega) ?_) | refine EvO.cons rfl rfl rfl (EvP.sub64 rfl rfl (by omega) ?_) | refine EvO.cons rfl rfl rfl (EvP.mul64 rfl rfl (by omega) ?_) | refine EvO.cons rfl rfl rfl (EvP.neg64 rfl (by omega) ?_) | refine EvO.cons rfl rfl rfl (EvP.max rfl rfl rfl rfl ?_) | refine EvO.cons rfl rfl rfl (EvP.min rfl rfl rfl rfl ?_) | refine EvO.off rfl rfl rfl ?_ | refine EvO.plainOn rfl rfl rfl rfl rfl rfl ?_ | refine EvO.plainOn rfl rfl rfl rfl rfl (by assumption) ?_ | refine EvO.on rfl rfl rfl (EvP.add64 rfl rfl (by omega) ?_) | refine EvO.on rfl rfl rfl (EvP.sub64 rfl rfl (by omega) ?_) | refine EvO.on rfl rfl rfl (EvP.mul64 rfl rfl (by omega) ?_) | refine EvO.on rfl rfl rfl (EvP.neg64 rfl (by omega) ?_) | refine EvO.on rfl rfl rfl (EvP.max rfl rfl rfl rfl ?_) | refine EvO.on rfl rfl rfl (EvP.min rfl rfl rfl rfl ?_) | refine EvR.plain rfl rfl rfl rfl rfl rfl rfl ?_ | refine EvR.plain rfl rfl rfl rfl rfl rfl (by assumption) ?_ | refine EvR.cons rfl rfl rfl rfl (EvP.add64 rfl rfl (by omega) ?_) | refine EvR.cons rfl rfl rfl rfl (EvP.sub64 rfl rfl (by omega) ?_) | refine EvR.cons rfl rfl rfl rfl (EvP.mul64 rfl rfl (by omega) ?_) | refine EvR.cons rfl rfl rfl rfl (EvP.neg64 rfl (by omega) ?_) | refine EvR.cons rfl rfl rfl rfl (EvP.max rfl rfl rfl rfl ?_) | refine EvR.cons rfl rfl rfl rfl (EvP.min rfl rfl rfl rfl ?_) | refine EvR.off rfl rfl rfl rfl ?_ | refine EvR.plainOn rfl rfl rfl rfl rfl rfl rfl ?_ | refine EvR.plainOn rfl rfl rfl rfl rfl rfl (by assumption) ?_ | refine EvR.on rfl rfl rfl rfl (EvP.add64 rfl rfl (by omega) ?_) | refine EvR.on rfl rfl rfl rfl (EvP.sub64 rfl rfl (by omega) ?_) | refine EvR.on rfl rfl rfl rfl (EvP.mul64 rfl rfl (by omega) ?_) | refine EvR.on rfl rfl rfl rfl (EvP.neg64 rfl (by omega) ?_) | refine EvR.on rfl rfl rfl rfl (EvP.max rfl rfl rfl rfl ?_) | refine EvR.on rfl rfl rfl rfl (EvP.min rfl rfl rfl rfl ?_))
    refine EvO.cons rfl rfl rfl (EvP.quiet (v := .bool true) rfl rfl ?_)
    repeat (first | refine EvO.plain rfl rfl rfl rfl rfl rfl ?_ | refine EvO.plain rfl rfl rfl rfl rfl (by assumption) ?_ | refine EvC.seq ?_ | refine EvC.region rfl ?_ | refine EvO.nil ?_ | refine at_normal ?_ | refine EvC.skip ?_ | refine EvC.block ?_ | refine EvC.ret ?_ | refine at_ret ?_ | refine be_ret ?_ | refine ro_ret ?_ | refine EvC.exit ?_ | refine at_exit ?_ | refine be_same rfl ?_ | refine be_other rfl ?_ | refine ro_exit ?_ | refine be_normal ?_ | refine EvC.scope ?_ | refine EvC.label ?_ | refine EvR.nil ?_ | refine EvH.nil ?_ | refine jo_normal ?_ | refine jo_ret ?_ | refine jo_exit ?_ | refine ro_normal ?_ | refine EvO.cons rfl rfl rfl (EvP.add64 rfl rfl (by omega) ?_) | refine EvO.cons rfl rfl rfl (EvP.sub64 rfl rfl (by omega) ?_) | refine EvO.cons rfl rfl rfl (EvP.mul64 rfl rfl (by omega) ?_) | refine EvO.cons rfl rfl rfl (EvP.neg64 rfl (by omega) ?_) | refine EvO.cons rfl rfl rfl (EvP.max rfl rfl rfl rfl ?_) | refine EvO.cons rfl rfl rfl (EvP.min rfl rfl rfl rfl ?_) | refine EvO.off rfl rfl rfl ?_ | refine EvO.plainOn rfl rfl rfl rfl rfl rfl ?_ | refine EvO.plainOn rfl rfl rfl rfl rfl (by assumption) ?_ | refine EvO.on rfl rfl rfl (EvP.add64 rfl rfl (by omega) ?_) | refine EvO.on rfl rfl rfl (EvP.sub64 rfl rfl (by omega) ?_) | refine EvO.on rfl rfl rfl (EvP.mul64 rfl rfl (by omega) ?_) | refine EvO.on rfl rfl rfl (EvP.neg64 rfl (by omega) ?_) | refine EvO.on rfl rfl rfl (EvP.max rfl rfl rfl rfl ?_) | refine EvO.on rfl rfl rfl (EvP.min rfl rfl rfl rfl ?_) | refine EvR.plain rfl rfl rfl rfl rfl rfl rfl ?_ | refine EvR.plain rfl rfl rfl rfl rfl rfl (by assumption) ?_ | refine EvR.cons rfl rfl rfl rfl (EvP.add64 rfl rfl (by omega) ?_) | refine EvR.cons rfl rfl rfl rfl (EvP.sub64 rfl rfl (by omega) ?_) | refine EvR.cons rfl rfl rfl rfl (EvP.mul64 rfl rfl (by omega) ?_) | refine EvR.cons rfl rfl rfl rfl (EvP.neg64 rfl (by omega) ?_) | refine EvR.cons rfl rfl rfl rfl (EvP.max rfl rfl rfl rfl ?_) | refine EvR.cons rfl rfl rfl rfl (EvP.min rfl rfl rfl rfl ?_) | refine EvR.off rfl rfl rfl rfl ?_ | refine EvR.plainOn rfl rfl rfl rfl rfl rfl rfl ?_ | refine EvR.plainOn rfl rfl rfl rfl rfl rfl (by assumption) ?_ | refine EvR.on rfl rfl rfl rfl (EvP.add64 rfl rfl (by omega) ?_) | refine EvR.on rfl rfl rfl rfl (EvP.sub64 rfl rfl (by omega) ?_) | refine EvR.on rfl rfl rfl rfl (EvP.mul64 rfl rfl (by omega) ?_) | refine EvR.on rfl rfl rfl rfl (EvP.neg64 rfl (by omega) ?_) | refine EvR.on rfl rfl rfl rfl (EvP.max rfl rfl rfl rfl ?_) | refine EvR.on rfl rfl rfl rfl (EvP.min rfl rfl rfl rfl ?_))
    (first | refine ret_is (v := .bool true) rfl rfl ?_ | refine norm_is (v := .bool true) rfl rfl ?_)
    exact ⟨⟨fun i o e => hle2 _ _ (hle01 _ _ e), hw2⟩, true, rfl, fun _ => hcl, fun _ => rfl⟩
  · repeat (first | refine EvO.plain rfl rfl rfl rfl rfl rfl ?_ | refine EvO.plain rfl rfl rfl rfl rfl (by assumption) ?_ | refine EvC.seq ?_ | refine EvC.region rfl ?_ | refine EvO.nil ?_ | refine at_normal ?_ | refine EvC.skip ?_ | refine EvC.block ?_ | refine EvC.ret ?_ | refine at_ret ?_ | refine be_ret ?_ | refine ro_ret ?_ | refine EvC.exit ?_ | refine at_exit ?_ | refine be_same rfl ?_ | refine be_other rfl ?_ | refine ro_exit ?_ | refine be_normal ?_ | refine EvC.scope ?_ | refine EvC.label ?_ | refine EvR.nil ?_ | refine EvH.nil ?_ | refine jo_normal ?_ | refine jo_ret ?_ | refine jo_exit ?_ | refine ro_normal ?_ | refine EvO.cons rfl rfl rfl (EvP.add64 rfl rfl (by omega) ?_) | refine EvO.cons rfl rfl rfl (EvP.sub64 rfl rfl (by omega) ?_) | refine EvO.cons rfl rfl rfl (EvP.mul64 rfl rfl (by omega) ?_) | refine EvO.cons rfl rfl rfl (EvP.neg64 rfl (by omega) ?_) | refine EvO.cons rfl rfl rfl (EvP.max rfl rfl rfl rfl ?_) | refine EvO.cons rfl rfl rfl (EvP.min rfl rfl rfl rfl ?_) | refine EvO.off rfl rfl rfl ?_ | refine EvO.plainOn rfl rfl rfl rfl rfl rfl ?_ | refine EvO.plainOn rfl rfl rfl rfl rfl (by assumption) ?_ | refine EvO.on rfl rfl rfl (EvP.add64 rfl rfl (by omega) ?_) | refine EvO.on rfl rfl rfl (EvP.sub64 rfl rfl (by omega) ?_) | refine EvO.on rfl rfl rfl (EvP.mul64 rfl rfl (by omega) ?_) | refine EvO.on rfl rfl rfl (EvP.neg64 rfl (by omega) ?_) | refine EvO.on rfl rfl rfl (EvP.max rfl rfl rfl rfl ?_) | refine EvO.on rfl rfl rfl (EvP.min rfl rfl rfl rfl ?_) | refine EvR.plain rfl rfl rfl rfl rfl rfl rfl ?_ | refine EvR.plain rfl rfl rfl rfl rfl rfl (by assumption) ?_ | refine EvR.cons rfl rfl rfl rfl (EvP.add64 rfl rfl (by omega) ?_) | refine EvR.cons rfl rfl rfl rfl (EvP.sub64 rfl rfl (by omega) ?_) | refine EvR.cons rfl rfl rfl rfl (EvP.mul64 rfl rfl (by omega) ?_) | refine EvR.cons rfl rfl rfl rfl (EvP.neg64 rfl (by omega) ?_) | refine EvR.cons rfl rfl rfl rfl (EvP.max rfl rfl rfl rfl ?_) | refine EvR.cons rfl rfl rfl rfl (EvP.min rfl rfl rfl rfl ?_) | refine EvR.off rfl rfl rfl rfl ?_ | refine EvR.plainOn rfl rfl rfl rfl rfl rfl rfl ?_ | refine EvR.plainOn rfl rfl rfl rfl rfl rfl (by assumption) ?_ | refine EvR.on rfl rfl rfl rfl (EvP.add64 rfl rfl (by omega) ?_) | refine EvR.on rfl rfl rfl rfl (EvP.sub64 rfl rfl (by omega) ?_) | refine EvR.on rfl rfl rfl rfl (EvP.mul64 rfl rfl (by omega) ?_) | refine EvR.on rfl rfl rfl rfl (EvP.neg64 rfl (by omega) ?_) | refine EvR.on rfl rfl rfl rfl (EvP.max rfl rfl rfl rfl ?_) | refine EvR.on rfl rfl rfl rfl (EvP.min rfl rfl rfl rfl ?_))
    refine EvO.cons rfl rfl rfl (EvP.quiet (v := .bool true) rfl rfl ?_)
    repeat (first | refine EvO.plain rfl rfl rfl rfl rfl rfl ?_ | refine EvO.plain rfl rfl rfl rfl rfl (by assumption) ?_ | refine EvC.seq ?_ | refine EvC.region rfl ?_ | refine EvO.nil ?_ | refine at_normal ?_ | refine EvC.skip ?_ | refine EvC.block ?_ | refine EvC.ret ?_ | refine at_ret ?_ | refine be_ret ?_ | refine ro_ret ?_ | refine EvC.exit ?_ | refine at_exit ?_ | refine be_same rfl ?_ | refine be_other rfl ?_ | refine ro_exit ?_ | refine be_normal ?_ | refine EvC.scope ?_ | refine EvC.label ?_ | refine EvR.nil ?_ | refine EvH.nil ?_ | refine jo_normal ?_ | refine jo_ret ?_ | refine jo_exit ?_ | refine ro_normal ?_ | refine EvO.cons rfl rfl rfl (EvP.add64 rfl rfl (by omega) ?_) | refine EvO.cons rfl rfl rfl (EvP.sub64 rfl rfl (by omega) ?_) | refine EvO.cons rfl rfl rfl (EvP.mul64 rfl rfl (by omega) ?_) | refine EvO.cons rfl rfl rfl (EvP.neg64 rfl (by omega) ?_) | refine EvO.cons rfl rfl rfl (EvP.max rfl rfl rfl rfl ?_) | refine EvO.cons rfl rfl rfl (EvP.min rfl rfl rfl rfl ?_) | refine EvO.off rfl rfl rfl ?_ | refine EvO.plainOn rfl rfl rfl rfl rfl rfl ?_ | refine EvO.plainOn rfl rfl rfl rfl rfl (by assumption) ?_ | refine EvO.on rfl rfl rfl (EvP.add64 rfl rfl (by omega) ?_) | refine EvO.on rfl rfl rfl (EvP.sub64 rfl rfl (by omega) ?_) | refine EvO.on rfl rfl rfl (EvP.mul64 rfl rfl (by omega) ?_) | refine EvO.on rfl rfl rfl (EvP.neg64 rfl (by omega) ?_) | refine EvO.on rfl rfl rfl (EvP.max rfl rfl rfl rfl ?_) | refine EvO.on rfl rfl rfl (EvP.min rfl rfl rfl rfl ?_) | refine EvR.plain rfl rfl rfl rfl rfl rfl rfl ?_ | refine EvR.plain rfl rfl rfl rfl rfl rfl (by assumption) ?_ | refine EvR.cons rfl rfl rfl rfl (EvP.add64 rfl rfl (by omega) ?_) | refine EvR.cons rfl rfl rfl rfl (EvP.sub64 rfl rfl (by omega) ?_) | refine EvR.cons rfl rfl rfl rfl (EvP.mul64 rfl rfl (by omega) ?_) | refine EvR.cons rfl rfl rfl rfl (EvP.neg64 rfl (by omega) ?_) | refine EvR.cons rfl rfl rfl rfl (EvP.max rfl rfl rfl rfl ?_) | refine EvR.cons rfl rfl rfl rfl (EvP.min rfl rfl rfl rfl ?_) | refine EvR.off rfl rfl rfl rfl ?_ | refine EvR.plainOn rfl rfl rfl rfl rfl rfl rfl ?_ | refine EvR.plainOn rfl rfl rfl rfl rfl rfl (by assumption) ?_ | refine EvR.on rfl rfl rfl rfl (EvP.add64 rfl rfl (by omega) ?_) | refine EvR.on rfl rfl rfl rfl (EvP.sub64 rfl rfl (by omega) ?_) | refine EvR.on rfl rfl rfl rfl (EvP.mul64 rfl rfl (by omega) ?_) | refine EvR.on rfl rfl rfl rfl (EvP.neg64 rfl (by omega) ?_) | refine EvR.on rfl rfl rfl rfl (EvP.max rfl rfl rfl rfl ?_) | refine EvR.on rfl rfl rfl rfl (EvP.min rfl rfl rfl rfl ?_))
    (first | refine ret_is (v := .bool false) rfl rfl ?_ | refine norm_is (v := .bool false) rfl rfl ?_)
    exact ⟨⟨fun i o e => hle2 _ _ (hle01 _ _ e), hw2⟩, false, rfl, fun e => (nomatch e), fun hcl => absurd hcl (no_clash' (tr_cons V) ht hs)⟩
end Sa
end Pf
end Go.Proofs.YtheiionmocfleaaDoor
/- Whether bools are a model in which literals hold: the law's own question. -/
namespace Go.Proofs.YtheiionmocfleaaDoor
namespace Pf
namespace Sa
open Go Go.AI Go.Proofs
variable {gt : Tree (List AV)}
set_option maxHeartbeats 4000000 in
theorem lawHolds_spec {h : AH} (hw : WF h) {n : Nat} {cl : AV} {L : List (List Int)} {cv : Nat → AV} (C : CnfAt h n cl L cv) {tv : AV} {ls : List Int} (rt : IntRow h tv ls) {mv : AV} {M : List Bool} (hM : BoolRow h mv M) (nm : NZ mv) (hv : valid n L) (hok : ∀ x ∈ ls, ok n x) (hll : ls.length ≤ 2 ^ 50) :
    EvF (TT gt) X 20 [.agg [.int .i64 n, cl], tv, mv] h (fun r h' => (h.le h' ∧ WF h') ∧ ∃ q, r = .bool q ∧ (q = true → ∃ B : List Bool, B.length = n ∧ allB L B ∧ ∀ x ∈ ls, holdsB B x = true)) := by
  have S0 := HS.all hw
  have hN := hv.2.1
  refine EvF.enter rfl rfl rfl ?_
  repeat (first | refine EvC.seq ?_ | refine EvC.region rfl ?_)
  (refine EvO.cons rfl rfl rfl (EvP.newR (b := .cells [.int .i64 n, cl] 24 false) (mk := .ptr) S0 rfl rfl (fun h1 b A1 S1 hle1 o1 _ _ => ?_)))
  have f1 := load1 (T := TT gt) (t := 3) (off := 0) o1 rfl rfl rfl
  have hle01 : h.le h1 := fun i o e => S1.le _ _ (hle1 _ _ e)
  repeat (first | refine EvO.plain rfl rfl rfl rfl rfl rfl ?_ | refine EvO.plain rfl rfl rfl rfl rfl (by assumption) ?_ | refine EvC.seq ?_ | refine EvC.region rfl ?_ | refine EvO.nil ?_ | refine at_normal ?_)
  (refine EvO.cons rfl rfl rfl (EvP.newC S1 1 rfl (make_vec (T := TT gt) (n := n) (t := 33) rfl rfl rfl (by omega) (by show ((n : Nat) : Int) * (1 : Nat) ≤ ((70368744177664 : Nat) : Int); omega)) (by decide) (fun h5 id col5 A5 S5 g5 c5 _ => ?_)))
  have V5 : Vec col5 1 h5 4 1 (.slice id 0 n n true) n (List.replicate n (.bool false)) := .mk (tail := []) (by rw [List.append_nil, ← rep_one]; exact g5) c5 (by simp) (fun _ => ⟨Nat.le_refl _, by simp⟩)
  repeat (first | refine EvO.plain rfl rfl rfl rfl rfl rfl ?_ | refine EvC.seq ?_ | refine EvC.region rfl ?_ | refine EvO.nil ?_ | refine at_normal ?_)
  (refine EvO.cons rfl rfl rfl (EvP.copyC S5 V5 (by decide) (hM.mono (fun i o e => S5.le _ _ (hle1 _ _ e))) nm (fun _ _ => rfl) rfl rfl rfl rfl rfl rfl rfl rfl (fun h6 A6 S6 V6 => ?_)))
  rw [bools_cells] at V6
  have hBl : (M.take n ++ List.replicate (n - M.length) false).length = n := by simp; omega
  generalize M.take n ++ List.replicate (n - M.length) false = B at *
  have hBrow : BoolRow h6 (.slice id 0 n n true) B := bool_row (by rw [hBl]; exact V6)
  have hle6 : h.le h6 := fun i o e => S6.le _ _ (hle1 _ _ e)
  have o6 := S6.le _ _ (AH.get_add h b (.cells [.int .i64 n, cl] 24 false))
  have ln := RowOf.len_any (T := TT gt) (t := 25) rt rfl h6
  clear f1
  repeat (first | refine EvO.plain rfl rfl rfl rfl rfl rfl ?_ | refine EvO.plain rfl rfl rfl rfl rfl (by assumption) ?_ | refine EvC.seq ?_ | refine EvC.region rfl ?_ | refine EvO.nil ?_ | refine at_normal ?_ | refine EvC.block ?_)
  clear ln
  generalize hbv : AV.slice id 0 n n true = bv at *
  refine EvC.loop (fun m σ h' => h' = h6 ∧ ∃ (i : Nat) (E : Nat → AV), i ≤ ls.length ∧ (∀ j, j < i → holdsB B (ls.getD j 0) = true) ∧ m = ls.length - i ∧ σ = upds [(3, .ptr b 0), (7, bv), (16, tv), (17, .int .i64 ls.length), (18, .int .i64 i)] E) (ls.length) ?_ ?_
  · exact ⟨rfl, 0, _, Nat.zero_le _, fun j hj => absurd hj (Nat.not_lt_zero _), rfl, hold ⟨rfl, hbv, rfl, rfl, rfl, trivial⟩⟩
  · rintro m _ h6 ⟨rfl, i, E, hi, hin, rfl, rfl⟩
    repeat (first | refine EvO.plain rfl rfl rfl rfl rfl rfl ?_ | refine EvC.seq ?_ | refine EvC.region rfl ?_ | refine EvO.nil ?_ | refine at_normal ?_)
    refine EvC.decide rfl (fun hlt => ?_) (fun hlt => ?_)
    · have hlt : i < ls.length := by omega
      have hOB := (RowOf.mono hle6 rt).at1 (T := TT gt) (t := 25) (e := 3) rfl rfl rfl rfl (k := .i64) (i := i) (by omega) (by omega)
      obtain ⟨qa, b1, b2⟩ := hOB
      rw [Int.toNat_natCast] at b2
      have hx := hok _ (getD_mem hlt)
      generalize hlj : ls.getD i 0 = x at *
      have ha := absI_ok hx
      have hx2 := hx.2
      have hOB := hBrow.at1 (T := TT gt) (t := 33) (e := 4) rfl rfl rfl rfl (k := .i64) (i := absI x - 1) (by omega) (by omega)
      obtain ⟨qb, d1, d2⟩ := hOB
      repeat (first | refine EvO.plain rfl rfl rfl rfl rfl rfl ?_ | refine EvO.plain rfl rfl rfl rfl rfl (by assumption) ?_ | refine EvC.seq ?_ | refine EvC.region rfl ?_ | refine EvO.nil ?_ | refine at_normal ?_ | refine EvC.skip ?_ | refine EvC.block ?_)
      (refine EvO.cons rfl rfl rfl (EvP.callF rfl rfl rfl rfl (EvF.mono (var_spec (facts gt) x (by omega)) ?_)))
      rintro _ h6 _ ⟨rfl, rfl⟩
      repeat (first | refine EvO.plain rfl rfl rfl rfl rfl rfl ?_ | refine EvO.plain rfl rfl rfl rfl rfl (by assumption) ?_ | refine EvO.nil ?_ | refine at_normal ?_ | refine EvO.cons rfl rfl rfl (EvP.sub64 rfl rfl (by omega) ?_))
      clear b1 b2 d1 d2
      have hhb : holdsB B x = (B.getD (absI x - 1).toNat false == decide (x > 0)) := rfl
      generalize B.getD (absI x - 1).toNat false = y1 at *
      generalize decide (x > 0) = y2 at *
      by_cases hy : y1 = y2
      · subst hy
        refine EvC.cond (t := false) (isT (p := (y1 != y1)) (by simp)) (fun e => nomatch e) (fun _ => ?_)
        repeat (first | refine EvO.plain rfl rfl rfl rfl rfl rfl ?_ | refine EvC.region rfl ?_ | refine EvO.nil ?_ | refine at_normal ?_ | refine EvC.skip ?_ | refine be_normal ?_ | refine ro_normal ?_ | refine EvO.cons rfl rfl rfl (EvP.add64 rfl rfl (by omega) ?_))
        refine ⟨ls.length - (i + 1), by omega, rfl, i + 1, _, by omega, fun j hj => ?_, rfl, hold ⟨rfl, rfl, rfl, rfl, rfl, trivial⟩⟩
        have hOB := Nat.lt_or_ge j i
        rcases hOB with h3 | h3
        · exact hin j h3
        · have hOB : j = i := by omega
          obtain rfl := hOB
          rw [hlj, hhb, beq_self_eq_true]
      · refine EvC.cond (t := true) (isT (p := (y1 != y2)) (by simp [hy])) (fun _ => ?_) (fun e => nomatch e)
        repeat (first | refine EvO.plain rfl rfl rfl rfl rfl rfl ?_ | refine EvC.seq ?_ | refine EvC.region rfl ?_ | refine EvO.nil ?_ | refine at_normal ?_ | refine EvC.ret ?_ | refine at_ret ?_ | refine be_ret ?_ | refine ro_ret ?_)
        (refine ret_is (v := .bool false) rfl rfl ?_)
        exact ⟨⟨hle6, S6.wf⟩, false, rfl, fun e => nomatch e⟩
    · have hend : i = ls.length := by omega
      subst hend
      have hall : ∀ x ∈ ls, holdsB B x = true := fun x hx => by
        have hOB := List.getElem_of_mem hx
        obtain ⟨j, hj, rfl⟩ := hOB
        have := hin j hj
        rwa [List.getD_eq_getElem?_getD, List.getElem?_eq_getElem hj, Option.getD_some] at this
      have f8 := load1 (T := TT gt) (t := 22) (off := 1) o6 rfl rfl rfl
      repeat (first | refine EvO.plain rfl rfl rfl rfl rfl rfl ?_ | refine EvO.plain rfl rfl rfl rfl rfl (by assumption) ?_ | refine EvC.seq ?_ | refine EvC.region rfl ?_ | refine at_normal ?_ | refine EvC.exit ?_ | refine at_exit ?_ | refine be_same rfl ?_ | refine ro_exit ?_)
      (refine EvO.cons rfl rfl rfl (EvP.callF rfl rfl rfl rfl (EvF.mono (refAll_spec (facts gt) (C.mono hle6) hBrow (by omega) (fun i hi x hx => by rw [hBl]; exact hv.2.2.2.2 i hi x hx)) ?_)))
      rintro _ h6 _ ⟨rfl, rfl⟩
      repeat (first | refine EvO.plain rfl rfl rfl rfl rfl rfl ?_ | refine EvO.nil ?_ | refine at_normal ?_ | refine EvC.ret ?_)
      (refine ret_is (v := .bool (decide (allB L B))) rfl rfl ?_)
      exact ⟨⟨hle6, S6.wf⟩, _, rfl, fun e => ⟨B, hBl, of_decide_eq_true e, hall⟩⟩
end Sa
end Pf
end Go.Proofs.YtheiionmocfleaaDoor
