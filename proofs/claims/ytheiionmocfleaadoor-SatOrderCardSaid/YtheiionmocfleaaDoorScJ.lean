/- The law SatOrder answers true. -/
import Derived.Test.YtheiionmocfleaaDoorScD
import Derived.Test.YtheiionmocfleaaDoorScF
/- Renaming variables, turning signs, turning clauses and literals around: models stay. -/
namespace Go.Proofs.YtheiionmocfleaaDoor
namespace Pf
namespace Sa
open Go Go.AI Go.Proofs
theorem rot_at {m u r : Nat} (hu : u < m) : (u + r) % m = if u + r % m < m then u + r % m else u + r % m - m := by
  have hr : r % m < m := Nat.mod_lt _ (by omega)
  have h1 : (u + r) % m = (u + r % m) % m := by rw [Nat.add_mod, Nat.mod_eq_of_lt hu, ← Nat.add_mod_mod, Nat.mod_eq_of_lt hr]
  rw [h1]
  split
  · exact Nat.mod_eq_of_lt (by assumption)
  · rw [Nat.mod_eq_sub_mod (by omega), Nat.mod_eq_of_lt (by omega)]
theorem rot_surj {m j : Nat} (r : Nat) (hj : j < m) : ∃ u, u < m ∧ (u + r) % m = j := by
  have hr : r % m < m := Nat.mod_lt _ (by omega)
  have hOB := Nat.lt_or_ge j (r % m)
  rcases hOB with h | h
  · exact ⟨j + m - r % m, by omega, by rw [rot_at (by omega), if_neg (by omega)]; omega⟩
  · exact ⟨j - r % m, by omega, by rw [rot_at (by omega), if_pos (by omega)]; omega⟩
theorem rot_inj {m u v r : Nat} (hu : u < m) (hv : v < m) (e : (u + r) % m = (v + r) % m) : u = v := by
  have hr : r % m < m := Nat.mod_lt _ (by omega)
  rw [rot_at hu, rot_at hv] at e
  split at e <;> split at e <;> omega
theorem sum_shift (g : Nat → Nat) : ∀ m, ((List.range m).map fun i => g (i + 1)).sum + g 0 = ((List.range m).map g).sum + g m
  | 0 => by simp
  | m + 1 => by
    have := sum_shift g m
    rw [List.range_succ, List.map_append, List.map_append, List.sum_append, List.sum_append]
    simp only [List.map_cons, List.map_nil, List.sum_cons, List.sum_nil]
    omega
theorem sum_rot (f : Nat → Nat) (m : Nat) : ∀ t, ((List.range m).map fun i => f ((i + t) % m)).sum = ((List.range m).map fun i => f (i % m)).sum
  | 0 => rfl
  | t + 1 => by
    have h1 := sum_shift (fun i => f ((i + t) % m)) m
    have h2 := sum_rot f m t
    have h3 : (m + t) % m = t % m := Nat.add_mod_left m t
    simp only [Nat.zero_add, h3] at h1
    have h4 : (fun i => f ((i + (t + 1)) % m)) = fun i => f ((i + 1 + t) % m) := by funext i; congr 2; omega
    rw [h4]; omega
/-- The literal as which one is renamed. -/
def rsgn (t : Nat) (v : Nat) : Bool := t / 2 ^ (v % 8) % 2 == 1
def ren (n t : Nat) (x : Int) : Int := if (decide (x > 0) == rsgn t x.natAbs) = true then -(((x.natAbs + t) % n + 1 : Nat) : Int) else (((x.natAbs + t) % n + 1 : Nat) : Int)
theorem ren_ok {n t : Nat} {x : Int} (hx : ok n x) : ok n (ren n t x) := by
  obtain ⟨h0, h1, h2⟩ := hx
  have hn : (x.natAbs + t) % n < n := Nat.mod_lt _ (by omega)
  unfold ren
  split <;> exact ⟨by omega, by omega, by omega⟩
theorem ren_abs {n t : Nat} {x : Int} : (absI (ren n t x) - 1).toNat = (x.natAbs + t) % n := by
  unfold ren absI
  split <;> split <;> omega
theorem ren_sign {n t : Nat} {x : Int} : decide (ren n t x > 0) = (decide (x > 0) != rsgn t x.natAbs) := by
  unfold ren
  generalize (x.natAbs + t) % n = w
  cases decide (x > 0) <;> cases rsgn t x.natAbs <;> simp <;> omega
theorem holdsB_nat {m : List Bool} {x : Int} : holdsB m x = (m.getD (x.natAbs - 1) false == decide (x > 0)) := by
  have : (absI x - 1).toNat = x.natAbs - 1 := by unfold absI; split <;> omega
  unfold holdsB; rw [this]
/-- The bools for the old variables, out of those for the new ones, and the other way round. -/
def oldB (n t : Nat) (B : List Bool) : List Bool := (List.range n).map fun v => B.getD ((v + 1 + t) % n) false != rsgn t (v + 1)
theorem oldB_len (n t : Nat) (B : List Bool) : (oldB n t B).length = n := by simp [oldB]
theorem oldB_at {n t v : Nat} {B : List Bool} (hv : v < n) : (oldB n t B).getD v false = (B.getD ((v + 1 + t) % n) false != rsgn t (v + 1)) := by
  unfold oldB
  rw [List.getD_eq_getElem?_getD, List.getElem?_map, List.getElem?_range hv]; rfl
theorem oldB_holds {n t : Nat} {B : List Bool} {x : Int} (hx : ok n x) : holdsB (oldB n t B) x = holdsB B (ren n t x) := by
  obtain ⟨h0, h1, h2⟩ := hx
  have hlt : x.natAbs - 1 < n := by omega
  have e : x.natAbs - 1 + 1 = x.natAbs := by omega
  rw [holdsB_nat]
  unfold holdsB
  rw [ren_abs, ren_sign]
  unfold oldB
  rw [List.getD_eq_getElem?_getD, List.getElem?_map, List.getElem?_range hlt]
  simp only [Option.map_some, Option.getD_some, e]
  cases B.getD ((x.natAbs + t) % n) false <;> cases rsgn t x.natAbs <;> cases decide (x > 0) <;> rfl
theorem eq_of_getD {A C : List Bool} (hl : A.length = C.length) (h : ∀ v, v < A.length → A.getD v false = C.getD v false) : A = C := by
  apply List.ext_getElem hl
  intro v h1 h2
  have := h v h1
  rw [List.getD_eq_getElem?_getD, List.getElem?_eq_getElem h1, List.getD_eq_getElem?_getD, List.getElem?_eq_getElem h2] at this
  exact this
theorem newB {n t : Nat} {A : List Bool} (hA : A.length = n) : ∃ B : List Bool, B.length = n ∧ oldB n t B = A := by
  have hs : ∀ w, w < n → ∃ v, v < n ∧ (v + (1 + t)) % n = w := fun w hw => rot_surj (1 + t) hw
  refine ⟨(List.range n).map fun w => if hw : w < n then A.getD (Classical.choose (hs w hw)) false != rsgn t (Classical.choose (hs w hw) + 1) else false, by simp, ?_⟩
  refine eq_of_getD (by rw [oldB_len, hA]) fun v h1 => ?_
  rw [oldB_len] at h1
  have hw : (v + 1 + t) % n < n := Nat.mod_lt _ (by omega)
  have hch := Classical.choose_spec (hs _ hw)
  have hv : Classical.choose (hs _ hw) = v := rot_inj hch.1 h1 (by rw [hch.2]; congr 1; omega)
  rw [oldB_at h1, List.getD_eq_getElem?_getD (i := (v + 1 + t) % n), List.getElem?_map, List.getElem?_range hw]
  simp only [Option.map_some, Option.getD_some, dif_pos hw, hv]
  cases A.getD v false <;> cases rsgn t (v + 1) <;> rfl
/-- A clause turned around, its literals renamed. -/
def turnC (n t1 t2 : Nat) (l : List Int) : List Int := (List.range l.length).map fun k => ren n t2 (l.getD ((l.length - 1 - k + t1 % l.length) % l.length) 0)
def turnL (n t0 t1 t2 : Nat) (L : List (List Int)) : List (List Int) := (List.range L.length).map fun i => turnC n t1 t2 (L.getD ((i + t0) % L.length) [])
theorem turnC_len (n t1 t2 : Nat) (l : List Int) : (turnC n t1 t2 l).length = l.length := by simp [turnC]
theorem turnL_len (n t0 t1 t2 : Nat) (L : List (List Int)) : (turnL n t0 t1 t2 L).length = L.length := by simp [turnL]
theorem turnL_at (n t0 t1 t2 : Nat) {L : List (List Int)} {i : Nat} (hi : i < L.length) : (turnL n t0 t1 t2 L).getD i [] = turnC n t1 t2 (L.getD ((i + t0) % L.length) []) := by
  unfold turnL
  rw [List.getD_eq_getElem?_getD, List.getElem?_map, List.getElem?_range hi]; rfl
theorem turnC_mem {n t1 t2 : Nat} {l : List Int} {y : Int} : y ∈ turnC n t1 t2 l ↔ ∃ x ∈ l, y = ren n t2 x := by
  unfold turnC
  rw [List.mem_map]
  constructor
  · rintro ⟨k, hk, rfl⟩
    have hk := List.mem_range.1 hk
    exact ⟨_, getD_mem (Nat.mod_lt _ (by omega)), rfl⟩
  · rintro ⟨x, hx, rfl⟩
    have hOB := List.getElem_of_mem hx
    obtain ⟨j, hj, rfl⟩ := hOB
    have hOB := rot_surj (t1 % l.length) hj
    obtain ⟨u, hu, he⟩ := hOB
    refine ⟨l.length - 1 - u, List.mem_range.2 (by omega), ?_⟩
    rw [show l.length - 1 - (l.length - 1 - u) = u by omega, he, List.getD_eq_getElem?_getD, List.getElem?_eq_getElem hj]; rfl
theorem turnL_total (n t0 t1 t2 : Nat) (L : List (List Int)) : total (turnL n t0 t1 t2 L) = total L := by
  unfold total turnL
  rw [List.map_map]
  have h1 : (List.length ∘ fun i => turnC n t1 t2 (L.getD ((i + t0) % L.length) [])) = fun i => (fun j => (L.getD j []).length) ((i + t0) % L.length) := by
    funext i; exact turnC_len ..
  rw [h1, sum_rot (fun j => (L.getD j []).length)]
  congr 1
  apply List.ext_getElem (by simp)
  intro i h2 h3
  have h4 : i < L.length := by simpa using h2
  simp only [List.getElem_map, List.getElem_range, Nat.mod_eq_of_lt h4, List.getD_eq_getElem?_getD, List.getElem?_eq_getElem h4, Option.getD_some]
theorem turnL_valid {n t0 t1 t2 : Nat} {L : List (List Int)} (hv : valid n L) : valid n (turnL n t0 t1 t2 L) := by
  refine ⟨hv.1, hv.2.1, by rw [turnL_len]; exact hv.2.2.1, by rw [turnL_total]; exact hv.2.2.2.1, fun i hi x hx => ?_⟩
  rw [turnL_len] at hi
  rw [turnL_at _ _ _ _ hi] at hx
  have hOB := turnC_mem.1 hx
  obtain ⟨y, hy, rfl⟩ := hOB
  exact ren_ok (hv.2.2.2.2 _ (Nat.mod_lt _ (by omega)) y hy)
/-- Of a set that is turned around the models are those of the set, renamed. -/
theorem turnL_models {n t0 t1 t2 : Nat} {L : List (List Int)} (hv : valid n L) (B : List Bool) : allB (turnL n t0 t1 t2 L) B ↔ allB L (oldB n t2 B) := by
  constructor
  · intro h j hj
    have hOB := rot_surj t0 hj
    obtain ⟨i, hi, he⟩ := hOB
    have h1 := h i (by rw [turnL_len]; exact hi)
    rw [turnL_at _ _ _ _ hi, he] at h1
    have hOB := List.any_eq_true.1 h1
    obtain ⟨y, hy, hh⟩ := hOB
    have hOB := turnC_mem.1 hy
    obtain ⟨x, hx, rfl⟩ := hOB
    exact List.any_eq_true.2 ⟨x, hx, by rw [oldB_holds (hv.2.2.2.2 j hj x hx)]; exact hh⟩
  · intro h i hi
    rw [turnL_len] at hi
    have hj : (i + t0) % L.length < L.length := Nat.mod_lt _ (by omega)
    have h1 := h _ hj
    rw [turnL_at _ _ _ _ hi]
    have hOB := List.any_eq_true.1 h1
    obtain ⟨x, hx, hh⟩ := hOB
    exact List.any_eq_true.2 ⟨_, turnC_mem.2 ⟨x, hx, rfl⟩, by rw [← oldB_holds (hv.2.2.2.2 _ hj x hx)]; exact hh⟩
theorem turnL_some {n t0 t1 t2 : Nat} {L : List (List Int)} (hv : valid n L) : (∃ B : List Bool, B.length = n ∧ allB (turnL n t0 t1 t2 L) B) ↔ ∃ B : List Bool, B.length = n ∧ allB L B := by
  constructor
  · rintro ⟨B, _, h⟩
    exact ⟨_, oldB_len n t2 B, (turnL_models hv B).1 h⟩
  · rintro ⟨A, hA, h⟩
    have hOB := newB (t := t2) hA
    obtain ⟨B, hB, rfl⟩ := hOB
    exact ⟨B, hB, (turnL_models hv B).2 h⟩
end Sa
end Pf
end Go.Proofs.YtheiionmocfleaaDoor
/- The law SatOrder. -/
namespace Go.Proofs.YtheiionmocfleaaDoor
namespace Pf
namespace Sa
open Go Go.AI Go.Proofs
variable {gt : Tree (List AV)}
theorem rem64n {x y : Int} {a b j : Nat} (hx : x = a) (hy : y = b) (hb : 0 < b) (hj : a % b = j) : abin .rem .i64 x y = some (.int .i64 (j : Int)) := by
  subst hx; subst hy; subst hj
  unfold abin
  simp only
  rw [if_neg (by omega)]
  rfl
theorem add64v {a b r : Int} (hr : a + b = r) (h : -9223372036854775808 ≤ r ∧ r ≤ 9223372036854775807) : some (AV.int .i64 (IntKind.i64.wrap (a + b))) = some (.int .i64 r) := by
  subst hr; rw [IntWalk.i64_in _ h]
theorem wide8 {a : Nat} (h : a < 256) : some (AV.int .i64 (IntKind.i64.wrap (a : Int))) = some (.int .i64 (a : Int)) := by
  rw [IntWalk.i64_in _ (by omega)]
theorem absI_abs (x : Int) : absI x = (x.natAbs : Int) := by unfold absI; split <;> omega
/-- Whether there is a model, as Solve answers of few variables. -/
theorem says_few {h : AH} {n : Nat} {L : List (List Int)} {r : AV} (hv : valid n L) (hn : n ≤ 12) (h : SolveSays h n L r) : ∃ s m p, r = .tuple [.bool s, m, p, .int .i64 0] ∧ (s = true ↔ ∃ B : List Bool, B.length = n ∧ allB L B) := by
  rcases h with ⟨mv, m, rfl, _, hl, hA⟩ | ⟨_, h12, _⟩ | ⟨pv, P, rfl, _, hR⟩
  · exact ⟨_, _, _, rfl, fun _ => ⟨m, hl, hA⟩, fun _ => rfl⟩
  · omega
  · have hOB := says_rup (valid_oks hv) hR
    obtain ⟨_, hno⟩ := hOB
    exact ⟨_, _, _, rfl, fun e => (nomatch e), fun ⟨B, hB, hA⟩ => absurd hA (hno B hB)⟩
theorem len_total {L : List (List Int)} {j : Nat} (hj : j < L.length) : (L.getD j []).length ≤ total L := by
  have h1 := total_take hj
  have h2 := total_le L (j + 1)
  omega
theorem mem_total {L : List (List Int)} {l : List Int} (h : l ∈ L) : l.length ≤ total L := by
  have hOB := List.getElem_of_mem h
  obtain ⟨i, hi, rfl⟩ := hOB
  have := len_total hi
  rwa [List.getD_eq_getElem?_getD, List.getElem?_eq_getElem hi] at this
theorem var_abs_spec {h : AH} (x : Int) (hx : -1000000 ≤ x ∧ x ≤ 1000000) : EvF (TT gt) X 26 [.int .i64 x] h (fun r h' => h' = h ∧ r = .int .i64 (x.natAbs : Int)) :=
  EvF.mono (var_spec (facts gt) x hx) (by rintro _ _ _ ⟨rfl, rfl⟩; exact ⟨rfl, by rw [absI_abs]⟩)
theorem take_snoc {l : List Int} {k : Nat} (h : k < l.length) : l.take (k + 1) = l.take k ++ [l.getD k 0] := by
  rw [List.take_add_one, List.getElem?_eq_getElem h, List.getD_eq_getElem?_getD, List.getElem?_eq_getElem h]; rfl
theorem takeL_snoc {l : List (List Int)} {k : Nat} (h : k < l.length) : l.take (k + 1) = l.take k ++ [l.getD k []] := by
  rw [List.take_add_one, List.getElem?_eq_getElem h, List.getD_eq_getElem?_getD, List.getElem?_eq_getElem h]; rfl
theorem turnC_at (n t1 t2 : Nat) {l : List Int} {k : Nat} (hk : k < l.length) : (turnC n t1 t2 l).getD k 0 = ren n t2 (l.getD ((l.length - 1 - k + t1 % l.length) % l.length) 0) := by
  unfold turnC
  rw [List.getD_eq_getElem?_getD, List.getElem?_map, List.getElem?_range hk]; rfl
-- a literal more
-- the law's other way out
set_option maxHeartbeats 8000000 in
theorem law_order {h : AH} (hw : WF h) {vars : Int} {cl : AV} {L : List (List Int)} {cv : Nat → AV} (C : CnfAt h vars cl L cv) {a0 a1 a2 : Nat} (ha0 : a0 < 256) (ha1 : a1 < 256) (ha2 : a2 < 256) :
    EvF (TT gt) X 7 [.agg [.int .i64 vars, cl], .agg [.int .u8 (a0 : Int), .int .u8 (a1 : Int), .int .u8 (a2 : Int)]] h (fun r _ => r = .bool true) := by
  have S0 := HS.all hw
  refine EvF.enter rfl rfl rfl ?_
  repeat (first | refine EvC.seq ?_ | refine EvC.region rfl ?_)
  (refine EvO.cons rfl rfl rfl (EvP.newR (b := .cells [.int .i64 vars, cl] 24 false) (mk := .ptr) S0 rfl rfl (fun h1 b A1 S1 hle1 o1 _ _ => ?_)))
  skip
  (refine EvO.cons rfl rfl rfl (EvP.newR (b := .cells [.int .u8 (a0 : Int), .int .u8 (a1 : Int), .int .u8 (a2 : Int)] 48 false) (mk := .ptr) S1 rfl rfl (fun h2 b3 A2 S2 hle2 o3 _ _ => ?_)))
  have hle02 : h.le h2 := fun i o e => S2.le _ _ (hle2 _ _ (hle1 _ _ e))
  have o2 : h2.t.get b = some (.cells [.int .i64 vars, cl] 24 false) := S2.le _ _ (hle2 _ _ (AH.get_add h b _))
  have f1 := loadAgg (T := TT gt) (t := 24) (off := 0) (n := 2) (r := [.int .i64 vars, cl]) o2 rfl rfl
  repeat (first | refine EvO.plain rfl rfl rfl rfl rfl rfl ?_ | refine EvO.plain rfl rfl rfl rfl rfl (by assumption) ?_ | refine EvC.seq ?_ | refine EvC.region rfl ?_ | refine EvO.nil ?_ | refine at_normal ?_)
  (refine EvO.cons rfl rfl rfl (EvP.callF rfl rfl rfl rfl (EvF.mono (few_spec (facts gt) S2.wf (C.mono hle02)) ?_)))
  rintro _ h3 _ ⟨hg3, q, rfl⟩
  have hle03 : h.le h3 := fun i o e => hg3.le _ _ (hle02 _ _ e)
  have f2 := loadAgg (T := TT gt) (t := 24) (off := 0) (n := 2) (r := [.int .i64 vars, cl]) (hg3.le _ _ o2) rfl rfl
  clear f1
  cases q with
  | false =>
    repeat (first | refine EvO.plain rfl rfl rfl rfl rfl rfl ?_ | refine EvO.nil ?_ | refine at_normal ?_ | refine EvO.off rfl rfl rfl ?_)
    refine EvC.cond (t := true) rfl (fun _ => ?_) (fun e => nomatch e)
    repeat (first | refine EvC.seq ?_ | refine EvC.region rfl ?_)
    (refine EvO.cons rfl rfl rfl (EvP.callF rfl rfl rfl rfl (EvF.mono (awake_spec (facts gt)) ?_)))
    rintro _ h99 _ ⟨rfl, rfl⟩
    repeat (first | refine EvO.plain rfl rfl rfl rfl rfl rfl ?_ | refine EvO.nil ?_ | refine at_normal ?_ | refine EvC.ret ?_ | refine at_ret ?_)
    (refine ret_is (v := .bool true) rfl rfl ?_)
    rfl
  | true =>
    repeat (first | refine EvO.plain rfl rfl rfl rfl rfl rfl ?_ | refine EvO.plainOn rfl rfl rfl rfl rfl (by assumption) ?_)
    refine EvO.on rfl rfl rfl (EvP.callF rfl rfl rfl rfl (EvF.mono (refValid_spec (facts gt) hg3.wf (C.mono hle03)) ?_))
    rintro _ h4 _ ⟨hg4, rfl⟩
    have hle34 : h2.le h4 := fun i o e => hg4.le _ _ (hg3.le _ _ e)
    have hle04 : h.le h4 := fun i o e => hle34 _ _ (hle02 _ _ e)
    have p2 := hle34 _ _ o2
    have p3 := hle34 _ _ o3
    clear f2
    by_cases hv : valid vars L
    · rw [decide_eq_true hv]
      have f3 := load1 (T := TT gt) (t := 3) (off := 0) p2 rfl rfl rfl
      repeat (first | refine EvO.plain rfl rfl rfl rfl rfl rfl ?_ | refine EvO.plainOn rfl rfl rfl rfl rfl rfl ?_ | refine EvO.plainOn rfl rfl rfl rfl rfl (by assumption) ?_)
      by_cases h12 : vars > 12
      · refine EvO.on rfl rfl rfl (EvP.quiet (v := .bool true) rfl (isB (decide_eq_true h12)) ?_)
        repeat (first | refine EvO.plain rfl rfl rfl rfl rfl rfl ?_ | refine EvO.nil ?_ | refine at_normal ?_)
        refine EvC.cond (t := true) rfl (fun _ => ?_) (fun e => nomatch e)
        repeat (first | refine EvC.seq ?_ | refine EvC.region rfl ?_)
        (refine EvO.cons rfl rfl rfl (EvP.callF rfl rfl rfl rfl (EvF.mono (awake_spec (facts gt)) ?_)))
        rintro _ h99 _ ⟨rfl, rfl⟩
        repeat (first | refine EvO.plain rfl rfl rfl rfl rfl rfl ?_ | refine EvO.nil ?_ | refine at_normal ?_ | refine EvC.ret ?_ | refine at_ret ?_)
        (refine ret_is (v := .bool true) rfl rfl ?_)
        rfl
      · refine EvO.on rfl rfl rfl (EvP.quiet (v := .bool false) rfl (isB (decide_eq_false h12)) ?_)
        have hOB : ∃ n : Nat, vars = n := ⟨vars.toNat, by have := hv.1; omega⟩
        obtain ⟨n, rfl⟩ := hOB
        have S4 := HS.all hg4.wf
        have Lmany := hv.2.2.1
        have Ltot := hv.2.2.2.1
        repeat (first | refine EvO.plain rfl rfl rfl rfl rfl rfl ?_ | refine EvO.nil ?_ | refine at_normal ?_)
        refine EvC.cond (t := false) rfl (fun e => nomatch e) (fun _ => ?_)
        repeat (first | refine EvO.plain rfl rfl rfl rfl rfl rfl ?_ | refine EvO.plain rfl rfl rfl rfl rfl (by assumption) ?_ | refine EvC.seq ?_ | refine EvC.region rfl ?_ | refine at_normal ?_ | refine EvC.skip ?_)
        (refine EvO.cons rfl rfl rfl (EvP.newC (b := .cells [.int .i64 0, .nilSlice] 24 false) (mk := .ptr) S4 2 rfl rfl (by decide) (fun h5 d c5 A5 S5 o5 cc5 _ => ?_)))
        skip
        refine EvO.cons0 rfl rfl (EvP.storeC (v := .agg [.int .i64 n, .nilSlice]) S5 2 o5 cc5 (by decide) rfl rfl rfl rfl rfl (Nat.le_refl 2) (fun h6 A6 S6 o6 _ _ => ?_))
        have o6 : h6.t.get d = some (.cells [.int .i64 n, .nilSlice] 24 false) := o6
        have f6 := load1 (T := TT gt) (t := 22) (off := 1) (S6.le _ _ p2) rfl rfl rfl
        have ln := RowOf.len_any (T := TT gt) (t := 22) C.rows rfl h6
        clear f3
        repeat (first | refine EvO.plain rfl rfl rfl rfl rfl rfl ?_ | refine EvO.plain rfl rfl rfl rfl rfl (by assumption) ?_ | refine EvC.seq ?_ | refine EvC.region rfl ?_ | refine EvO.nil ?_ | refine at_normal ?_ | refine EvC.block ?_)
        clear f6 ln
        have hTl := turnL_len n a0 a1 a2 L
        refine EvC.loop (fun m σ h' => ∃ (i : Nat) (G : AH) (cx : Nat → Nat) (dv : AV) (E : Nat → AV), h4.le G ∧ HS G h' cx ∧ h'.t.get d = some (.cells [.int .i64 n, dv] 24 false) ∧ cx d = 2 ∧ Rows1 G h' cx dv ((turnL n a0 a1 a2 L).take i) ∧ i ≤ L.length ∧ m = L.length - i ∧ σ = upds [(2, .ptr b 0), (3, .ptr b3 0), (5, .ptr d 0), (39, .int .i64 L.length), (40, .int .i64 i)] E) (L.length) ?_ ?_
        · exact ⟨0, h4, _, .nilSlice, _, fun _ _ e => e, S6, o6, cc5, ⟨[], .nil, fun i hi => absurd hi (Nat.not_lt_zero _)⟩, Nat.zero_le _, rfl, hold ⟨rfl, rfl, rfl, rfl, rfl, trivial⟩⟩
        · clear S6 A6 o6 S5 A5 o5 cc5 S4
          rintro m _ h7 ⟨i, G7, c7, dv, E, hG7, S7, o7, cd7, R7, hi, rfl, rfl⟩
          have hle7 : h4.le h7 := fun i o e => S7.le _ _ (hG7 _ _ e)
          repeat (first | refine EvO.plain rfl rfl rfl rfl rfl rfl ?_ | refine EvC.seq ?_ | refine EvC.region rfl ?_ | refine EvO.nil ?_ | refine at_normal ?_)
          refine EvC.decide rfl (fun hlt => ?_) (fun hlt => ?_)
          · have hlt : i < L.length := by omega
            have hhj := Nat.mod_lt (i + a0) (show 0 < L.length by omega)
            have hOB : ∃ j, (i + a0) % L.length = j := ⟨_, rfl⟩
            obtain ⟨j, hj⟩ := hOB
            rw [hj] at hhj
            have hTat := turnL_at n a0 a1 a2 hlt
            rw [hj] at hTat
            have f1 := load1 (T := TT gt) (t := 22) (off := 1) (hle7 _ _ p2) rfl rfl rfl
            have f2 := load1 (T := TT gt) (t := 5) (off := 0) (hle7 _ _ p3) rfl rfl rfl
            have ln := RowOf.len_any (T := TT gt) (t := 22) C.rows rfl h7
            have hOB := (RowOf.mono (fun i o e => hle7 _ _ (hle04 _ _ e)) C.rows).at1 (T := TT gt) (t := 22) (e := 25) rfl rfl rfl rfl (k := .i64) (i := (j : Nat)) (by omega) (by omega)
            obtain ⟨qa, b1, b2⟩ := hOB
            rw [Int.toNat_natCast] at b2
            repeat (first | refine EvO.plain rfl rfl rfl rfl rfl rfl ?_ | refine EvC.seq ?_ | refine EvC.region rfl ?_ | refine EvO.nil ?_ | refine at_normal ?_ | refine EvC.skip ?_ | refine EvC.block ?_)
            refine EvC.drawn (p := [⟨0, false, 0, 0⟩, ⟨1, false, 0, 0⟩, ⟨2, false, 0, 0⟩, ⟨3, false, 0, 0⟩, ⟨4, false, 0, 0⟩, ⟨5, false, 0, 0⟩, ⟨6, false, 0, 0⟩, ⟨7, false, 0, 0⟩, ⟨8, false, 0, 0⟩, ⟨9, false, 0, 0⟩, ⟨10, false, 0, 0⟩, ⟨11, false, 0, 0⟩, ⟨12, false, 0, 0⟩, ⟨13, false, 0, 0⟩]) rfl (by kernel_rfl) (by kernel_rfl) rfl ?_
            repeat (first | refine EvR.plain rfl rfl rfl rfl rfl rfl rfl ?_ | refine EvR.plain rfl rfl rfl rfl rfl rfl (by assumption) ?_)
            (refine EvR.cons rfl rfl rfl rfl (EvP.quiet rfl (wide8 ha0) ?_))
            repeat (first | refine EvR.plain rfl rfl rfl rfl rfl rfl rfl ?_ | refine EvR.plain rfl rfl rfl rfl rfl rfl (by assumption) ?_ | refine EvR.cons rfl rfl rfl rfl (EvP.add64 rfl rfl (by omega) ?_))
            (refine EvR.cons rfl rfl rfl rfl (EvP.quiet rfl (rem64n (a := i + a0) (b := L.length) (j := j) (by omega) rfl (by omega) hj) ?_))
            repeat (first | refine EvO.plain rfl rfl rfl rfl rfl rfl ?_ | refine EvC.seq ?_ | refine EvC.region rfl ?_ | refine EvO.nil ?_ | refine at_normal ?_ | refine EvR.nil ?_ | refine EvR.plain rfl rfl rfl rfl rfl rfl rfl ?_ | refine EvR.plain rfl rfl rfl rfl rfl rfl (by assumption) ?_)
            clear f1 f2 ln b1 b2
            have hrow0 := C.ints j hhj
            have hrow : IntRow h7 (cv j) (L.getD j []) := RowOf.mono (fun i o e => hle7 _ _ (hle04 _ _ e)) (C.ints j hhj)
            have hlok := hv.2.2.2.2 j hhj
            have hll : (L.getD j []).length ≤ 1000000 := Nat.le_trans (len_total hhj) Ltot
            generalize L.getD j [] = l at *
            have ln := RowOf.len_any (T := TT gt) (t := 25) hrow rfl h7
            repeat (first | refine EvO.plain rfl rfl rfl rfl rfl rfl ?_ | refine EvO.plain rfl rfl rfl rfl rfl (by assumption) ?_ | refine EvO.nil ?_ | refine at_normal ?_ | refine EvC.block ?_)
            clear ln
            have hCl := turnC_len n a1 a2 l
            refine EvC.loop (fun m σ h' => ∃ (k : Nat) (xv : AV) (cx : Nat → Nat) (E : Nat → AV), HS G7 h' cx ∧ h'.t.get d = some (.cells [.int .i64 n, dv] 24 false) ∧ cx d = 2 ∧ Rows1 G7 h' cx dv ((turnL n a0 a1 a2 L).take i) ∧ Vec cx 3 h' 3 1 xv k (((turnC n a1 a2 l).take k).map (AV.int .i64)) ∧ k ≤ l.length ∧ m = l.length - k ∧ σ = upds [(2, .ptr b 0), (3, .ptr b3 0), (5, .ptr d 0), (7, cv j), (8, xv), (39, .int .i64 L.length), (40, .int .i64 i), (57, .int .i64 l.length), (58, .int .i64 k)] E) (l.length) ?_ ?_
            · exact ⟨0, .nilSlice, _, _, S7, o7, cd7, R7, .nil, Nat.zero_le _, rfl, hold ⟨rfl, rfl, rfl, rfl, rfl, rfl, rfl, rfl, rfl, trivial⟩⟩
            · clear S7 R7 o7 cd7 hrow hle7
              rintro m _ h8 ⟨k, xv, c8, E, S8, o8, cd8, R8, V8, hk, rfl, rfl⟩
              have hle8 : h4.le h8 := fun i o e => S8.le _ _ (hG7 _ _ e)
              have hrow8 : IntRow h8 (cv j) l := RowOf.mono (fun i o e => hle8 _ _ (hle04 _ _ e)) hrow0
              repeat (first | refine EvO.plain rfl rfl rfl rfl rfl rfl ?_ | refine EvC.seq ?_ | refine EvC.region rfl ?_ | refine EvO.nil ?_ | refine at_normal ?_)
              refine EvC.decide rfl (fun hkl => ?_) (fun hkl => ?_)
              · have hkl : k < l.length := by omega
                have hhu := Nat.mod_lt (l.length - 1 - k + a1 % l.length) (show 0 < l.length by omega)
                have hr1 := Nat.mod_lt a1 (show 0 < l.length by omega)
                have hCat := turnC_at n a1 a2 hkl
                have hOB : ∃ r1, a1 % l.length = r1 := ⟨_, rfl⟩
                obtain ⟨r1, hr⟩ := hOB
                rw [hr] at hhu hr1 hCat
                have hOB : ∃ u, (l.length - 1 - k + r1) % l.length = u := ⟨_, rfl⟩
                obtain ⟨u, hu⟩ := hOB
                rw [hu] at hhu hCat
                have f2 := load1 (T := TT gt) (t := 5) (off := 1) (hle8 _ _ p3) rfl rfl rfl
                have ln := RowOf.len_any (T := TT gt) (t := 25) hrow0 rfl h8
                have hOB := hrow8.at1 (T := TT gt) (t := 25) (e := 3) rfl rfl rfl rfl (k := .i64) (i := (u : Nat)) (by omega) (by omega)
                obtain ⟨qa, b1, b2⟩ := hOB
                rw [Int.toNat_natCast] at b2
                have hx := hlok _ (getD_mem hhu)
                generalize l.getD u 0 = x at *
                have hx1 := hx.1
                have hx2 := hx.2
                have hOB : ∃ w, (x.natAbs + a2) % n = w := ⟨_, rfl⟩
                obtain ⟨w, hww⟩ := hOB
                have hwl : w < n := hww ▸ Nat.mod_lt _ (by omega)
                repeat (first | refine EvO.plain rfl rfl rfl rfl rfl rfl ?_ | refine EvO.plain rfl rfl rfl rfl rfl (by assumption) ?_ | refine EvC.seq ?_ | refine EvC.region rfl ?_ | refine EvO.nil ?_ | refine at_normal ?_ | refine EvC.skip ?_ | refine EvC.block ?_ | refine EvO.cons rfl rfl rfl (EvP.sub64 rfl rfl (by omega) ?_))
                (refine EvO.cons rfl rfl rfl (EvP.quiet rfl (wide8 ha1) ?_))
                repeat (first | refine EvO.plain rfl rfl rfl rfl rfl rfl ?_ | refine EvO.plain rfl rfl rfl rfl rfl (by assumption) ?_)
                (refine EvO.cons rfl rfl rfl (EvP.quiet rfl (rem64n (a := a1) (b := l.length) (j := r1) rfl rfl (by omega) hr) ?_))
                repeat (first | refine EvO.plain rfl rfl rfl rfl rfl rfl ?_ | refine EvO.plain rfl rfl rfl rfl rfl (by assumption) ?_ | refine EvO.cons rfl rfl rfl (EvP.add64 rfl rfl (by omega) ?_))
                (refine EvO.cons rfl rfl rfl (EvP.quiet rfl (rem64n (a := l.length - 1 - k + r1) (b := l.length) (j := u) (by omega) rfl (by omega) hu) ?_))
                repeat (first | refine EvO.plain rfl rfl rfl rfl rfl rfl ?_ | refine EvO.plain rfl rfl rfl rfl rfl (by assumption) ?_ | refine EvC.seq ?_ | refine EvO.nil ?_ | refine at_normal ?_)
                clear f2 ln b1 b2
                have hself : h8.le h8 := fun _ _ e => e
                have f1 := load1 (T := TT gt) (t := 3) (off := 0) (hle8 _ _ p2) rfl rfl rfl
                have f2 := load1 (T := TT gt) (t := 5) (off := 2) (hle8 _ _ p3) rfl rfl rfl
                refine EvC.drawnH 1 (h8) (p := [⟨0, false, 0, 0⟩, ⟨2, false, 0, 1⟩, ⟨3, false, 0, 1⟩, ⟨4, false, 0, 1⟩, ⟨6, false, 0, 1⟩, ⟨7, false, 0, 1⟩, ⟨1, true, 0, 1⟩, ⟨5, false, 1, 1⟩, ⟨8, false, 1, 1⟩, ⟨9, false, 1, 1⟩, ⟨10, false, 1, 1⟩]) rfl (by kernel_rfl) (by kernel_rfl) ?_
                repeat (first | refine EvH.easy1 rfl rfl rfl rfl rfl rfl rfl rfl rfl rfl ?_ | refine EvH.easyG (by assumption) rfl rfl rfl rfl rfl rfl rfl rfl rfl rfl (by first | exact veq_s rfl | assumption) ?_ | refine EvH.easyG (by assumption) rfl rfl rfl rfl rfl rfl rfl rfl rfl (by assumption) (by first | exact veq_s rfl | assumption) ?_)
                (refine EvH.quietG (by assumption) rfl rfl rfl rfl rfl rfl rfl rfl (wide8 ha2) (by first | exact veq_s rfl | assumption) ?_)
                repeat (first | refine EvH.easyG (by assumption) rfl rfl rfl rfl rfl rfl rfl rfl rfl rfl (by first | exact veq_s rfl | assumption) ?_ | refine EvH.easyG (by assumption) rfl rfl rfl rfl rfl rfl rfl rfl rfl (by assumption) (by first | exact veq_s rfl | assumption) ?_)
                refine EvH.act rfl rfl rfl rfl rfl rfl rfl (EvP.callF rfl rfl rfl rfl (EvF.mono (var_abs_spec x (by omega)) ?_))
                rintro _ h8 _ ⟨rfl, rfl⟩
                refine ⟨fun _ => hself, ?_⟩
                skip
                (refine EvH.quiet1 rfl rfl rfl rfl rfl rfl rfl rfl (add64v (r := ((x.natAbs + a2 : Nat) : Int)) (by omega) (by omega)) ?_)
                skip
                (refine EvH.quiet1 rfl rfl rfl rfl rfl rfl rfl rfl (rem64n (a := x.natAbs + a2) (b := n) (j := w) rfl rfl (by omega) hww) ?_)
                skip
                (refine EvH.quiet1 rfl rfl rfl rfl rfl rfl rfl rfl (add64v (r := ((w + 1 : Nat) : Int)) (by omega) (by omega)) ?_)
                repeat (refine EvH.easy1 rfl rfl rfl rfl rfl rfl rfl rfl rfl rfl ?_)
                repeat (first | refine EvC.seq ?_ | refine at_normal ?_ | refine EvH.nil ?_)
                refine EvC.drawnH 1 (h8) (p := [⟨0, false, 0, 1⟩, ⟨1, false, 0, 1⟩, ⟨2, false, 0, 1⟩, ⟨3, false, 0, 1⟩, ⟨4, false, 0, 1⟩, ⟨5, false, 0, 0⟩, ⟨6, true, 0, 1⟩, ⟨7, false, 1, 1⟩, ⟨8, false, 1, 1⟩, ⟨9, false, 1, 1⟩, ⟨10, false, 1, 1⟩, ⟨11, false, 1, 1⟩]) rfl (by kernel_rfl) (by kernel_rfl) ?_
                repeat (first | refine EvH.easyG (by assumption) rfl rfl rfl rfl rfl rfl rfl rfl rfl rfl (by first | exact veq_s rfl | assumption) ?_ | refine EvH.easyG (by assumption) rfl rfl rfl rfl rfl rfl rfl rfl rfl (by assumption) (by first | exact veq_s rfl | assumption) ?_)
                (refine EvH.quietG (by assumption) rfl rfl rfl rfl rfl rfl rfl rfl (wide8 ha2) (by first | exact veq_s rfl | assumption) ?_)
                repeat (refine EvH.easy1 rfl rfl rfl rfl rfl rfl rfl rfl rfl rfl ?_)
                refine EvH.act rfl rfl rfl rfl rfl rfl rfl (EvP.callF rfl rfl rfl rfl (EvF.mono (var_abs_spec x (by omega)) ?_))
                rintro _ h8 _ ⟨rfl, rfl⟩
                refine ⟨fun _ => hself, ?_⟩
                have hOB : ∃ v8, x.natAbs % 8 = v8 := ⟨_, rfl⟩
                obtain ⟨v8, hv8⟩ := hOB
                have hv8l : v8 < 8 := hv8 ▸ Nat.mod_lt _ (by decide)
                have hbit := bit_val a2 v8 (by omega) (by omega)
                have hOB : ∃ z, a2 / 2 ^ v8 % 2 = z := ⟨_, rfl⟩
                obtain ⟨z, hz⟩ := hOB
                rw [hz] at hbit
                have hrs : rsgn a2 x.natAbs = (((z : Nat) : Int) == 1) := by
                  unfold rsgn; rw [hv8, hz, Bool.eq_iff_iff, beq_iff_eq, beq_iff_eq]; omega
                (refine EvH.quiet1 rfl rfl rfl rfl rfl rfl rfl rfl (rem64n (a := x.natAbs) (b := 8) (j := v8) rfl rfl (by decide) hv8) ?_)
                skip
                (refine EvH.quiet1 rfl rfl rfl rfl rfl rfl rfl rfl (shr_at a2 v8) ?_)
                skip
                (refine EvH.quiet1 rfl rfl rfl rfl rfl rfl rfl rfl ((show some (AV.int .i64 (IntKind.i64.wrap ((BitVec.ofInt IntKind.i64.bits ((a2 : Int).fdiv (2 ^ min ((v8 : Nat) : Int).toNat IntKind.i64.bits)) &&& BitVec.ofInt IntKind.i64.bits 1).toNat : Nat))) = some (.int .i64 ((z : Nat) : Int)) by rw [hbit])) ?_)
                repeat (refine EvH.easy1 rfl rfl rfl rfl rfl rfl rfl rfl rfl rfl ?_)
                skip
                clear f1 f2 hbit
                repeat (first | refine at_normal ?_ | refine EvH.nil ?_)
                by_cases hs : (decide (x > 0) == (((z : Nat) : Int) == 1)) = true
                · refine EvC.cond (t := true) (isT hs) (fun _ => ?_) (fun e => nomatch e)
                  have hren : ren n a2 x = -((w + 1 : Nat) : Int) := by unfold ren; rw [hrs, if_pos hs, hww]
                  have hsn := take_snoc (l := turnC n a1 a2 l) (k := k) (by omega)
                  rw [hCat, hren] at hsn
                  repeat (first | refine EvO.plain rfl rfl rfl rfl rfl rfl ?_ | refine EvC.region rfl ?_ | refine EvO.nil ?_ | refine at_normal ?_ | refine EvO.cons rfl rfl rfl (EvP.neg64 rfl (by omega) ?_))
                  (refine EvO.cons rfl rfl rfl (EvP.newR (b := .cells [.int .i64 (-((w + 1 : Nat) : Int))] 3 false) (mk := .slice 1 1 true) S8 rfl rfl (fun h9 id9 A9 S9 hle9 o9 _ _ => ?_)))
                  have V9 := V8.step A9 S8.wf (fun e => e)
                  have o9d := A9.get S8.wf o8 (fun e => e)
                  skip
                  refine EvO.cons rfl rfl rfl (EvP.appendC S9 V9 (by decide) rfl rfl rfl rfl rfl rfl rfl rfl rfl (by decide) rfl rfl (afirst_all o9 rfl) rfl (by decide) rfl (by show (k + 1) * 8 ≤ 70368744177664; omega) (by omega) (fun xv2 h10 c10 A10 S10 X10 => ?_))
                  have o10d := A10.get S9.wf o9d.1 (by rw [cd8]; decide)
                  repeat (first | refine EvO.plain rfl rfl rfl rfl rfl rfl ?_ | refine EvC.region rfl ?_ | refine EvO.nil ?_ | refine at_normal ?_ | refine be_normal ?_ | refine ro_normal ?_ | refine EvO.cons rfl rfl rfl (EvP.add64 rfl rfl (by omega) ?_))
                  obtain ⟨cells, VR, hc⟩ := R8
                  refine ⟨l.length - (k + 1), by omega, k + 1, xv2, c10, _, S10.down hle9, o10d.1, o10d.2.trans cd8, ⟨cells, (VR.step A9 S8.wf (fun e => e)).step A10 S9.wf (by decide), hc⟩, by rw [hsn, List.map_append]; exact X10, by omega, rfl, hold ⟨rfl, rfl, rfl, rfl, rfl, rfl, rfl, rfl, rfl, trivial⟩⟩
                · refine EvC.cond (t := false) (isT (Bool.eq_false_iff.2 hs)) (fun e => nomatch e) (fun _ => ?_)
                  have hren : ren n a2 x = ((w + 1 : Nat) : Int) := by unfold ren; rw [hrs, if_neg hs, hww]
                  have hsn := take_snoc (l := turnC n a1 a2 l) (k := k) (by omega)
                  rw [hCat, hren] at hsn
                  repeat (first | refine EvO.plain rfl rfl rfl rfl rfl rfl ?_ | refine EvC.region rfl ?_ | refine at_normal ?_ | refine EvC.skip ?_)
                  (refine EvO.cons rfl rfl rfl (EvP.newR (b := .cells [.int .i64 (((w + 1 : Nat) : Int))] 3 false) (mk := .slice 1 1 true) S8 rfl rfl (fun h9 id9 A9 S9 hle9 o9 _ _ => ?_)))
                  have V9 := V8.step A9 S8.wf (fun e => e)
                  have o9d := A9.get S8.wf o8 (fun e => e)
                  skip
                  refine EvO.cons rfl rfl rfl (EvP.appendC S9 V9 (by decide) rfl rfl rfl rfl rfl rfl rfl rfl rfl (by decide) rfl rfl (afirst_all o9 rfl) rfl (by decide) rfl (by show (k + 1) * 8 ≤ 70368744177664; omega) (by omega) (fun xv2 h10 c10 A10 S10 X10 => ?_))
                  have o10d := A10.get S9.wf o9d.1 (by rw [cd8]; decide)
                  repeat (first | refine EvO.plain rfl rfl rfl rfl rfl rfl ?_ | refine EvC.region rfl ?_ | refine EvO.nil ?_ | refine at_normal ?_ | refine be_normal ?_ | refine ro_normal ?_ | refine EvO.cons rfl rfl rfl (EvP.add64 rfl rfl (by omega) ?_))
                  obtain ⟨cells, VR, hc⟩ := R8
                  refine ⟨l.length - (k + 1), by omega, k + 1, xv2, c10, _, S10.down hle9, o10d.1, o10d.2.trans cd8, ⟨cells, (VR.step A9 S8.wf (fun e => e)).step A10 S9.wf (by decide), hc⟩, by rw [hsn, List.map_append]; exact X10, by omega, rfl, hold ⟨rfl, rfl, rfl, rfl, rfl, rfl, rfl, rfl, rfl, trivial⟩⟩
              · have hend : k = l.length := by omega
                have ht : (turnC n a1 a2 l).take k = turnC n a1 a2 l := by rw [hend, ← hCl, List.take_length]
                have hkC : k = (turnC n a1 a2 l).length := by omega
                rw [ht, hkC] at V8
                have sc9 := V8.sc
                obtain ⟨cells, VR, hc⟩ := R8
                have VR9 := vfade VR (c := 3) (by decide)
                have f1 := load1 (T := TT gt) (t := 22) (off := 1) o8 rfl rfl rfl
                have hOB := fadeV S8 V8
                obtain ⟨G9, S9, hG9, row9⟩ := hOB
                have od : fade c8 3 d = 2 := (fade_other (by rw [cd8]; decide)).trans cd8
                clear VR hkC
                have hTk : ((turnL n a0 a1 a2 L).take i).length = i := by rw [List.length_take, hTl]; omega
                have hsn := takeL_snoc (l := turnL n a0 a1 a2 L) (k := i) (by omega)
                rw [hTat] at hsn
                have hcl : cells.length = ((turnL n a0 a1 a2 L).take i).length := by have := VR9.count; omega
                repeat (first | refine EvO.plain rfl rfl rfl rfl rfl rfl ?_ | refine EvO.plain rfl rfl rfl rfl rfl (by assumption) ?_ | refine EvC.region rfl ?_ | refine at_normal ?_ | refine EvC.exit ?_ | refine at_exit ?_ | refine be_same rfl ?_ | refine ro_exit ?_)
                clear f1
                (refine EvO.cons rfl rfl rfl (EvP.newR (b := .cells [xv] 25 false) (mk := .slice 1 1 true) S9 rfl (show abuildSlice (TT gt) 22 1 [(0, xv)] = _ from build1 rfl rfl rfl rfl sc9) (fun h10 id10 A10 S10 hle10 o10 _ _ => ?_)))
                have VR10 := VR9.step A10 S9.wf (fun e => e)
                have od10 := A10.get S9.wf o8 (fun e => e)
                skip
                refine EvO.cons rfl rfl rfl (EvP.appendC S10 VR10 (by decide) rfl rfl rfl rfl rfl rfl rfl rfl rfl (by decide) rfl rfl (afirst_all o10 rfl) rfl (by decide) (by simp [sc9.2]) (by show (((turnL n a0 a1 a2 L).take i).length + 1) * 24 ≤ 70368744177664; omega) (by omega) (fun dv' h11 c11 A11 S11 X11 => ?_))
                have od11 := A11.get S10.wf od10.1 (by rw [od]; decide)
                repeat (refine EvO.plain rfl rfl rfl rfl rfl rfl ?_)
                refine EvO.cons0 rfl rfl (EvP.store1 (u := dv') S11 2 od11.1 (od11.2.trans od) (by decide) rfl rfl rfl rfl X11.sc (by show 1 < 2; decide) (fun h12 A12 S12 o12 _ _ => ?_))
                have X12 := X11.step A12 S11.wf (by decide)
                have o12 : h12.t.get d = some (.cells [.int .i64 n, dv'] 24 false) := o12
                repeat (first | refine EvO.plain rfl rfl rfl rfl rfl rfl ?_ | refine EvC.region rfl ?_ | refine EvO.nil ?_ | refine at_normal ?_ | refine be_normal ?_ | refine ro_normal ?_ | refine EvO.cons rfl rfl rfl (EvP.add64 rfl rfl (by omega) ?_))
                refine ⟨L.length - (i + 1), by omega, i + 1, G9, c11, dv', _, fun i o e => hG9 _ _ (hG7 _ _ e), S12.down hle10, o12, od11.2.trans od, ?_, by omega, rfl, hold ⟨rfl, rfl, rfl, rfl, rfl, trivial⟩⟩
                rw [hsn]
                exact Rows1.snoc hcl (fun m hm => by obtain ⟨a, h1, h2⟩ := hc m hm; exact ⟨a, h1, RowOf.mono hG9 h2⟩) X12 row9
          · have hend : i = L.length := by omega
            have ht : (turnL n a0 a1 a2 L).take i = turnL n a0 a1 a2 L := by rw [hend, ← hTl, List.take_length]
            rw [ht] at R7
            obtain ⟨cells, VR, hc⟩ := R7
            have hv2 : valid n (turnL n a0 a1 a2 L) := turnL_valid hv
            have f2 := loadAgg (T := TT gt) (t := 24) (off := 0) (n := 2) (r := [.int .i64 n, cl]) (hle7 _ _ p2) rfl rfl
            repeat (first | refine EvO.plain rfl rfl rfl rfl rfl (by assumption) ?_ | refine EvC.seq ?_ | refine EvC.region rfl ?_ | refine at_normal ?_ | refine EvC.exit ?_ | refine at_exit ?_ | refine be_same rfl ?_ | refine ro_exit ?_)
            (refine EvO.cons rfl rfl rfl (EvP.callF rfl rfl rfl rfl (EvF.mono (solve_spec S7.wf (C.mono (fun i o e => hle7 _ _ (hle04 _ _ e)))) ?_)))
            rintro _ h8 _ ⟨⟨hle78, hw8⟩, hS1⟩
            clear f2
            have o8 := hle78 _ _ o7
            have f3 := loadAgg (T := TT gt) (t := 24) (off := 0) (n := 2) (r := [.int .i64 n, dv]) o8 rfl rfl
            have hlen2 : ∀ l ∈ turnL n a0 a1 a2 L, l.length ≤ 2 ^ 48 := fun l hl => by
              have h1 := mem_total hl
              have h2 := hv2.2.2.2.1
              omega
            have hOB := cnf_of_vec (n := (n : Int)) (VR.le hle78) (fun i hi => by obtain ⟨a, h1, h2⟩ := hc i hi; exact ⟨a, h1, RowOf.mono (AH.le.trans' S7.le hle78) h2⟩) hlen2 (by omega)
            obtain ⟨dc, D⟩ := hOB
            rcases hS1 with ⟨hn, _⟩ | ⟨_, hS1⟩
            · exact absurd hv hn
            · rw [Int.toNat_natCast] at hS1
              have hOB := says_few hv (by omega) hS1
              obtain ⟨s1, m1, q1, rfl, hs1⟩ := hOB
              repeat (first | refine EvO.plain rfl rfl rfl rfl rfl rfl ?_ | refine EvO.plain rfl rfl rfl rfl rfl (by assumption) ?_ | refine EvC.seq ?_ | refine EvC.region rfl ?_ | refine EvO.nil ?_ | refine at_normal ?_)
              (refine EvO.cons rfl rfl rfl (EvP.callF rfl rfl rfl rfl (EvF.mono (solve_spec hw8 D) ?_)))
              rintro _ h9 _ ⟨⟨hle89, hw9⟩, hS2⟩
              clear f3
              rcases hS2 with ⟨hn, _⟩ | ⟨_, hS2⟩
              · exact absurd hv2 hn
              · rw [Int.toNat_natCast] at hS2
                have hOB := says_few hv2 (by omega) hS2
                obtain ⟨s2, m2, q2, rfl, hs2⟩ := hOB
                have hOB : s1 = s2 := by rw [Bool.eq_iff_iff, hs1, hs2]; exact (turnL_some hv).symm
                obtain rfl := hOB
                repeat (first | refine EvO.plain rfl rfl rfl rfl rfl rfl ?_ | refine EvC.seq ?_ | refine EvC.region rfl ?_ | refine EvO.nil ?_ | refine at_normal ?_)
                refine EvO.on rfl rfl rfl (EvP.quiet (v := .bool true) rfl (isB (beq_self_eq_true _)) ?_)
                repeat (first | refine EvO.plain rfl rfl rfl rfl rfl rfl ?_ | refine EvO.plainOn rfl rfl rfl rfl rfl rfl ?_)
                refine EvO.on rfl rfl rfl (EvP.quiet (v := .bool true) rfl rfl ?_)
                repeat (first | refine EvO.plain rfl rfl rfl rfl rfl rfl ?_ | refine EvO.plainOn rfl rfl rfl rfl rfl rfl ?_)
                refine EvO.on rfl rfl rfl (EvP.quiet (v := .bool true) rfl rfl ?_)
                repeat (refine EvO.plain rfl rfl rfl rfl rfl rfl ?_)
                refine EvO.on rfl rfl rfl (EvP.callF rfl rfl rfl rfl (EvF.mono (awake_spec (facts gt)) ?_))
                rintro _ h99 _ ⟨rfl, rfl⟩
                repeat (first | refine EvO.plain rfl rfl rfl rfl rfl rfl ?_ | refine EvO.nil ?_ | refine at_normal ?_ | refine EvC.ret ?_)
                (refine ret_is (v := .bool true) rfl rfl ?_)
                rfl
    · rw [decide_eq_false hv]
      repeat (first | refine EvO.plain rfl rfl rfl rfl rfl rfl ?_ | refine EvO.nil ?_ | refine at_normal ?_ | refine EvO.off rfl rfl rfl ?_ | refine EvO.plainOn rfl rfl rfl rfl rfl rfl ?_)
      refine EvC.cond (t := true) rfl (fun _ => ?_) (fun e => nomatch e)
      repeat (first | refine EvC.seq ?_ | refine EvC.region rfl ?_)
      (refine EvO.cons rfl rfl rfl (EvP.callF rfl rfl rfl rfl (EvF.mono (awake_spec (facts gt)) ?_)))
      rintro _ h99 _ ⟨rfl, rfl⟩
      repeat (first | refine EvO.plain rfl rfl rfl rfl rfl rfl ?_ | refine EvO.nil ?_ | refine at_normal ?_ | refine EvC.ret ?_ | refine at_ret ?_)
      (refine ret_is (v := .bool true) rfl rfl ?_)
      rfl
end Sa
end Pf
end Go.Proofs.YtheiionmocfleaaDoor
