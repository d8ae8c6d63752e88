/- Literals in order, each once; the resolvent. -/
import Derived.Test.YtfjloafebkjadaaGreatDoorPgA
namespace Go.Proofs.YtfjloafebkjadaaGreatDoor
namespace Pf
open Go Go.AI Go.Proofs
variable {gt : Tree (List AV)}
/-- In order, each once. -/
def ordL (l : List Int) : List Int := comp (l.mergeSort (leOf cfZ)) (l.mergeSort (leOf cfZ)).length
theorem comp_length (l : List Int) : ∀ k, (comp l k).length ≤ k
  | 0 => Nat.le_refl _
  | 1 => Nat.le_refl _
  | k + 2 => by
    have := comp_length l (k + 1)
    unfold comp; split
    · omega
    · simp; omega
theorem mem_comp (l : List Int) (x : Int) : ∀ k, k ≤ l.length → (x ∈ comp l k ↔ x ∈ l.take k)
  | 0, _ => by simp [comp]
  | 1, h => by rw [take_next (by omega)]; simp [comp]
  | k + 2, h => by
    have ih := mem_comp l x (k + 1) (by omega)
    rw [take_next (by omega), List.mem_append, ← ih]
    by_cases e : l.getD (k + 1) 0 = l.getD k 0
    · rw [comp_eq l (k := k + 1) (by omega) e]
      refine ⟨.inl, fun h => h.elim id fun h => ?_⟩
      have hx : x = l.getD (k + 1) 0 := by simpa using h
      rw [ih, take_next (by omega), hx, e]
      simp
    · rw [comp_ne l (k := k + 1) (by omega) e, List.mem_append]
theorem mem_ordL (l : List Int) (x : Int) : x ∈ ordL l ↔ x ∈ l := by
  unfold ordL
  rw [mem_comp _ _ _ (Nat.le_refl _), List.take_length, List.mem_mergeSort]
theorem ordL_length (l : List Int) : (ordL l).length ≤ l.length := by
  have := comp_length (l.mergeSort (leOf cfZ)) (l.mergeSort (leOf cfZ)).length
  rw [List.length_mergeSort] at this
  unfold ordL
  rw [List.length_mergeSort]; exact this
theorem order_spec {G h : AH} {col : Nat → Nat} {c : Nat} (S : HS G h col) (h0 : c ≠ 0) {v : AV} {l : List Int} (V : Vec col c h 3 1 v l.length (l.map (AV.int .i64))) (hr : ∀ x ∈ l, -1000000 ≤ x ∧ x ≤ 1000000) (hl : l.length ≤ 2 ^ 40) :
    EvF (TT gt) X 95 [v] h (fun r h' => Step (fun x => x = c) col h col h' ∧ Vec col c h' 3 1 r (ordL l).length ((ordL l).map (AV.int .i64))) := by
  refine EvF.enter rfl rfl rfl ?_
  repeat (first | refine EvO.plain rfl rfl rfl rfl rfl rfl ?_ | refine EvC.seq ?_ | refine EvC.region rfl ?_ | refine EvO.nil ?_ | refine at_normal ?_)
  (refine EvO.cons rfl rfl rfl (EvP.callF rfl rfl rfl rfl (EvF.mono (sort_vec (T := TT gt) rfl S V hr hl) ?_)))
  rintro _ h1 _ ⟨rfl, A1, V1⟩
  have S1 := S.step A1 (fun e => h0 e.symm)
  repeat (first | refine EvO.plain rfl rfl rfl rfl rfl rfl ?_ | refine EvC.seq ?_ | refine EvC.region rfl ?_ | refine EvO.nil ?_ | refine at_normal ?_)
  (refine EvO.cons rfl rfl rfl (EvP.callF rfl rfl rfl rfl (EvF.mono (compact_spec S1 h0 V1 (by rw [List.length_mergeSort]; exact hl)) ?_)))
  rintro r h2 _ ⟨A2, V2⟩
  repeat (first | refine EvO.plain rfl rfl rfl rfl rfl rfl ?_ | refine EvO.nil ?_ | refine at_normal ?_ | refine EvC.ret ?_)
  (refine ret_is (v := r) rfl rfl ?_)
  exact ⟨A1.trans A2, V2⟩
theorem indexI_spec {h : AH} {v : AV} {l : List Int} (row : IntRow h v l) (x : Int) (hl : l.length ≤ 2 ^ 50) :
    EvF (TT gt) X 99 [v, .int .i64 x] h (fun r h' => h' = h ∧ ∃ k : Int, r = .int .i64 k ∧ (k ≥ 0 ↔ x ∈ l)) := by
  have ln := row.len (T := TT gt) (t := 35) rfl
  refine EvF.enter rfl rfl rfl ?_
  repeat (first | refine EvO.plain rfl rfl rfl rfl rfl rfl ?_ | refine EvO.plain rfl rfl rfl rfl rfl (by assumption) ?_ | refine EvC.seq ?_ | refine EvC.region rfl ?_ | refine EvO.nil ?_ | refine at_normal ?_ | refine EvC.block ?_)
  refine EvC.loop (fun m σ h' => h' = h ∧ ∃ (i : Nat) (E : Nat → AV), i ≤ l.length ∧ x ∉ l.take i ∧ m = l.length - i ∧ σ = upds [(0, v), (1, .int .i64 x), (6, v), (7, .int .i64 l.length), (8, .int .i64 i)] E) (l.length) ?_ ?_
  · exact ⟨rfl, 0, _, Nat.zero_le _, by simp, rfl, hold ⟨rfl, rfl, rfl, rfl, rfl, trivial⟩⟩
  · rintro m _ h ⟨rfl, i, E, hi, hx, rfl, rfl⟩
    repeat (first | refine EvO.plain rfl rfl rfl rfl rfl rfl ?_ | refine EvC.seq ?_ | refine EvC.region rfl ?_ | refine EvO.nil ?_ | refine at_normal ?_)
    refine EvC.decide rfl (fun hc => ?_) (fun hc => ?_)
    · have hlt : i < l.length := by omega
      have hOB := row.at1 (T := TT gt) (t := 35) (e := 3) rfl rfl rfl rfl (k := .i64) (i := i) (by omega) (by omega)
      obtain ⟨q, b1, b2⟩ := hOB
      rw [Int.toNat_natCast] at b2
      repeat (first | refine EvO.plain rfl rfl rfl rfl rfl rfl ?_ | refine EvO.plain rfl rfl rfl rfl rfl (by assumption) ?_ | refine EvC.seq ?_ | refine EvC.region rfl ?_ | refine EvO.nil ?_ | refine at_normal ?_ | refine EvC.skip ?_ | refine EvC.block ?_)
      by_cases e : x = l.getD i 0
      · refine EvC.cond (t := true) (isT (beq_true e)) (fun _ => ?_) (fun e => nomatch e)
        repeat (first | refine EvO.plain rfl rfl rfl rfl rfl rfl ?_ | refine EvC.seq ?_ | refine EvC.region rfl ?_ | refine EvO.nil ?_ | refine at_normal ?_ | refine EvC.ret ?_ | refine at_ret ?_ | refine be_ret ?_ | refine ro_ret ?_)
        (refine ret_is (v := .int .i64 i) rfl rfl ?_)
        exact ⟨rfl, i, rfl, ⟨fun _ => by rw [e]; exact getD_mem hlt, fun _ => by omega⟩⟩
      · refine EvC.cond (t := false) (isT (beq_false e)) (fun e => nomatch e) (fun _ => ?_)
        repeat (first | refine EvO.plain rfl rfl rfl rfl rfl rfl ?_ | refine EvC.region rfl ?_ | refine EvO.nil ?_ | refine at_normal ?_ | refine EvC.skip ?_ | refine be_normal ?_ | refine ro_normal ?_ | refine EvO.cons rfl rfl rfl (EvP.add64 rfl rfl (by omega) ?_))
        refine ⟨l.length - (i + 1), by omega, rfl, i + 1, _, by omega, ?_, rfl, hold ⟨rfl, rfl, rfl, rfl, rfl, trivial⟩⟩
        rw [take_next hlt]
        simp only [List.mem_append, List.mem_singleton]
        exact fun h => h.elim hx e
    · have hOB : i = l.length := by omega
      obtain rfl := hOB
      rw [List.take_length] at hx
      repeat (first | refine EvO.plain rfl rfl rfl rfl rfl rfl ?_ | refine EvC.seq ?_ | refine EvC.region rfl ?_ | refine EvO.nil ?_ | refine at_normal ?_ | refine EvC.ret ?_ | refine EvC.exit ?_ | refine at_exit ?_ | refine be_same rfl ?_ | refine ro_exit ?_)
      (refine ret_is (v := .int .i64 (-1)) rfl rfl ?_)
      exact ⟨rfl, -1, rfl, ⟨fun h => absurd h (by decide), fun h => absurd h hx⟩⟩
theorem containsI_spec {h : AH} {v : AV} {l : List Int} (row : IntRow h v l) (x : Int) (hl : l.length ≤ 2 ^ 50) :
    EvF (TT gt) X 69 [v, .int .i64 x] h (fun r h' => h' = h ∧ r = .bool (decide (x ∈ l))) := by
  refine EvF.enter rfl rfl rfl ?_
  repeat (first | refine EvO.plain rfl rfl rfl rfl rfl rfl ?_ | refine EvC.seq ?_ | refine EvC.region rfl ?_ | refine EvO.nil ?_ | refine at_normal ?_)
  (refine EvO.cons rfl rfl rfl (EvP.callF rfl rfl rfl rfl (EvF.mono (indexI_spec row x hl) ?_)))
  rintro _ h _ ⟨rfl, k, rfl, hk⟩
  repeat (first | refine EvO.plain rfl rfl rfl rfl rfl rfl ?_ | refine EvO.nil ?_ | refine at_normal ?_ | refine EvC.ret ?_)
  (refine ret_is (v := .bool (decide (k ≥ 0))) rfl rfl ?_)
  exact ⟨rfl, congrArg AV.bool (decide_eq_decide.2 hk)⟩
/-- Without one. -/
def but (l : List Int) (v : Int) : List Int := l.filter (fun x => x != v)
theorem but_next {l : List Int} {v : Int} {i : Nat} (h : i < l.length) : but (l.take (i + 1)) v = but (l.take i) v ++ if l.getD i 0 != v then [l.getD i 0] else [] := by
  unfold but
  rw [take_next h, List.filter_append, List.filter_cons]
  rfl
theorem but_len (l : List Int) (v : Int) : (but l v).length ≤ l.length := List.length_filter_le _ _
/-- The resolvent of two clauses. -/
def resL (a b : List Int) (v : Int) : List Int := ordL (but a v ++ but b (-v))
theorem vec_n {col : Nat → Nat} {c : Nat} {h : AH} {n : Nat} {v : AV} {l : List Int} (V : Vec col c h 3 1 v n (l.map (AV.int .i64))) : n = l.length := by
  have := V.count
  simp at this; omega
set_option maxHeartbeats 4000000 in
/-- A row of whole numbers, made since. -/
def OwnR (k : Nat) (G : AH) (w : AV) : Prop := ∃ (n : Nat) (cells : List AV), Vec (fun _ => 0) 0 G 3 1 w n cells ∧ n ≤ 2 ^ 40 ∧ ∀ id off m cap ex, w = .slice id off m cap ex → k ≤ id
theorem OwnR.mono {k k' : Nat} {G G' : AH} {w : AV} (o : OwnR k G w) (hk : k' ≤ k) (hl : G.le G') : OwnR k' G' w := by
  obtain ⟨n, cells, V, hn, hi⟩ := o
  exact ⟨n, cells, V.le hl, hn, fun id off m cap ex e => Nat.le_trans hk (hi id off m cap ex e)⟩
theorem publishO {G h h1 : AH} {col col1 : Nat → Nat} {R : Nat → Prop} {c : Nat} {n : Nat} {v : AV} {cs : List AV} (S : HS G h col) (A : Step R (fun _ => 0) h col1 h1) (h0 : ¬ R 0) (V : Vec col1 c h1 3 1 v n cs) (hc : c ≠ 0) (hm : n ≤ 2 ^ 40) : ∃ G', HS G' h1 col ∧ G.le G' ∧ RowOf G' 1 v n (fun i => (cs.drop (i * 1)).take 1) ∧ OwnR h.next G' v := by
  have S1 := HS.hide S A h0
  cases V with
  | nil => exact ⟨G, S1, fun _ _ e => e, .nil, 0, [], .nil, Nat.zero_le _, fun _ _ _ _ _ e => nomatch e⟩
  | @mk id _ cap ex _ tail hg hc' hn hx =>
    have hid : h.next ≤ id := by
      have hOB := Nat.lt_or_ge id h.next
      rcases hOB with hl | hl
      · have := A.old id hl
        rw [this] at hc'
        exact absurd hc'.symm hc
      · exact hl
    have V' : Vec (fun _ => 0) 0 (G.add id (.cells (cs ++ tail) 3 false)) 3 1 (.slice id 0 n cap ex) n cs := .mk (AH.get_add ..) rfl hn hx
    exact ⟨G.add id _, S1.add hg (S.fresh id hid), S1.le_add hg, V'.row, n, cs, V', hm, fun _ _ _ _ _ e => by cases e; exact hid⟩
theorem resolve_spec {G h : AH} {col : Nat → Nat} (S : HS G h col) {a b : AV} {A B : List Int} (ra : IntRow G a A) (rb : IntRow G b B) (ha : A.length ≤ 2 ^ 36) (hb : B.length ≤ 2 ^ 36) (oa : ∀ x ∈ A, -1000000 ≤ x ∧ x ≤ 1000000) (ob : ∀ x ∈ B, -1000000 ≤ x ∧ x ≤ 1000000) (v : Int) (hv : 1 ≤ v ∧ v ≤ 9223372036854775807) :
    EvF (TT gt) X 64 [a, b, .int .i64 v] h (fun r h' => Step (fun _ => False) col h col h' ∧ ∃ G', HS G' h' col ∧ G.le G' ∧ (((v ∈ A ∧ -v ∈ B) ∧ ∃ w, r = .tuple [w, .bool true] ∧ IntRow G' w (resL A B v) ∧ NZ w ∧ OwnR h.next G' w) ∨ (¬ (v ∈ A ∧ -v ∈ B) ∧ r = .tuple [.nilSlice, .bool false]))) := by
  have S0 : HS G h (fun _ => 0) := ⟨S.wf, S.le, fun _ _ _ => rfl, fun _ _ => rfl⟩
  have la := (ra.mono S.le).len_any (T := TT gt) (t := 35) rfl h
  refine EvF.enter rfl rfl rfl ?_
  repeat (first | refine EvO.plain rfl rfl rfl rfl rfl rfl ?_ | refine EvC.seq ?_ | refine EvC.region rfl ?_ | refine EvO.nil ?_ | refine at_normal ?_)
  (refine EvO.cons rfl rfl rfl (EvP.callF rfl rfl rfl rfl (EvF.mono (containsI_spec (ra.mono S.le) v (by omega)) ?_)))
  rintro _ h _ ⟨rfl, rfl⟩
  by_cases h1 : v ∈ A
  · rw [decide_eq_true h1]
    repeat (first | refine EvO.plain rfl rfl rfl rfl rfl rfl ?_ | refine EvO.plainOn rfl rfl rfl rfl rfl rfl ?_ | refine EvO.on rfl rfl rfl (EvP.neg64 rfl (by omega) ?_))
    refine EvO.on rfl rfl rfl (EvP.callF rfl rfl rfl rfl (EvF.mono (containsI_spec (rb.mono S.le) (-v) (by omega)) ?_))
    rintro _ h _ ⟨rfl, rfl⟩
    by_cases h2 : -v ∈ B
    · rw [decide_eq_true h2]
      repeat (first | refine EvO.plain rfl rfl rfl rfl rfl rfl ?_ | refine EvO.nil ?_ | refine at_normal ?_ | refine EvO.plainOn rfl rfl rfl rfl rfl rfl ?_)
      refine EvC.cond (t := false) rfl (fun e => nomatch e) (fun _ => ?_)
      repeat (first | refine EvO.plain rfl rfl rfl rfl rfl rfl ?_ | refine EvO.plain rfl rfl rfl rfl rfl (by assumption) ?_ | refine EvC.seq ?_ | refine EvC.region rfl ?_ | refine EvO.nil ?_ | refine at_normal ?_ | refine EvC.skip ?_ | refine EvC.block ?_)
      refine EvC.loop (fun m σ h' => ∃ (i n : Nat) (w : AV) (col1 : Nat → Nat) (E : Nat → AV), Step (fun x => x = 1) (fun _ => 0) h col1 h' ∧ Vec col1 1 h' 3 1 w n ((but (A.take i) v).map (AV.int .i64)) ∧ n ≤ i ∧ i ≤ A.length ∧ m = A.length - i ∧ σ = upds [(1, b), (2, .int .i64 v), (8, w), (24, a), (25, .int .i64 A.length), (26, .int .i64 i)] E) (A.length) ?_ ?_
      · exact ⟨0, 0, _, _, _, Step.refl S0, .nil, Nat.le_refl _, Nat.zero_le _, rfl, hold ⟨rfl, rfl, rfl, rfl, rfl, rfl, trivial⟩⟩
      · rintro m _ h3 ⟨i, n, w, col1, E, A1, V, hn, hi, rfl, rfl⟩
        have S1 := S0.step A1 (by decide)
        clear la
        repeat (first | refine EvO.plain rfl rfl rfl rfl rfl rfl ?_ | refine EvC.seq ?_ | refine EvC.region rfl ?_ | refine EvO.nil ?_ | refine at_normal ?_)
        refine EvC.decide rfl (fun hc => ?_) (fun hc => ?_)
        · have hlt : i < A.length := by omega
          have hOB := (ra.mono S1.le).at1 (T := TT gt) (t := 35) (e := 3) rfl rfl rfl rfl (k := .i64) (i := i) (by omega) (by omega)
          obtain ⟨q, b1, b2⟩ := hOB
          rw [Int.toNat_natCast] at b2
          have ht := but_next (v := v) hlt
          repeat (first | refine EvO.plain rfl rfl rfl rfl rfl rfl ?_ | refine EvO.plain rfl rfl rfl rfl rfl (by assumption) ?_ | refine EvC.seq ?_ | refine EvC.region rfl ?_ | refine EvO.nil ?_ | refine at_normal ?_ | refine EvC.skip ?_ | refine EvC.block ?_)
          by_cases e : A.getD i 0 = v
          · refine EvC.cond (t := false) (isT (bne_eq_false_iff_eq.2 e)) (fun e => nomatch e) (fun _ => ?_)
            rw [if_neg (by rw [bne_eq_false_iff_eq.2 e]; decide), List.append_nil] at ht
            clear b1 b2
            repeat (first | refine EvO.plain rfl rfl rfl rfl rfl rfl ?_ | refine EvC.region rfl ?_ | refine EvO.nil ?_ | refine at_normal ?_ | refine EvC.skip ?_ | refine be_normal ?_ | refine ro_normal ?_ | refine EvO.cons rfl rfl rfl (EvP.add64 rfl rfl (by omega) ?_))
            exact ⟨A.length - (i + 1), by omega, i + 1, n, w, col1, _, A1, by rw [ht]; exact V, by omega, by omega, rfl, hold ⟨rfl, rfl, rfl, rfl, rfl, rfl, trivial⟩⟩
          · refine EvC.cond (t := true) (isT (bne_iff_ne.2 e)) (fun _ => ?_) (fun e => nomatch e)
            rw [if_pos (bne_iff_ne.2 e)] at ht
            clear b1 b2
            repeat (first | refine EvO.plain rfl rfl rfl rfl rfl rfl ?_ | refine EvC.region rfl ?_)
            (refine EvO.cons rfl rfl rfl (EvP.newR (b := .cells [.int .i64 (A.getD i 0)] 3 false) (mk := .slice 1 1 true) S1 rfl rfl (fun h4 id A2 S2 hle o2 _ _ => ?_)))
            (refine EvO.cons rfl rfl rfl (EvP.appendC S2 (V.step A2 S1.wf (fun e => e)) (by decide) rfl rfl rfl rfl rfl rfl rfl rfl rfl (by decide) rfl rfl (afirst_all o2 rfl) rfl (by decide) rfl (by show (n + 1) * 8 ≤ 70368744177664; omega) (by show n + 1 ≤ 1099511627776; omega) (fun w' h5 col3 A3 S3 V3 => ?_)))
            have B1 := (A1.trans (A2.mono (fun _ e => e.elim))).trans A3
            repeat (first | refine EvO.plain rfl rfl rfl rfl rfl rfl ?_ | refine EvC.region rfl ?_ | refine EvO.nil ?_ | refine at_normal ?_ | refine be_normal ?_ | refine ro_normal ?_ | refine EvO.cons rfl rfl rfl (EvP.add64 rfl rfl (by omega) ?_))
            exact ⟨A.length - (i + 1), by omega, i + 1, n + 1, w', col3, _, B1, by rw [ht, List.map_append]; exact V3, by omega, by omega, rfl, hold ⟨rfl, rfl, rfl, rfl, rfl, rfl, trivial⟩⟩
        · have hOB : i = A.length := by omega
          obtain rfl := hOB
          rw [List.take_length] at V
          have lb := (rb.mono S1.le).len_any (T := TT gt) (t := 35) rfl h3
          repeat (first | refine EvO.plain rfl rfl rfl rfl rfl rfl ?_ | refine EvO.plain rfl rfl rfl rfl rfl (by assumption) ?_ | refine EvC.seq ?_ | refine EvC.region rfl ?_ | refine EvO.nil ?_ | refine at_normal ?_ | refine EvC.block ?_ | refine EvC.exit ?_ | refine at_exit ?_ | refine be_same rfl ?_ | refine ro_exit ?_)
          clear lb
          refine EvC.loop (fun m σ h' => ∃ (i n : Nat) (w : AV) (col1 : Nat → Nat) (E : Nat → AV), Step (fun x => x = 1) (fun _ => 0) h col1 h' ∧ Vec col1 1 h' 3 1 w n ((but A v ++ but (B.take i) (-v)).map (AV.int .i64)) ∧ n ≤ A.length + i ∧ i ≤ B.length ∧ m = B.length - i ∧ σ = upds [(2, .int .i64 v), (8, w), (38, b), (39, .int .i64 B.length), (40, .int .i64 i)] E) (B.length) ?_ ?_
          · exact ⟨0, n, w, col1, _, A1, by rw [show but (B.take 0) (-v) = [] from rfl, List.append_nil]; exact V, by omega, Nat.zero_le _, rfl, hold ⟨rfl, rfl, rfl, rfl, rfl, trivial⟩⟩
          · rintro m _ h3 ⟨i, n, w, col1, E, A1, V, hn, hi, rfl, rfl⟩
            have S1 := S0.step A1 (by decide)
            repeat (first | refine EvO.plain rfl rfl rfl rfl rfl rfl ?_ | refine EvC.seq ?_ | refine EvC.region rfl ?_ | refine EvO.nil ?_ | refine at_normal ?_)
            refine EvC.decide rfl (fun hc => ?_) (fun hc => ?_)
            · have hlt : i < B.length := by omega
              have hOB := (rb.mono S1.le).at1 (T := TT gt) (t := 35) (e := 3) rfl rfl rfl rfl (k := .i64) (i := i) (by omega) (by omega)
              obtain ⟨q, b1, b2⟩ := hOB
              rw [Int.toNat_natCast] at b2
              have ht := but_next (v := -v) hlt
              repeat (first | refine EvO.plain rfl rfl rfl rfl rfl rfl ?_ | refine EvO.plain rfl rfl rfl rfl rfl (by assumption) ?_ | refine EvC.seq ?_ | refine EvC.region rfl ?_ | refine EvO.nil ?_ | refine at_normal ?_ | refine EvC.skip ?_ | refine EvC.block ?_ | refine EvO.cons rfl rfl rfl (EvP.neg64 rfl (by omega) ?_))
              by_cases e : B.getD i 0 = -v
              · refine EvC.cond (t := false) (isT (bne_eq_false_iff_eq.2 e)) (fun e => nomatch e) (fun _ => ?_)
                rw [if_neg (by rw [bne_eq_false_iff_eq.2 e]; decide), List.append_nil] at ht
                clear b1 b2
                repeat (first | refine EvO.plain rfl rfl rfl rfl rfl rfl ?_ | refine EvC.region rfl ?_ | refine EvO.nil ?_ | refine at_normal ?_ | refine EvC.skip ?_ | refine be_normal ?_ | refine ro_normal ?_ | refine EvO.cons rfl rfl rfl (EvP.add64 rfl rfl (by omega) ?_))
                exact ⟨B.length - (i + 1), by omega, i + 1, n, w, col1, _, A1, by rw [ht]; exact V, by omega, by omega, rfl, hold ⟨rfl, rfl, rfl, rfl, rfl, trivial⟩⟩
              · refine EvC.cond (t := true) (isT (bne_iff_ne.2 e)) (fun _ => ?_) (fun e => nomatch e)
                rw [if_pos (bne_iff_ne.2 e)] at ht
                clear b1 b2
                repeat (first | refine EvO.plain rfl rfl rfl rfl rfl rfl ?_ | refine EvC.region rfl ?_)
                (refine EvO.cons rfl rfl rfl (EvP.newR (b := .cells [.int .i64 (B.getD i 0)] 3 false) (mk := .slice 1 1 true) S1 rfl rfl (fun h4 id A2 S2 hle o2 _ _ => ?_)))
                (refine EvO.cons rfl rfl rfl (EvP.appendC S2 (V.step A2 S1.wf (fun e => e)) (by decide) rfl rfl rfl rfl rfl rfl rfl rfl rfl (by decide) rfl rfl (afirst_all o2 rfl) rfl (by decide) rfl (by show (n + 1) * 8 ≤ 70368744177664; omega) (by show n + 1 ≤ 1099511627776; omega) (fun w' h5 col3 A3 S3 V3 => ?_)))
                have B1 := (A1.trans (A2.mono (fun _ e => e.elim))).trans A3
                repeat (first | refine EvO.plain rfl rfl rfl rfl rfl rfl ?_ | refine EvC.region rfl ?_ | refine EvO.nil ?_ | refine at_normal ?_ | refine be_normal ?_ | refine ro_normal ?_ | refine EvO.cons rfl rfl rfl (EvP.add64 rfl rfl (by omega) ?_))
                exact ⟨B.length - (i + 1), by omega, i + 1, n + 1, w', col3, _, B1, by rw [ht, ← List.append_assoc, List.map_append (l₂ := [B.getD i 0])]; exact V3, by omega, by omega, rfl, hold ⟨rfl, rfl, rfl, rfl, rfl, trivial⟩⟩
            · have hOB : i = B.length := by omega
              obtain rfl := hOB
              rw [List.take_length] at V
              have hOB := vec_n V
              obtain rfl := hOB
              have hr : ∀ x ∈ but A v ++ but B (-v), -1000000 ≤ x ∧ x ≤ 1000000 := fun x hx => by
                have hOB := List.mem_append.1 hx
                rcases hOB with hx | hx
                · exact oa x (List.mem_filter.1 hx).1
                · exact ob x (List.mem_filter.1 hx).1
              repeat (first | refine EvO.plain rfl rfl rfl rfl rfl rfl ?_ | refine EvC.seq ?_ | refine EvC.region rfl ?_ | refine at_normal ?_ | refine EvC.exit ?_ | refine at_exit ?_ | refine be_same rfl ?_ | refine ro_exit ?_)
              (refine EvO.cons rfl rfl rfl (EvP.callF rfl rfl rfl rfl (EvF.mono (order_spec S1 (by decide) V hr (by omega)) ?_)))
              rintro r h4 _ ⟨A2, V2⟩
              have B1 := A1.trans A2
              repeat (first | refine EvO.plain rfl rfl rfl rfl rfl rfl ?_ | refine EvO.nil ?_ | refine at_normal ?_ | refine EvC.ret ?_)
              (refine ret_are (vs := [r, .bool true]) rfl rfl ?_)
              refine ⟨Step.hide S B1 (by decide), ?_⟩
              have hOB := publishO S B1 (by decide) V2 (by decide) (by have h5 := ordL_length (but A v ++ but B (-v)); rw [List.length_append] at h5; have h6 := but_len A v; have h7 := but_len B (-v); omega)
              obtain ⟨G', s1, s2, s3, s4⟩ := hOB
              exact ⟨G', s1, s2, .inl ⟨⟨h1, h2⟩, r, rfl, row_ints s3, V2.nz, s4⟩⟩
    · rw [decide_eq_false h2]
      repeat (first | refine EvO.plain rfl rfl rfl rfl rfl rfl ?_ | refine EvO.nil ?_ | refine at_normal ?_ | refine EvO.plainOn rfl rfl rfl rfl rfl rfl ?_)
      refine EvC.cond (t := true) rfl (fun _ => ?_) (fun e => nomatch e)
      repeat (first | refine EvO.plain rfl rfl rfl rfl rfl rfl ?_ | refine EvC.seq ?_ | refine EvC.region rfl ?_ | refine EvO.nil ?_ | refine at_normal ?_ | refine EvC.ret ?_ | refine at_ret ?_)
      (refine ret_are (vs := [.nilSlice, .bool false]) rfl rfl ?_)
      exact ⟨Step.hide S (Step.refl S0 (R := fun x => x = 1)) (by decide), G, S, fun _ _ e => e, .inr ⟨fun e => h2 e.2, rfl⟩⟩
  · rw [decide_eq_false h1]
    repeat (first | refine EvO.plain rfl rfl rfl rfl rfl rfl ?_ | refine EvO.nil ?_ | refine at_normal ?_ | refine EvO.off rfl rfl rfl ?_)
    refine EvC.cond (t := true) rfl (fun _ => ?_) (fun e => nomatch e)
    repeat (first | refine EvO.plain rfl rfl rfl rfl rfl rfl ?_ | refine EvC.seq ?_ | refine EvC.region rfl ?_ | refine EvO.nil ?_ | refine at_normal ?_ | refine EvC.ret ?_ | refine at_ret ?_)
    (refine ret_are (vs := [.nilSlice, .bool false]) rfl rfl ?_)
    exact ⟨Step.hide S (Step.refl S0 (R := fun x => x = 1)) (by decide), G, S, fun _ _ e => e, .inr ⟨fun e => h1 e.1, rfl⟩⟩
end Pf
end Go.Proofs.YtfjloafebkjadaaGreatDoor
