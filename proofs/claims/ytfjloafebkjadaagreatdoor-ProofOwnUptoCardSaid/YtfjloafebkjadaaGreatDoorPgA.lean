/- Equal neighbours left out. -/
import Derived.Test.YtfjloafebkjadaaGreatDoorPf4
namespace Go.Proofs.YtfjloafebkjadaaGreatDoor
namespace Pf
open Go Go.AI Go.Proofs
variable {gt : Tree (List AV)}
/-- So many of a list, each that is as the one before it left out. -/
def comp (l : List Int) : Nat → List Int
  | 0 => []
  | 1 => [l.getD 0 0]
  | i + 2 => if l.getD (i + 1) 0 = l.getD i 0 then comp l (i + 1) else comp l (i + 1) ++ [l.getD (i + 1) 0]
theorem comp_eq (l : List Int) {k : Nat} (h1 : 1 ≤ k) (e : l.getD k 0 = l.getD (k - 1) 0) : comp l (k + 1) = comp l k := by
  obtain ⟨i, rfl⟩ : ∃ i, k = i + 1 := ⟨k - 1, by omega⟩
  exact if_pos e
theorem comp_ne (l : List Int) {k : Nat} (h1 : 1 ≤ k) (e : ¬ l.getD k 0 = l.getD (k - 1) 0) : comp l (k + 1) = comp l k ++ [l.getD k 0] := by
  obtain ⟨i, rfl⟩ : ∃ i, k = i + 1 := ⟨k - 1, by omega⟩
  exact if_neg e
theorem take_next {l : List Int} {k : Nat} (h : k < l.length) : l.take (k + 1) = l.take k ++ [l.getD k 0] := by
  rw [List.take_add_one, List.getD_eq_getElem?_getD, List.getElem?_eq_getElem h]; rfl
theorem cell_at {zs : List Int} {tail : List AV} {j : Nat} (hj : j < zs.length) : lget (zs.map (AV.int .i64) ++ tail) j = some (.int .i64 (zs.getD j 0)) := by
  rw [lget_eq, List.getElem?_append_left (by simpa using hj), List.getElem?_map, List.getD_eq_getElem?_getD, List.getElem?_eq_getElem hj]; rfl
theorem getD_drops {zs l : List Int} {a j : Nat} (h : zs.drop a = l.drop a) (hj : a ≤ j) : zs.getD j 0 = l.getD j 0 := by
  have : (zs.drop a)[j - a]? = (l.drop a)[j - a]? := by rw [h]
  rw [List.getElem?_drop, List.getElem?_drop, show a + (j - a) = j by omega] at this
  rw [List.getD_eq_getElem?_getD, List.getD_eq_getElem?_getD, this]
theorem cut_from {h : AH} {id n cap k : Nat} {ex : Bool} {cs : List AV} (hg : h.t.get id = some (.cells cs 3 false)) (hx : ex = true → n ≤ cap ∧ cs.length = cap * 1) (hn : n ≤ cs.length) (hk : k < n) :
    ∃ cap', aslice (TT gt) h 35 (.slice id 0 n cap ex) (some (.int .i64 k)) none none = some (.slice id k (n - k) cap' ex) := by
  have b : ∀ c, bounds n c (some (.int .i64 k)) none none = some (k, n, c) := fun c => by
    show (match (if (0 : Int) ≤ (k : Int) ∧ (k : Int) ≤ (n : Int) then some ((k : Int)).toNat else none) with | none => none | some l => some (l, n, c)) = _
    rw [if_pos (by omega)]; rfl
  cases ex with
  | true =>
    obtain ⟨h1, h2⟩ := hx rfl
    refine ⟨cap - k, ?_⟩
    show cut id 0 1 (bounds n cap (some (.int .i64 k)) none none) = _
    rw [b]; simp only [cut]; rw [if_neg (by omega)]; simp
  | false =>
    refine ⟨0, ?_⟩
    show (match some ti3, ownOf h id with
      | some ie, some (cs, el) =>
        if ie.size = 0 ∨ szOf (TT gt) el ≠ ie.size ∨ cs.length < 0 then none else
        match bounds n ((cs.length - 0) / ie.size) (some (.int .i64 k)) none none with
        | some (l, hi, mm) => if (cs.length - 0) / ie.size < hi then none else if l = (cs.length - 0) / ie.size ∧ 0 < l then some AV.eslice else some (AV.slice id (0 + l * ie.size) (hi - l) 0 false)
        | none => none
      | _, _ => none) = _
    have hs : szOf (TT gt) 3 = 1 := rfl
    have h1 : ti3.size = 1 := rfl
    simp only [ownOf, hg, hs, h1, b]
    rw [if_neg (by omega)]
    simp only [Nat.sub_zero, Nat.div_one]
    rw [if_neg (by omega), if_neg (by omega)]
    simp
theorem cut_to {h : AH} {id n cap k : Nat} {ex : Bool} {cs : List AV} (hg : h.t.get id = some (.cells cs 3 false)) (hx : ex = true → n ≤ cap ∧ cs.length = cap * 1) (hn : n ≤ cs.length) (hk : k ≤ n) :
    ∃ cap', aslice (TT gt) h 35 (.slice id 0 n cap ex) none (some (.int .i64 k)) none = some (.slice id 0 k cap' ex) ∧ (ex = true → k ≤ cap' ∧ cs.length = cap' * 1) := by
  have b : ∀ c, k ≤ c → bounds n c none (some (.int .i64 k)) none = some (0, k, c) := fun c hc => by
    show (match (if (0 : Int) ≤ (k : Int) ∧ (k : Int) ≤ (c : Int) then some ((k : Int)).toNat else none) with | none => none | some h => some (0, h, c)) = _
    rw [if_pos (by omega)]; rfl
  cases ex with
  | true =>
    obtain ⟨h1, h2⟩ := hx rfl
    refine ⟨cap, ?_, fun _ => ⟨by omega, h2⟩⟩
    show cut id 0 1 (bounds n cap none (some (.int .i64 k)) none) = _
    rw [b _ (by omega)]; simp [cut]
  | false =>
    refine ⟨0, ?_, fun e => nomatch e⟩
    show (match some ti3, ownOf h id with
      | some ie, some (cs, el) =>
        if ie.size = 0 ∨ szOf (TT gt) el ≠ ie.size ∨ cs.length < 0 then none else
        match bounds n ((cs.length - 0) / ie.size) none (some (.int .i64 k)) none with
        | some (l, hi, mm) => if (cs.length - 0) / ie.size < hi then none else if l = (cs.length - 0) / ie.size ∧ 0 < l then some AV.eslice else some (AV.slice id (0 + l * ie.size) (hi - l) 0 false)
        | none => none
      | _, _ => none) = _
    have hs : szOf (TT gt) 3 = 1 := rfl
    have h1 : ti3.size = 1 := rfl
    simp only [ownOf, hg, hs, h1, Nat.sub_zero, Nat.div_one]
    rw [if_neg (by omega), b _ (by omega)]
    simp only
    rw [if_neg (by omega), if_neg (by omega)]
    simp
theorem EvP.clearC {G h : AH} {col : Nat → Nat} {σ : Nat → AV} {cl : Call} {s : Operand} {ts : List TypeId} {c id k m cap : Nat} {ex : Bool} {cs : List AV} {Q : AV → AH → Prop} (S : HS G h col) (hb : h.t.get id = some (.cells cs 3 false)) (hc : col id = c) (h0 : c ≠ 0) (hcl : cl.callee = .builtin .clear) (hts : cl.argTypes.toList = 35 :: ts) (hargs : cl.args.toList = [s]) (hv : evf σ s = .slice id k m cap ex) (hl : k + m ≤ cs.length)
    (H : ∀ h1, Step (fun x => x = c) col h col h1 → HS G h1 col → h1.t.get id = some (.cells (lsetMany cs k (rep m [.int .i64 0])) 3 false) → Q (.tuple []) h1) : EvP (TT gt) X (.call cl) σ h Q := by
  have hrl : (rep m [AV.int .i64 0]).length = m := by rw [rep_one]; simp
  have hput : put? h id cs 3 k (rep m [.int .i64 0]) = some (h.upd id (.cells (lsetMany cs k (rep m [.int .i64 0])) 3 false)) := by
    unfold put?
    rw [if_pos ⟨by rw [rep_one]; simp [Go.AI.scalar], by rw [hrl]; exact hl⟩]
  have hcle : aclear (TT gt) h 35 (.slice id k m cap ex) = some (h.upd id (.cells (lsetMany cs k (rep m [.int .i64 0])) 3 false)) := by
    show (match some ti3, ownOf h id with
      | some ei, some (cs, el) => if ei.zero.length = ei.size then put? h id cs el k (rep m ei.zero) else none
      | _, _ => none) = _
    simp only [ownOf, hb]
    exact hput
  refine EvP.eff (v := .tuple []) (h' := h.upd id (.cells (lsetMany cs k (rep m [.int .i64 0])) 3 false)) (by simp only [kindOf, hcl]) ?_ (Nat.le_refl _) ?_
  · simp only [feff, hcl, hts, hargs, hv, hcle, rh, Option.map_some]
  · have A := upd_step (o' := .cells (lsetMany cs k (rep m [.int .i64 0])) 3 false) S.wf S.fresh hb hc
    exact H _ A (S.step A (fun e => h0 e.symm)) (get_upd ..)
set_option maxHeartbeats 4000000 in
/-- slices.Compact. -/
theorem compact_spec {G h : AH} {col : Nat → Nat} {c : Nat} (S : HS G h col) (h0 : c ≠ 0) {v : AV} {l : List Int} (V : Vec col c h 3 1 v l.length (l.map (AV.int .i64))) (hl : l.length ≤ 2 ^ 40) :
    EvF (TT gt) X 128 [v] h (fun r h' => Step (fun x => x = c) col h col h' ∧ Vec col c h' 3 1 r (comp l l.length).length ((comp l l.length).map (AV.int .i64))) := by
  have ln := V.row.len (T := TT gt) (t := 35) rfl
  refine EvF.enter rfl rfl rfl ?_
  repeat (first | refine EvO.plain rfl rfl rfl rfl rfl rfl ?_ | refine EvO.plain rfl rfl rfl rfl rfl (by assumption) ?_ | refine EvC.seq ?_ | refine EvC.region rfl ?_ | refine EvO.nil ?_ | refine at_normal ?_)
  refine EvC.decide rfl (fun hlen => ?_) (fun hlen => ?_)
  · repeat (first | refine EvO.plain rfl rfl rfl rfl rfl rfl ?_ | refine EvC.seq ?_ | refine EvC.region rfl ?_ | refine EvO.nil ?_ | refine at_normal ?_ | refine EvC.ret ?_ | refine at_ret ?_)
    (refine ret_is (v := v) rfl rfl ?_)
    have : comp l l.length = l := by
      match l, hlen with
      | [], _ => rfl
      | [x], _ => rfl
      | _ :: _ :: _, h => simp at h; omega
    rw [this]; exact ⟨Step.refl S, V⟩
  · obtain ⟨id, cap, ex, tail, rfl, hg, hc⟩ := V.block (by omega)
    have hx : ex = true → l.length ≤ cap ∧ (l.map (AV.int .i64) ++ tail).length = cap * 1 := by
      cases V with
      | mk hg' hc' hn hx =>
        rw [hg] at hg'
        have e := Option.some.inj hg'
        injection e with e1 _ _
        intro e2
        have := hx e2
        rw [← e1] at this
        exact this
    have ai : ∀ {a : Int}, 0 ≤ a → a < l.length → aindexAddr (TT gt) 35 (.slice id 0 l.length cap ex) (.int .i64 a) = some (.ptr id a.toNat) := fun {a} ha1 ha2 => by
      show (if 0 ≤ a ∧ a < (l.length : Int) then some (AV.ptr id (0 + a.toNat * 1)) else none) = _
      rw [if_pos ⟨ha1, ha2⟩]; simp
    repeat (first | refine EvO.plain rfl rfl rfl rfl rfl rfl ?_ | refine EvC.seq ?_ | refine EvC.region rfl ?_ | refine EvO.nil ?_ | refine at_normal ?_ | refine EvC.skip ?_ | refine EvC.block ?_)
    refine EvC.loop (fun m σ h' => h' = h ∧ ∃ (k : Nat) (E : Nat → AV), 1 ≤ k ∧ k ≤ l.length ∧ comp l k = l.take k ∧ m = l.length - k ∧ σ = upds [(0, .slice id 0 l.length cap ex), (3, .int .i64 k)] E) (l.length - 1) ?_ ?_
    · refine ⟨rfl, 1, _, Nat.le_refl _, by omega, ?_, rfl, hold ⟨rfl, rfl, trivial⟩⟩
      rw [take_next (by omega)]; rfl
    · rintro m _ h ⟨rfl, k, E, hk1, hk2, hD, rfl, rfl⟩
      repeat (first | refine EvO.plain rfl rfl rfl rfl rfl rfl ?_ | refine EvC.seq ?_ | refine EvC.region rfl ?_ | refine EvO.nil ?_ | refine at_normal ?_)
      refine EvC.decide rfl (fun hk => ?_) (fun hk => ?_)
      · have hlt : k < l.length := by omega
        have i1 := ai (a := (k : Int)) (by omega) (by omega)
        have i2 := ai (a := (k : Int) - 1) (by omega) (by omega)
        rw [Int.toNat_natCast] at i1
        rw [show ((k : Int) - 1).toNat = k - 1 by omega] at i2
        have l1 := load1 (T := TT gt) (t := 3) (off := k) hg rfl rfl (cell_at hlt)
        have l2 := load1 (T := TT gt) (t := 3) (off := k - 1) hg rfl rfl (cell_at (show k - 1 < l.length by omega))
        repeat (first | refine EvC.seq ?_ | refine at_normal ?_ | refine EvC.skip ?_ | refine EvC.block ?_)
        refine EvC.drawn (p := [⟨0, false, 0, 0⟩, ⟨1, false, 0, 0⟩, ⟨2, false, 0, 0⟩, ⟨3, false, 0, 0⟩, ⟨4, false, 0, 0⟩, ⟨5, false, 0, 0⟩, ⟨6, false, 0, 0⟩, ⟨7, false, 0, 0⟩, ⟨8, false, 0, 0⟩, ⟨9, false, 0, 0⟩]) rfl (by kernel_rfl) (by kernel_rfl) rfl ?_
        repeat (first | refine at_normal ?_ | refine EvR.nil ?_ | refine EvR.plain rfl rfl rfl rfl rfl rfl rfl ?_ | refine EvR.plain rfl rfl rfl rfl rfl rfl (by assumption) ?_ | refine EvR.cons rfl rfl rfl rfl (EvP.sub64 rfl rfl (by omega) ?_))
        by_cases e : l.getD k 0 = l.getD (k - 1) 0
        · refine EvC.cond (t := true) (isT (beq_true e)) (fun _ => ?_) (fun e => nomatch e)
          obtain ⟨cap1, s1⟩ := cut_from (gt := gt) hg hx (by simp) hlt
          clear i1 i2 l1 l2
          repeat (first | refine EvO.plain rfl rfl rfl rfl rfl rfl ?_ | refine EvO.plain rfl rfl rfl rfl rfl (by assumption) ?_ | refine EvC.seq ?_ | refine EvC.region rfl ?_ | refine EvO.nil ?_ | refine at_normal ?_ | refine EvC.block ?_)
          clear s1
          have ai2 : ∀ {a : Int}, 0 ≤ a → a < ((l.length - k : Nat) : Int) → aindexAddr (TT gt) 35 (.slice id k (l.length - k) cap1 ex) (.int .i64 a) = some (.ptr id (k + a.toNat)) := fun {a} ha1 ha2 => by
            show (if 0 ≤ a ∧ a < ((l.length - k : Nat) : Int) then some (AV.ptr id (k + a.toNat * 1)) else none) = _
            rw [if_pos ⟨ha1, ha2⟩]; simp
          refine EvC.loop (fun m σ h' => ∃ (zs : List Int) (j q : Nat) (E : Nat → AV), Step (fun x => x = c) col h col h' ∧ h'.t.get id = some (.cells (zs.map (AV.int .i64) ++ tail) 3 false) ∧ zs.length = l.length ∧ 1 ≤ q ∧ k + q ≤ l.length ∧ 1 ≤ j ∧ j + 1 ≤ k + q ∧ zs.take j = comp l (k + q) ∧ zs.drop (k + q - 1) = l.drop (k + q - 1) ∧ m = l.length - (k + q) ∧ σ = upds [(0, .slice id 0 l.length cap ex), (3, .int .i64 j), (4, .slice id k (l.length - k) cap1 ex), (5, .int .i64 q)] E) (l.length - (k + 1)) ?_ ?_
          · exact ⟨l, k, 1, _, Step.refl S, hg, rfl, Nat.le_refl _, by omega, hk1, Nat.le_refl _, by rw [comp_eq l hk1 e, hD], rfl, rfl, hold ⟨rfl, rfl, rfl, rfl, trivial⟩⟩
          · rintro m _ h1 ⟨zs, j, q, E1, A, g1, hzl, hq1, hq2, hj1, hj2, hT, hDr, rfl, rfl⟩
            have S1 := S.step A (fun e => h0 e.symm)
            repeat (first | refine EvO.plain rfl rfl rfl rfl rfl rfl ?_ | refine EvC.seq ?_ | refine EvC.region rfl ?_ | refine EvO.nil ?_ | refine at_normal ?_)
            refine EvC.decide rfl (fun hq => ?_) (fun hq => ?_)
            · have hqlt : k + q < l.length := by omega
              have i1 := ai2 (a := (q : Int)) (by omega) (by omega)
              have i2 := ai2 (a := (q : Int) - 1) (by omega) (by omega)
              rw [Int.toNat_natCast] at i1
              rw [show k + ((q : Int) - 1).toNat = k + q - 1 by omega] at i2
              have l1 := load1 (T := TT gt) (t := 3) (off := k + q) g1 rfl rfl (cell_at (show k + q < zs.length by omega))
              have l2 := load1 (T := TT gt) (t := 3) (off := k + q - 1) g1 rfl rfl (cell_at (show k + q - 1 < zs.length by omega))
              rw [getD_drops hDr (by omega)] at l1 l2
              have hd2 : zs.drop (k + q) = l.drop (k + q) := by
                have : (zs.drop (k + q - 1)).drop 1 = (l.drop (k + q - 1)).drop 1 := by rw [hDr]
                rw [List.drop_drop, List.drop_drop, show k + q - 1 + 1 = k + q by omega] at this
                exact this
              repeat (first | refine EvC.seq ?_ | refine at_normal ?_ | refine EvC.skip ?_ | refine EvC.block ?_)
              refine EvC.drawn (p := [⟨0, false, 0, 0⟩, ⟨1, false, 0, 0⟩, ⟨2, false, 0, 0⟩, ⟨3, false, 0, 0⟩, ⟨4, false, 0, 0⟩, ⟨5, false, 0, 0⟩, ⟨6, false, 0, 0⟩, ⟨7, false, 0, 0⟩, ⟨8, false, 0, 0⟩, ⟨9, false, 0, 0⟩]) rfl (by kernel_rfl) (by kernel_rfl) rfl ?_
              repeat (first | refine at_normal ?_ | refine EvR.nil ?_ | refine EvR.plain rfl rfl rfl rfl rfl rfl rfl ?_ | refine EvR.plain rfl rfl rfl rfl rfl rfl (by assumption) ?_ | refine EvR.cons rfl rfl rfl rfl (EvP.sub64 rfl rfl (by omega) ?_))
              by_cases e2 : l.getD (k + q) 0 = l.getD (k + q - 1) 0
              · refine EvC.cond (t := false) (isT (bne_eq_false_iff_eq.2 e2)) (fun e => nomatch e) (fun _ => ?_)
                repeat (first | refine EvO.plain rfl rfl rfl rfl rfl rfl ?_ | refine EvC.region rfl ?_ | refine EvO.nil ?_ | refine at_normal ?_ | refine EvC.skip ?_ | refine be_normal ?_ | refine ro_normal ?_ | refine EvO.cons rfl rfl rfl (EvP.add64 rfl rfl (by omega) ?_))
                exact ⟨l.length - (k + (q + 1)), by omega, zs, j, q + 1, _, A, g1, hzl, by omega, by omega, hj1, by omega, by rw [hT, ← Nat.add_assoc, comp_eq l (by omega) e2], by rw [show k + (q + 1) - 1 = k + q by omega]; exact hd2, rfl, hold ⟨rfl, rfl, rfl, rfl, trivial⟩⟩
              · refine EvC.cond (t := true) (isT (bne_iff_ne.2 e2)) (fun _ => ?_) (fun e => nomatch e)
                clear i2 l2
                have i3 := ai (a := (j : Int)) (by omega) (by omega)
                rw [Int.toNat_natCast] at i3
                repeat (first | refine EvO.plain rfl rfl rfl rfl rfl rfl ?_ | refine EvO.plain rfl rfl rfl rfl rfl (by assumption) ?_ | refine EvC.seq ?_ | refine EvC.region rfl ?_)
                (refine EvO.cons0 rfl rfl (EvP.store1 (u := .int .i64 (l.getD (k + q) 0)) S1 c g1 hc h0 rfl rfl rfl rfl ⟨rfl, rfl⟩ (by simp; omega) (fun h2 A2 S2 g2 _ _ => ?_)))
                have g3 : h2.t.get id = some (.cells ((zs.set j (l.getD (k + q) 0)).map (AV.int .i64) ++ tail) 3 false) := by
                  rw [g2, lset_eq, List.set_append_left _ _ (by simp; omega), List.map_set]
                have hjz : j < zs.length := by omega
                have t1 : (zs.set j (l.getD (k + q) 0)).take (j + 1) = comp l (k + (q + 1)) := by
                  rw [← Nat.add_assoc, comp_ne l (by omega) e2, ← hT]
                  apply List.ext_getElem?
                  intro i
                  rcases Nat.lt_trichotomy i j with hi | hi | hi
                  · rw [List.getElem?_take_of_lt (by omega), List.getElem?_set_ne (by omega), List.getElem?_append_left (by simp; omega), List.getElem?_take_of_lt hi]
                  · subst hi
                    rw [List.getElem?_take_of_lt (by omega), List.getElem?_set_self hjz, List.getElem?_append_right (by rw [List.length_take]; omega), List.length_take, Nat.min_eq_left (by omega), Nat.sub_self]
                    rfl
                  · rw [List.getElem?_eq_none (by simp; omega), List.getElem?_eq_none (by simp; omega)]
                have t2 : (zs.set j (l.getD (k + q) 0)).drop (k + (q + 1) - 1) = l.drop (k + (q + 1) - 1) := by
                  rw [show k + (q + 1) - 1 = k + q by omega, List.drop_set_of_lt (by omega), hd2]
                clear i1 i3 l1
                repeat (first | refine EvO.plain rfl rfl rfl rfl rfl rfl ?_ | refine EvC.region rfl ?_ | refine EvO.nil ?_ | refine at_normal ?_ | refine be_normal ?_ | refine ro_normal ?_ | refine EvO.cons rfl rfl rfl (EvP.add64 rfl rfl (by omega) ?_))
                exact ⟨l.length - (k + (q + 1)), by omega, zs.set j (l.getD (k + q) 0), j + 1, q + 1, _, A.trans A2, g3, by simp [hzl], by omega, by omega, by omega, by omega, t1, t2, rfl, hold ⟨rfl, rfl, rfl, rfl, trivial⟩⟩
            · have hkq : k + q = l.length := by omega
              have hjl : j < l.length := by omega
              rw [hkq] at hT
              have hx1 : ex = true → l.length ≤ cap ∧ (zs.map (AV.int .i64) ++ tail).length = cap * 1 := fun e => by
                have := hx e
                simp only [List.length_append, List.length_map] at *
                omega
              obtain ⟨cap2, s2⟩ := cut_from (gt := gt) g1 hx1 (by simp; omega) hjl
              repeat (first | refine EvO.plain rfl rfl rfl rfl rfl rfl ?_ | refine EvO.plain rfl rfl rfl rfl rfl (by assumption) ?_ | refine EvC.seq ?_ | refine EvC.region rfl ?_ | refine at_normal ?_ | refine EvC.exit ?_ | refine at_exit ?_ | refine be_same rfl ?_ | refine ro_exit ?_)
              (refine EvO.cons0 rfl rfl (EvP.clearC S1 g1 hc h0 rfl rfl rfl rfl (by simp; omega) (fun h2 A2 S2 g2 => ?_)))
              have e3 : zs.map (AV.int .i64) ++ tail = (comp l l.length).map (AV.int .i64) ++ ((zs.drop j).map (AV.int .i64) ++ tail) := by
                rw [← hT, ← List.append_assoc, ← List.map_append, List.take_append_drop]
              have hj : ((comp l l.length).map (AV.int .i64)).length = j := by rw [← hT]; simp; omega
              have hjc : (comp l l.length).length = j := by simpa using hj
              have hrl : (rep (l.length - j) [AV.int .i64 0]).length = l.length - j := by rw [rep_one]; simp
              have e4 := lsetMany_append ((comp l l.length).map (AV.int .i64)) ((zs.drop j).map (AV.int .i64) ++ tail) (rep (l.length - j) [AV.int .i64 0]) (by rw [hrl]; simp; omega)
              rw [hj, ← e3, List.append_assoc] at e4
              generalize hrest : rep (l.length - j) [AV.int .i64 0] ++ ((zs.drop j).map (AV.int .i64) ++ tail).drop (rep (l.length - j) [AV.int .i64 0]).length = rest at e4
              have hlen2 : ((comp l l.length).map (AV.int .i64) ++ rest).length = (zs.map (AV.int .i64) ++ tail).length := by rw [← e4, lsetMany_length]
              rw [e4] at g2
              obtain ⟨cap3, s3, hx3⟩ := cut_to (gt := gt) g2 (fun e => by rw [hlen2]; exact hx1 e) (by rw [hlen2]; simp; omega) (show j ≤ l.length by omega)
              clear s2
              repeat (first | refine EvO.plain rfl rfl rfl rfl rfl rfl ?_ | refine EvO.plain rfl rfl rfl rfl rfl (by assumption) ?_ | refine EvC.seq ?_ | refine EvC.region rfl ?_ | refine EvO.nil ?_ | refine at_normal ?_ | refine EvC.ret ?_ | refine at_ret ?_ | refine be_ret ?_ | refine ro_ret ?_)
              (refine ret_is (v := .slice id 0 j cap3 ex) rfl rfl ?_)
              refine ⟨A.trans A2, ?_⟩
              rw [hjc]
              exact .mk g2 hc (by rw [hj]; omega) hx3
        · refine EvC.cond (t := false) (isT (beq_false e)) (fun e => nomatch e) (fun _ => ?_)
          clear i1 i2 l1 l2
          repeat (first | refine EvO.plain rfl rfl rfl rfl rfl rfl ?_ | refine EvC.region rfl ?_ | refine EvO.nil ?_ | refine at_normal ?_ | refine EvC.skip ?_ | refine be_normal ?_ | refine ro_normal ?_ | refine EvO.cons rfl rfl rfl (EvP.add64 rfl rfl (by omega) ?_))
          exact ⟨l.length - (k + 1), by omega, rfl, k + 1, _, by omega, by omega, by rw [comp_ne l hk1 e, hD, take_next hlt], rfl, hold ⟨rfl, rfl, trivial⟩⟩
      · obtain rfl : k = l.length := by omega
        repeat (first | refine EvO.plain rfl rfl rfl rfl rfl rfl ?_ | refine EvC.seq ?_ | refine EvC.region rfl ?_ | refine EvO.nil ?_ | refine at_normal ?_ | refine EvC.ret ?_ | refine EvC.exit ?_ | refine at_exit ?_ | refine be_same rfl ?_ | refine ro_exit ?_)
        (refine ret_is (v := .slice id 0 l.length cap ex) rfl rfl ?_)
        rw [hD, List.take_length]
        exact ⟨Step.refl S, V⟩
end Pf
end Go.Proofs.YtfjloafebkjadaaGreatDoor
