/- Lines as they are read. -/
import Derived.Test.YtfjloafebkjadaaGreatDoorPgR
import Derived.Test.YtfjloafebkjadaaGreatDoorPgG
import Derived.Deep.Strs
namespace Go.Proofs.YtfjloafebkjadaaGreatDoor
namespace Pf
open Go Go.AI Go.Proofs
open Go.ChangeShapes Go.WideShapes Go.ChangeAt Go.RowKit
/-- A list of whole numbers, as it is read, of so much bulk. -/
theorem list_read {H : Type} {enc : TypeId × Value → H} {P : Program} {w : World} {B : Nat} {n : Nat} {b : Value} {z : DataW H × List MemPlace} (c3 : P.cellsOf 3 = 1) (h35 : P.underlying 35 = some (.slice 3)) (h3 : P.underlying 3 = some (.int .i64))
    (hB : Rows.uptoBulk z.1 ≤ B) (h : DataW.trod enc P w 0 (fun _ => true) true n 35 [b] = some z) : ∃ l : List Int, IntRow (embH w) (embC w b) l ∧ l.length ≤ B := by
  have hOB := read_row1 h35 c3 h
  obtain ⟨n', f', hr', hf'⟩ := hOB
  have hn' : n' ≤ B := by
    rcases hf' with rfl | ⟨el', sp', h7, h8, _⟩
    · omega
    · rw [h7] at hB
      have := (bulk_slice el' sp').1
      omega
  have hints : ∀ i, i < n' → ∃ z, f' i = .int .i64 z := fun i hi => by
    rcases hf' with rfl | ⟨el', sp', h7, h8, h9⟩
    · omega
    · have hOB := h9 i hi
      obtain ⟨m2, y2, h10, _⟩ := hOB
      have hOB := read_int h3 h10
      obtain ⟨z, hz, _⟩ := hOB
      exact ⟨z, hz⟩
  refine ⟨(List.range n').map fun i => match f' i with | .int _ z => z | _ => 0, ?_, by simpa using hn'⟩
  have hlen : ((List.range n').map fun i => match f' i with | .int _ z => z | _ => 0).length = n' := by simp
  unfold IntRow
  rw [hlen]
  refine hr'.congr fun i hi => ?_
  have hOB := hints i hi
  obtain ⟨z, hz⟩ := hOB
  rw [List.getD_eq_getElem?_getD, List.getElem?_map, List.getElem?_range hi, hz]
  simp only [Option.map_some, Option.getD_some, hz]
  rfl
/-- Lines. -/
theorem lines_read {H : Type} {enc : TypeId × Value → H} {P : Program} {w : World} {f0 f1 f2 : Field} {fuel : Nat} {v : Value} {x : DataW H × List MemPlace} (h40 : P.underlying 40 = some (.slice 43)) (h43 : P.underlying 43 = some (.struct #[f0, f1, f2])) (c43 : P.cellsOf 43 = 3)
    (o0 : f0.offset = 0 ∧ P.cellsOf f0.type = 1 ∧ P.underlying f0.type = some (.int .i64)) (o1 : f1.offset = 1 ∧ P.cellsOf f1.type = 1 ∧ P.underlying f1.type = some (.int .i64)) (o2 : f2.offset = 2 ∧ P.cellsOf f2.type = 1 ∧ P.underlying f2.type = some (.int .i64))
    (h : DataW.trod enc P w 0 (fun _ => true) true fuel 40 [v] = some x) : ∃ ls, LinesAt (embH w) (embC w v) ls ∧ ∀ y ∈ ls, -9223372036854775808 ≤ y.2.2 ∧ y.2.2 ≤ 9223372036854775807 := by
  have hOB := DataW.trod_slice h40 h
  rcases hOB with h0 | ⟨a, len, cap, elems, rest, m, _, h0, rfl, hb, hl, hm, hlen, hel, _⟩
  · obtain ⟨h0, rfl⟩ := h0
    cases h0
    exact ⟨[], .nil, fun y hy => nomatch hy⟩
  · cases h0
    by_cases h0 : len = 0
    · subst h0
      exact ⟨[], .empty, fun y hy => nomatch hy⟩
    · have each : ∀ i, i < len → ∃ p q r : Int, (∀ j, j < 3 → w.cell? ((a.add (i * 3)).add j) = ([.int .i64 p, .int .i64 q, .int .i64 r] : List Value)[j]?) ∧ -9223372036854775808 ≤ r ∧ r ≤ 9223372036854775807 := by
        intro i hi
        have h1 := hel i hi
        rw [c43] at h1
        have h2 : elems[i]? = some elems[i] := List.getElem?_eq_getElem (by omega)
        rw [h2, Option.bind_eq_some_iff] at h1
        obtain ⟨cs, h3, h4⟩ := h1
        have hcs : cs.length = 3 ∧ ∀ j, j < 3 → w.cell? ((a.add (i * 3)).add j) = cs[j]? := by
          unfold World.cells? at h3
          rw [if_pos (Nat.zero_le _)] at h3
          refine ⟨by simpa using mapM_some_length h3, fun j hj => ?_⟩
          exact mapM_some_get h3 j j (by simp [hj])
        have hOB := Go.Deep.trod_struct3 h43 h4
        obtain ⟨y0, y1, y2, n, hx, hl3, t0, t1, t2⟩ := hOB
        obtain ⟨hcl, hce⟩ := hcs
        match cs, hcl with
        | [c0, c1, c2], _ =>
          rw [o0.1, o0.2.1] at t0
          rw [o1.1, o1.2.1] at t1
          rw [o2.1, o2.2.1] at t2
          have t0 : DataW.trod enc P w 0 (fun _ => true) true n f0.type [c0] = some y0 := t0
          have t1 : DataW.trod enc P w 0 (fun _ => true) true n f1.type [c1] = some y1 := t1
          have t2 : DataW.trod enc P w 0 (fun _ => true) true n f2.type [c2] = some y2 := t2
          have hOB := read_int o0.2.2 t0
          obtain ⟨p, rfl, _⟩ := hOB
          have hOB := read_int o1.2.2 t1
          obtain ⟨q, rfl, _⟩ := hOB
          have hOB := read_int o2.2.2 t2
          obtain ⟨r, rfl, hr⟩ := hOB
          have hr := bounds_i64 hr
          exact ⟨p, q, r, hce, hr.1, hr.2⟩
      have hOB := each 0 (by omega)
      obtain ⟨p0, q0, r0, h1, _⟩ := hOB
      have h1 := h1 0 (by omega)
      have ha0 : (a.add (0 * 3)).add 0 = a := by simp [Addr.add]
      rw [ha0] at h1
      obtain ⟨b, off, spot⟩ := a
      have hrow : ∃ c e' fz, w.heap[b]? = some (.cells c e' fz) ∧ spot = none := by
        unfold World.cell? at h1
        dsimp only at h1
        split at h1
        · rename_i c e' fz hh
          split at h1
          · cases h1
          · rename_i hs
            exact ⟨c, e', fz, hh, by simpa using hs⟩
        · cases h1
      obtain ⟨c, e', fz, hh, rfl⟩ := hrow
      have each2 : ∀ i : Nat, ∃ y : Int × Int × Int, i < len → (c[off + i * 3]? = some (.int .i64 y.1) ∧ c[off + i * 3 + 1]? = some (.int .i64 y.2.1) ∧ c[off + i * 3 + 2]? = some (.int .i64 y.2.2)) ∧ -9223372036854775808 ≤ y.2.2 ∧ y.2.2 ≤ 9223372036854775807 := fun i => by
        by_cases hi : i < len
        · have hOB := each i hi
          obtain ⟨p, q, r, k1, k2, k3⟩ := hOB
          have g0 := k1 0 (by omega)
          have g1 := k1 1 (by omega)
          have g2 := k1 2 (by omega)
          rw [add_none, add_none, cell_block hh] at g0 g1 g2
          exact ⟨(p, q, r), fun _ => ⟨⟨g0, g1, g2⟩, k2, k3⟩⟩
        · exact ⟨ln0, fun h => absurd h hi⟩
      have hget : ∀ i, i < len → ((List.range len).map fun i => Classical.choose (each2 i)).getD i ln0 = Classical.choose (each2 i) := fun i hi => by
        rw [List.getD_eq_getElem?_getD, List.getElem?_map, List.getElem?_range hi]; rfl
      have hL : ((List.range len).map fun i => Classical.choose (each2 i)).length = len := by simp
      refine ⟨(List.range len).map fun i => Classical.choose (each2 i), ?_, fun y hy => ?_⟩
      · unfold LinesAt
        rw [hL, embC_slice h0 hh]
        refine .mk (cs := c.toList.map (embC w)) (by unfold cellsOf; rw [embH_get, hh]; rfl) fun i hi => ?_
        rw [hget i hi]
        have hOB := Classical.choose_spec (each2 i) hi
        obtain ⟨⟨g0, g1, g2⟩, _⟩ := hOB
        generalize Classical.choose (each2 i) = y at *
        have hlt := (Array.getElem?_eq_some_iff.1 g2).1
        unfold sub
        rw [if_pos (by simp; omega)]
        congr 1
        apply List.ext_getElem?
        intro j
        rcases j with _ | _ | _ | j
        · rw [List.getElem?_take_of_lt (by omega), List.getElem?_drop, List.getElem?_map, Array.getElem?_toList, Nat.add_zero, g0]; rfl
        · rw [List.getElem?_take_of_lt (by omega), List.getElem?_drop, List.getElem?_map, Array.getElem?_toList, g1]; rfl
        · rw [List.getElem?_take_of_lt (by omega), List.getElem?_drop, List.getElem?_map, Array.getElem?_toList, g2]; rfl
        · rw [List.getElem?_eq_none (by simp; omega), List.getElem?_eq_none (by simp)]
      · have hOB := List.mem_map.1 hy
        obtain ⟨i, hi, rfl⟩ := hOB
        exact (Classical.choose_spec (each2 i) (List.mem_range.1 hi)).2
end Pf
end Go.Proofs.YtfjloafebkjadaaGreatDoor
