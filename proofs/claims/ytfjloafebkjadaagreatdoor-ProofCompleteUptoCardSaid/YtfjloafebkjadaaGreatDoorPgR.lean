/- The arguments as they are read. -/
import Derived.Test.YtfjloafebkjadaaGreatDoorPf7
import Derived.Test.YtfjloafebkjadaaGreatDoorSort
import Derived.Test.YtfjloafebkjadaaGreatDoorAwake
import Derived.Test.YtfjloafebkjadaaGreatDoorCards
import Derived.Test.YtfjloafebkjadaaGreatDoorTie
import Derived.WalkKit
import Derived.ProofKit
import Derived.OpenShut
import Derived.SevenTiedAt
import Derived.Deep.DeepHandedRow
import Derived.Lib.LaidTab
namespace Go.Proofs.YtfjloafebkjadaaGreatDoor
namespace Pf
open Go Go.AI Go.Proofs
open Go.ChangeShapes Go.WideShapes Go.ChangeAt Go.RowKit
theorem bulk_one {H : Type} (d : DataW H) : 1 ≤ Rows.uptoBulk d := by
  cases d with
  | lit l => cases l <;> simp [Rows.uptoBulk]
  | nil => simp [Rows.uptoBulk]
  | ptr d => simp [Rows.uptoBulk]
  | slice elems spare => simp [Rows.uptoBulk]
  | agg parts => simp [Rows.uptoBulk]
  | iface t d => simp [Rows.uptoBulk]
  | map entries => simp [Rows.uptoBulk]
  | held h => simp [Rows.uptoBulk]
theorem bulk_part {H : Type} {d : DataW H} {l : List (DataW H)} (h : d ∈ l) : Rows.uptoBulk d ≤ Rows.uptoBulkAll l := by
  induction l with
  | nil => cases h
  | cons x r ih =>
    simp only [Rows.uptoBulkAll]
    cases List.mem_cons.1 h with
    | inl e => subst e; omega
    | inr e => have := ih e; omega
theorem bulk_len {H : Type} (l : List (DataW H)) : l.length ≤ Rows.uptoBulkAll l := by
  induction l with
  | nil => simp [Rows.uptoBulkAll]
  | cons x r ih => have := bulk_one x; simp only [Rows.uptoBulkAll, List.length_cons]; omega
theorem bulk_slice {H : Type} (elems spare : List (DataW H)) : elems.length + 1 ≤ Rows.uptoBulk (.slice elems spare) ∧ Rows.uptoBulkAll elems + 1 ≤ Rows.uptoBulk (.slice elems spare) := by
  have h1 := bulk_len elems
  simp only [Rows.uptoBulk]
  omega
theorem total_bound {B : Nat} : ∀ (L : List (List Int)), (∀ l ∈ L, l.length ≤ B) → total L ≤ L.length * B
  | [], _ => by simp [total]
  | l :: L, h => by
    have h1 := total_bound L (fun x hx => h x (List.mem_cons_of_mem _ hx))
    have h2 := h l (List.mem_cons_self ..)
    simp only [total, List.map_cons, List.sum_cons, List.length_cons] at *
    rw [Nat.succ_mul]; omega
/-- Lists of whole numbers, as they are read, of so much bulk. -/
theorem lists_read {H : Type} {enc : TypeId × Value → H} {P : Program} {w : World} {B : Nat} {n : Nat} {b : Value} {y : DataW H × List MemPlace} (h22 : P.underlying 22 = some (.slice 35)) (c35 : P.cellsOf 35 = 1) (h35 : P.underlying 35 = some (.slice 3)) (h3 : P.underlying 3 = some (.int .i64)) (c3 : P.cellsOf 3 = 1)
    (hB : Rows.uptoBulk y.1 ≤ B) (hB2 : B ≤ 2 ^ 40) (h : DataW.trod enc P w 0 (fun _ => true) true n 22 [b] = some y) (vars : Int) : ∃ L cv, CnfAt (embH w) vars (embC w b) L cv ∧ L.length ≤ B ∧ ∀ l ∈ L, l.length ≤ B := by
  have hOB := read_row1 h22 c35 h
  obtain ⟨k, f, hr, hf⟩ := hOB
  have hk : k ≤ B := by
    rcases hf with rfl | ⟨el, sp, h1', h2, _⟩
    · omega
    · rw [h1'] at hB
      have := (bulk_slice el sp).1
      omega
  have each : ∀ i, ∃ l : List Int, i < k → (l.length ≤ B ∧ IntRow (embH w) (embC w (f i)) l) := fun i => by
    by_cases hi : i < k
    · rcases hf with rfl | ⟨el, sp, h1', h2, h3'⟩
      · omega
      · rw [h1'] at hB
        have hOB := h3' i hi
        obtain ⟨m', z, h5, h6⟩ := hOB
        have hz : Rows.uptoBulk z.1 ≤ B := by have := bulk_part h6; have := (bulk_slice el sp).2; omega
        have hOB := read_row1 h35 c3 h5
        obtain ⟨n', f', hr', hf'⟩ := hOB
        have hn' : n' ≤ B := by
          rcases hf' with rfl | ⟨el', sp', h7, h8, _⟩
          · omega
          · rw [h7] at hz
            have := (bulk_slice el' sp').1
            omega
        have hints : ∀ i, i < n' → ∃ z, f' i = .int .i64 z := fun i hi => by
          rcases hf' with rfl | ⟨el', sp', h7, h8, h9⟩
          · omega
          · have hOB := h9 i hi
            obtain ⟨m2, y2, h10, _⟩ := hOB
            have hOB := read_int h3 h10
            obtain ⟨z, hz, _⟩ := hOB
            exact ⟨z, hz⟩
        refine ⟨(List.range n').map fun i => match f' i with | .int _ z => z | _ => 0, fun _ => ⟨by simpa using hn', ?_⟩⟩
        have hlen : ((List.range n').map fun i => match f' i with | .int _ z => z | _ => 0).length = n' := by simp
        unfold IntRow
        rw [hlen]
        refine hr'.congr fun i hi => ?_
        have hOB := hints i hi
        obtain ⟨z, hz⟩ := hOB
        rw [List.getD_eq_getElem?_getD, List.getElem?_map, List.getElem?_range hi, hz]
        simp only [Option.map_some, Option.getD_some, hz]
        rfl
    · exact ⟨[], fun h => absurd h hi⟩
  refine ⟨(List.range k).map fun i => Classical.choose (each i), fun i => embC w (f i), ?_, by simpa using hk, fun l hl => ?_⟩
  · have hget : ∀ i, i < k → ((List.range k).map fun i => Classical.choose (each i)).getD i [] = Classical.choose (each i) := fun i hi => by
      rw [List.getD_eq_getElem?_getD, List.getElem?_map, List.getElem?_range hi]; rfl
    have hlen : ((List.range k).map fun i => Classical.choose (each i)).length = k := by simp
    refine ⟨by rw [hlen]; exact hr, fun i hi => ?_, fun l hl => ?_, by rw [hlen]; omega⟩
    · rw [hlen] at hi
      rw [hget i hi]
      exact (Classical.choose_spec (each i) hi).2
    · have hOB := List.mem_map.1 hl
      obtain ⟨i, hi, rfl⟩ := hOB
      have := (Classical.choose_spec (each i) (List.mem_range.1 hi)).1
      omega
  · have hOB := List.mem_map.1 hl
    obtain ⟨i, hi, rfl⟩ := hOB
    exact (Classical.choose_spec (each i) (List.mem_range.1 hi)).1
/-- A slice's value is one cell. -/
theorem slice_one {H : Type} {enc : TypeId × Value → H} {P : Program} {w : World} {t e : TypeId} {fuel : Nat} {v : Value} {x : DataW H × List MemPlace} (ht : P.underlying t = some (.slice e)) {W : World} {base : Nat} (hok : Value.okWide P W .any base t v)
    (h : DataW.trod enc P w 0 (fun _ => true) true fuel t v.cells.toList = some x) : v.cells.toList = [v] ∧ emb w v = embC w v := by
  have hOB := DataW.trod_slice ht h
  rcases hOB with ⟨h0, _⟩ | ⟨a, len, cap, _, _, _, _, h0, _⟩
  all_goals
    cases v
    case agg cs =>
      exfalso
      simp [Value.okWide, ht, Cell.okWide, Cell.ok] at hok
    all_goals first | exact ⟨rfl, rfl⟩ | skip
/-- A set of clauses. -/
theorem set_read {H : Type} {enc : TypeId × Value → H} {P : Program} {w : World} {f0 f1 : Field} {m B : Nat} {v : Value} {x : DataW H × List MemPlace} (ht : P.underlying 24 = some (.struct #[f0, f1])) (hsz : P.cellsOf 24 = 2)
    (h0 : f0.offset = 0 ∧ P.cellsOf f0.type = 1 ∧ P.underlying f0.type = some (.int .i64)) (h1 : f1.offset = 1 ∧ P.cellsOf f1.type = 1 ∧ f1.type = 22) (h22 : P.underlying 22 = some (.slice 35)) (c35 : P.cellsOf 35 = 1) (h35 : P.underlying 35 = some (.slice 3)) (h3 : P.underlying 3 = some (.int .i64)) (c3 : P.cellsOf 3 = 1)
    (hB : Rows.uptoBulk x.1 ≤ B) (hB2 : B ≤ 2 ^ 40) (h : DataW.trod enc P w 0 (fun _ => true) true m 24 v.cells.toList = some x) : ∃ vars cl L cv, emb w v = .agg [.int .i64 vars, cl] ∧ CnfAt (embH w) vars cl L cv ∧ L.length ≤ B ∧ (∀ l ∈ L, l.length ≤ B) ∧ NZ cl := by
  have hOB := Go.ChangeShapes.trod_struct2 ht h
  obtain ⟨y0, y1, n, rfl, hl, t0, t1⟩ := hOB
  rw [hsz] at hl
  have hv : ∃ a b, v = .agg ⟨[a, b]⟩ := by
    cases v
    case agg cs =>
      obtain ⟨cs⟩ := cs
      match cs, hl with
      | [a, b], _ => exact ⟨a, b, rfl⟩
    all_goals simp [Value.cells] at hl
  obtain ⟨a, b, rfl⟩ := hv
  rw [h0.1, h0.2.1] at t0
  rw [h1.1, h1.2.1, h1.2.2] at t1
  have t0 : DataW.trod enc P w 0 (fun _ => true) true n f0.type [a] = some y0 := t0
  have t1 : DataW.trod enc P w 0 (fun _ => true) true n 22 [b] = some y1 := t1
  have hOB := read_int h0.2.2 t0
  obtain ⟨vars, rfl, _⟩ := hOB
  have hB1 : Rows.uptoBulk y1.1 ≤ B := by
    simp only [Rows.uptoBulk, Rows.uptoBulkAll] at hB
    omega
  have hOB := lists_read h22 c35 h35 h3 c3 hB1 hB2 t1 vars
  obtain ⟨L, cv, C, h5, h6⟩ := hOB
  exact ⟨vars, embC w b, L, cv, rfl, C, h5, h6, nz_emb w b⟩
/-- All that the seat's laws lean on, sorting too. -/
theorem oracle27 (W : World) : OracleOk Tryz.prog (mkTab Tryz.prog gt) X W := sortX_ok sorter27 (trueX_ok Tryz.checked.mixed aw W)
end Pf
end Go.Proofs.YtfjloafebkjadaaGreatDoor
