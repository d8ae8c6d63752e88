import Derived.Test.YtfjloafebkjadaaGreatDoorAIArg
import GoSem.ClaimJoined
import Derived.OpenShut
/- The tables that a row lays, as known variables. -/
namespace Go.AI
theorem laid_get {P : Program} {w : World} : ∀ {l : List (String × DataW Unit)} {ps : List MemPlace}, DataW.LaidVars P w l ps → ∀ n d, (n, d) ∈ l → ∃ g t c fuel p, P.globalNamed n = some g ∧ (P.globals[g]?).map (·.type) = some t ∧ (∃ e fz, w.heap[g]? = some (.cells c e fz)) ∧ DataW.trod (fun _ => ()) P w 0 (fun _ => true) false fuel t c.toList = some (d, p)
  | [], _, _, n, d, h => by cases h
  | (n0, d0) :: r, ps, hl, n, d, h => by
    obtain ⟨g, t, cs, fuel, p, q, h1, h2, h3, h4, h5, _⟩ := hl
    rcases List.mem_cons.1 h with h | h
    · cases h
      refine ⟨g, t, cs, fuel, p, h1, h2, ?_, h4⟩
      unfold World.var? at h3
      rw [h1] at h3
      simp only [Option.bind_some] at h3
      split at h3
      · rename_i c e fz hh; cases h3; exact ⟨e, fz, hh⟩
      · cases h3
    · exact laid_get h5 n d h
theorem laid_ints {P : Program} {w : World} {l : List (String × DataW Unit)} {ps : List MemPlace} (hl : DataW.LaidVars P w l ps) {n : String} {zs : List Int} {g : Nat} {t e : TypeId} {k : IntKind} (hm : (n, DataW.agg (zs.map fun z => DataW.lit (.int k z))) ∈ l)
    (hg : P.globalNamed n = some g) (ht : (P.globals[g]?).map (·.type) = some t) (hu : P.underlying t = some (.array zs.length e)) (he : P.underlying e = some (.int k)) (hc : P.cellsOf e = 1) (hct : P.cellsOf t = zs.length) :
    g < w.heap.size ∧ ∃ (c : Array Value) (e : TypeId) (fz : Nat × Nat), w.heap[g]? = some (.cells c e fz) ∧ (zs.map fun z => AV.int k z).length ≤ c.size ∧ ∀ (i : Nat) (v : AV), (zs.map fun z => AV.int k z)[i]? = some v → ∃ v', c[i]? = some v' ∧ ∀ γ, VRel γ v v' := by
  obtain ⟨g', t', c, fuel, p, h1, h2, ⟨e', fz, h3⟩, h4⟩ := laid_get hl _ _ hm
  rw [hg] at h1; cases h1
  rw [ht] at h2; cases h2
  obtain ⟨xs, m, _, hx, hlen, hxl, hel⟩ := DataW.trod_array hu h4
  rw [hct] at hlen
  have hsz : c.size = zs.length := by simpa using hlen
  have hx1 : (zs.map fun z => (DataW.lit (.int k z) : DataW Unit)) = xs.map (·.1) := by
    have := congrArg Prod.fst hx
    simpa using this
  refine ⟨(Array.getElem?_eq_some_iff.1 h3).1, c, e', fz, h3, by simp [hsz], fun i v hi => ?_⟩
  rw [List.getElem?_map, Option.map_eq_some_iff] at hi
  obtain ⟨z, hz, rfl⟩ := hi
  have hlt : i < zs.length := (List.getElem?_eq_some_iff.1 hz).1
  have h5 := hel i hlt
  rw [hc, Nat.mul_one] at h5
  have hci : c[i]? = some c[i] := Array.getElem?_eq_getElem (by omega)
  have hcut : (c.toList.drop i).take 1 = [c[i]] := by
    rw [List.take_one, List.head?_drop, Array.getElem?_toList, hci]; rfl
  rw [hcut] at h5
  have hxi : (xs.map (·.1))[i]? = some (DataW.lit (.int k z)) := by rw [← hx1, List.getElem?_map, hz]; rfl
  rw [List.getElem?_map, Option.map_eq_some_iff] at hxi
  obtain ⟨y, hy, hy1⟩ := hxi
  rw [hy] at h5
  refine ⟨c[i], hci, fun γ => ?_⟩
  cases m with
  | zero => simp [DataW.trod] at h5
  | succ m =>
    unfold DataW.trod at h5
    rw [he] at h5
    generalize c[i] = u at h5 ⊢
    cases u <;> simp only [reduceCtorEq] at h5
    split at h5
    · rename_i hk
      cases h5
      simp only [DataW.lit.injEq, Lit.int.injEq] at hy1
      rw [hk.1, ← hy1.2]
      exact .int _ _
    · cases h5
end Go.AI
