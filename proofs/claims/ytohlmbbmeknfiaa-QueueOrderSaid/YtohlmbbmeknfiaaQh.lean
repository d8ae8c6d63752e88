/- Pairs as they are read; the laws' oracle. -/
import Derived.Test.YtohlmbbmeknfiaaQg
import Derived.Test.YtohlmbbmeknfiaaAIEmb
import Derived.Test.YtohlmbbmeknfiaaAIFrame
import Derived.Test.YtohlmbbmeknfiaaRows
namespace Go.Proofs.Ytohlmbbmeknfiaa
namespace Pf
open Go Go.AI Go.AI.Q Go.Proofs
open Go.ChangeShapes Go.WideShapes Go.ChangeAt Go.RowKit
theorem slice_one {H : Type} {enc : TypeId × Value → H} {P : Program} {w : World} {t e : TypeId} {fuel : Nat} {v : Value} {x : DataW H × List MemPlace} (ht : P.underlying t = some (.slice e)) {W : World} {base : Nat} (hok : Value.okWide P W .any base t v)
    (h : DataW.trod enc P w 0 (fun _ => true) true fuel t v.cells.toList = some x) : v.cells.toList = [v] ∧ emb w v = embC w v := by
  have hOB := DataW.trod_slice ht h
  rcases hOB with ⟨h0, _⟩ | ⟨a, len, cap, _, _, _, _, h0, _⟩
  all_goals
    cases v
    case agg cs =>
      exfalso
      simp [Value.okWide, ht, Cell.okWide, Cell.ok] at hok
    all_goals first | exact ⟨rfl, rfl⟩ | skip
/-- Pairs. -/
theorem pairs_read {H : Type} {enc : TypeId × Value → H} {P : Program} {w : World} {fuel : Nat} {v : Value} {x : DataW H × List MemPlace} (h22 : P.underlying 22 = some (.slice 27)) (h27 : P.underlying 27 = some (.array 2 3)) (c27 : P.cellsOf 27 = 2) (c3 : P.cellsOf 3 = 1) (h3 : P.underlying 3 = some (.int .i64))
    (h : DataW.trod enc P w 0 (fun _ => true) true fuel 22 [v] = some x) : ∃ l, PairsAt (embH w) (embC w v) l := by
  have hOB := DataW.trod_slice h22 h
  rcases hOB with h0 | ⟨a, len, cap, elems, rest, m, _, h0, rfl, hb, hl, hm, hlen, hel, _⟩
  · obtain ⟨h0, rfl⟩ := h0
    cases h0
    exact ⟨[], .nil⟩
  · cases h0
    by_cases h0 : len = 0
    · subst h0
      exact ⟨[], .empty⟩
    · have each : ∀ i, i < len → ∃ p q : Int, ∀ j, j < 2 → w.cell? ((a.add (i * 2)).add j) = ([.int .i64 p, .int .i64 q] : List Value)[j]? := by
        intro i hi
        have h1 := hel i hi
        rw [c27] at h1
        have h2 : elems[i]? = some elems[i] := List.getElem?_eq_getElem (by omega)
        rw [h2, Option.bind_eq_some_iff] at h1
        obtain ⟨cs, h3', h4⟩ := h1
        have hcs : cs.length = 2 ∧ ∀ j, j < 2 → w.cell? ((a.add (i * 2)).add j) = cs[j]? := by
          unfold World.cells? at h3'
          rw [if_pos (Nat.zero_le _)] at h3'
          refine ⟨by simpa using mapM_some_length h3', fun j hj => ?_⟩
          exact mapM_some_get h3' j j (by simp [hj])
        have hOB := DataW.trod_array h27 h4
        obtain ⟨xs, k, _, _, _, hxl, hel2⟩ := hOB
        obtain ⟨hcl, hce⟩ := hcs
        have e0 := hel2 0 (by decide)
        have e1 := hel2 1 (by decide)
        rw [c3] at e0 e1
        match cs, hcl, xs, hxl with
        | [c0, c1], _, [y0, y1], _ =>
          have e0 : DataW.trod enc P w 0 (fun _ => true) true k 3 [c0] = some y0 := e0
          have e1 : DataW.trod enc P w 0 (fun _ => true) true k 3 [c1] = some y1 := e1
          have hOB := read_int h3 e0
          obtain ⟨p, rfl, _⟩ := hOB
          have hOB := read_int h3 e1
          obtain ⟨q, rfl, _⟩ := hOB
          exact ⟨p, q, hce⟩
      have hOB := each 0 (by omega)
      obtain ⟨p0, q0, h1⟩ := hOB
      have h1 := h1 0 (by omega)
      have ha0 : (a.add (0 * 2)).add 0 = a := by simp [Addr.add]
      rw [ha0] at h1
      obtain ⟨b, off, spot⟩ := a
      have hrow : ∃ c e' fz, w.heap[b]? = some (.cells c e' fz) ∧ spot = none := by
        unfold World.cell? at h1
        dsimp only at h1
        split at h1
        · rename_i c e' fz hh
          split at h1
          · cases h1
          · rename_i hs
            exact ⟨c, e', fz, hh, by simpa using hs⟩
        · cases h1
      obtain ⟨c, e', fz, hh, rfl⟩ := hrow
      have each2 : ∀ i : Nat, ∃ y : It, i < len → (c[off + i * 2]? = some (.int .i64 y.1) ∧ c[off + i * 2 + 1]? = some (.int .i64 y.2)) := fun i => by
        by_cases hi : i < len
        · have hOB := each i hi
          obtain ⟨p, q, k1⟩ := hOB
          have g0 := k1 0 (by omega)
          have g1 := k1 1 (by omega)
          rw [add_none, add_none, cell_block hh] at g0 g1
          exact ⟨(p, q), fun _ => ⟨g0, g1⟩⟩
        · exact ⟨z, fun h => absurd h hi⟩
      have hget : ∀ i, i < len → at' ((List.range len).map fun i => Classical.choose (each2 i)) i = Classical.choose (each2 i) := fun i hi => by
        unfold at'
        rw [List.getD_eq_getElem?_getD, List.getElem?_map, List.getElem?_range hi]; rfl
      have hL : ((List.range len).map fun i => Classical.choose (each2 i)).length = len := by simp
      refine ⟨(List.range len).map fun i => Classical.choose (each2 i), ?_⟩
      unfold PairsAt
      rw [hL, embC_slice h0 hh]
      refine .mk (cs := c.toList.map (embC w)) (by unfold cellsOf; rw [embH_get, hh]; rfl) fun i hi => ?_
      rw [hget i hi]
      have hOB := Classical.choose_spec (each2 i) hi
      obtain ⟨g0, g1⟩ := hOB
      generalize Classical.choose (each2 i) = y at *
      have hlt := (Array.getElem?_eq_some_iff.1 g1).1
      unfold sub
      rw [if_pos (by simp; omega)]
      congr 1
      apply List.ext_getElem?
      intro j
      rcases j with _ | _ | j
      · rw [List.getElem?_take_of_lt (by omega), List.getElem?_drop, List.getElem?_map, Array.getElem?_toList, Nat.add_zero, g0]; rfl
      · rw [List.getElem?_take_of_lt (by omega), List.getElem?_drop, List.getElem?_map, Array.getElem?_toList, g1]; rfl
      · rw [List.getElem?_eq_none (by simp; omega), List.getElem?_eq_none (by simp [itC])]
end Pf
namespace queueAll
open Go Go.AI Go.AI.Q Go.Proofs Pf
open Go.ChangeShapes Go.WideShapes Go.ChangeAt Go.RowKit
theorem own : ownKnob Try.prog.godebug = none := by kernel_rfl
theorem awake : isTrue (acall (mkTab Try.prog .leaf) noOracle 100000 8 [] ⟨.leaf, 0⟩) = true := by kernel_rfl
theorem oracle16 (w0 : World) : OracleOk Try.prog (mkTab Try.prog .leaf) X w0 := sort2X_ok sorter16 (trueX_ok Try.checked.mixed awake w0)
theorem no_glob (W : World) : GlobOk (mkTab Try.prog .leaf) W := fun g cs h => by
  have h : (Tree.leaf : Tree (List AV)).get g = some cs := h
  rw [Tree.get_leaf] at h; cases h
set_option maxRecDepth 100000 in
theorem lifted (os : Os) (started : os.Started) (H : Type) (enc : TypeId × Value → H) :
    ReturnsInHanded {} Try.checked os 3 .any (Rows.queueAllSpec.pre6 enc Try.prog Try.f3 Rows.queueAllRow.domain false) (Rows.queueAllSpec.post enc Try.prog Try.f3 false true false false) := by
  refine returnsInHanded_of_change (C := Try.checked) own started (by kernel_rfl) Try.func3
    (ChangeSpec.witness6 (enc := enc) (C := Try.checked) false ⟨#[], #[.slice none 0 0], []⟩ 8 (by kernel_rfl) (by kernel_rfl) (by kernel_rfl) (by kernel_rfl)) ?_
  intro W base args ds gs before hval0 hW hcnd _
  have hval : ∀ (j : Nat) t v, Try.f3.params[j]? = some t → args[j]? = some v → Value.okWide Try.prog W .any base t v := hval0
  have hW' : DataW.Whole enc Try.prog Try.f3.params.toList Rows.queueAllSpec.vars false W args.toList ds gs before := hW
  obtain ⟨p, q, hA0, hV, hpq, hfz, hnd⟩ := hW
  have hA : DataW.TrodAll enc Try.prog W 0 (fun _ => true) true Try.f3.params.toList args.toList ds p := hA0
  rw [Try.params3] at hA hval
  have hOB := trodAll_cons hA
  obtain ⟨v0, vs0, d0, ds0, p0, q0, hargs, rfl, rfl, h0, r0⟩ := hOB
  have hOB := trodAll_nil r0
  obtain ⟨rfl, rfl, rfl⟩ := hOB
  have hOB : args = #[v0] := by cases args; simp_all
  obtain rfl := hOB
  obtain ⟨n0, h0⟩ := h0
  have u22 : Try.prog.underlying 22 = some (.slice 27) := by kernel_rfl
  have u27 : Try.prog.underlying 27 = some (.array 2 3) := by kernel_rfl
  have u3 : Try.prog.underlying 3 = some (.int .i64) := by kernel_rfl
  have o0 := slice_one u22 (hval 0 22 v0 rfl rfl) h0
  rw [o0.1] at h0
  have hOB := pairs_read u22 u27 (by kernel_rfl) (by kernel_rfl) u3 h0
  obtain ⟨l, row⟩ := hOB
  have run := all_law (gt := .leaf) (emb_wf W) row
  rw [← o0.2, ← tab_eq] at run
  refine (law_runsX Try.checked.mixed (oracle16 W) (emb_wrel (mkTab Try.prog .leaf) W (no_glob W)) (embs_rel (mkTab Try.prog .leaf) W [v0]) run).mono fun e W' ⟨he, hg⟩ => ⟨_, he, post_law (s := Rows.queueAllSpec) (f := Try.f3) hW' hg (by kernel_rfl) (by kernel_rfl) rfl rfl Try.underlying4 ?_⟩
  intro ds hd
  match ds, hd with
  | [_], _ => rfl
theorem over : Rows.queueAllRow.holds Try.pinned (OpenSpec.ofChange Rows.queueAllSpec) :=
  OpenClaim.holds_of_wide 3 Try.f3 rfl rfl rfl rfl rfl rfl rfl ⟨rfl, rfl, rfl, rfl, rfl⟩ rfl rfl rfl rfl rfl (by kernel_rfl) Try.func3 (by kernel_rfl)
    (of_decide_eq_true (by kernel_rfl)) (by unfold Func.isWrapper; first | (rw [if_pos (by decide +kernel)]; kernel_rfl) | (rw [if_neg (by decide +kernel)]; exact ⟨rfl, rfl⟩))
    (fun os started H enc _ => lifted os started H enc)
theorem proved : Rows.QueueAllSaid :=
  over
end queueAll
end Go.Proofs.Ytohlmbbmeknfiaa
