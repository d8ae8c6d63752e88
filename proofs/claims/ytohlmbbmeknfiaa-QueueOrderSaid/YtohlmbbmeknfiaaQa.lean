/- A queue of one's own; which item comes before which. -/
import Derived.Test.YtohlmbbmeknfiaaQRules
import Derived.Test.YtohlmbbmeknfiaaTabs
import Derived.Test.YtohlmbbmeknfiaaSort
import Derived.Test.YtohlmbbmeknfiaaAIAuto
namespace Go.Proofs.Ytohlmbbmeknfiaa
namespace Pf
open Go Go.AI Go.AI.Q Go.Proofs
variable {gt : Tree (List AV)}
def X : Oracle := sort2X 27 28 cfQ (trueX 8)
theorem isT {p q : Bool} (h : p = q) : AV.bool p = .bool q := by rw [h]
theorem keyed_map (k : Int) : keyed (TT gt) 26 (.int .i64 k) = some ((3, .int .i64), .int .i64 0) := rfl
/-- A queue of one's own. -/
structure QAt (G h : AH) (col : Nat → Nat) (p : Nat) (hv mv : AV) (hp : List It) (m : List (Int × AV)) : Prop where
  hs : HS G h col
  obj : h.t.get p = some (.cells [.bool true, hv, mv] 53 false)
  cp : col p = 1
  heap : HV col 2 h 60 hv hp
  map : MapI col 3 h mv m
  pos : Pos hp m
  sml : hp.length ≤ 2 ^ 20
abbrev R3 : Nat → Prop := fun c => c = 1 ∨ c = 2 ∨ c = 3
theorem QAt.other {G G' h h1 : AH} {col col1 : Nat → Nat} {p : Nat} {hv mv : AV} {hp : List It} {m : List (Int × AV)} {R : Nat → Prop} (q : QAt G h col p hv mv hp m) (A : Step R col h col1 h1) (hR : ∀ c, R c → 3 < c) (hs1 : HS G' h1 col1) : QAt G' h1 col1 p hv mv hp m where
  hs := hs1
  obj := (A.get q.hs.wf q.obj (by rw [q.cp]; exact fun e => absurd (hR _ e) (by decide))).1
  cp := (A.get q.hs.wf q.obj (by rw [q.cp]; exact fun e => absurd (hR _ e) (by decide))).2.trans q.cp
  heap := q.heap.step A q.hs.wf (fun e => absurd (hR _ e) (by decide))
  map := q.map.step A q.hs.wf (fun e => absurd (hR _ e) (by decide))
  pos := q.pos
  sml := q.sml
theorem QAt.fld {G h : AH} {col : Nat → Nat} {p : Nat} {hv mv : AV} {hp : List It} {m : List (Int × AV)} (q : QAt G h col p hv mv hp m) {t : TypeId} {i : TInfo} {off : Nat} {v : AV} (hi : (TT gt).tt.get t = some i) (ha : i.isAgg = false) (hv : lget [.bool true, hv, mv] off = some v) : aload (TT gt) h t (.ptr p off) = some v := load1 q.obj hi ha hv
theorem no_spec {G h : AH} {col : Nat → Nat} {p : Nat} {hv mv : AV} {hp : List It} {m : List (Int × AV)} (q : QAt G h col p hv mv hp m) : EvF (TT gt) X 25 [.ptr p 0] h (fun r h' => h' = h ∧ r = .bool false) := by
  have f := q.fld (gt := gt) (t := 4) (off := 0) rfl rfl rfl
  refine EvF.enter rfl rfl rfl ?_
  repeat (first | refine EvO.plain rfl rfl rfl rfl rfl rfl ?_ | refine EvC.seq ?_ | refine EvC.region rfl ?_ | refine EvO.nil ?_ | refine at_normal ?_)
  refine EvO.cons rfl rfl rfl (EvP.quiet rfl (isB (q := false) rfl) ?_)
  repeat (first | refine EvO.plain rfl rfl rfl rfl rfl rfl ?_ | refine EvO.nil ?_ | refine at_normal ?_ | refine EvC.ret ?_ | refine EvO.plainOn rfl rfl rfl rfl rfl rfl ?_ | refine EvO.plainOn rfl rfl rfl rfl rfl (by assumption) ?_)
  (refine ret_is (v := .bool false) rfl rfl ?_)
  exact ⟨rfl, rfl⟩
theorem before_spec {G h : AH} {col : Nat → Nat} (S : HS G h col) (a b : It) : EvF (TT gt) X 29 [.agg (itC a), .agg (itC b)] h (fun r h' => r = .bool (decide (lt a b)) ∧ Step (fun _ => False) col h col h' ∧ HS G h' col) := by
  refine EvF.enter rfl rfl rfl ?_
  repeat (first | refine EvC.seq ?_ | refine EvC.region rfl ?_)
  (refine EvO.cons rfl rfl rfl (EvP.newR (b := .cells (itC a) 60 false) (mk := .ptr) S rfl rfl (fun h1 i1 A1 S1 hle1 o1 _ _ => ?_)))
  skip
  (refine EvO.cons rfl rfl rfl (EvP.newR (b := .cells (itC b) 60 false) (mk := .ptr) S1 rfl rfl (fun h2 i2 A2 S2 hle2 o2 _ _ => ?_)))
  have e1 := S2.le _ _ (hle2 _ _ (AH.get_add G i1 (.cells (itC a) 60 false)))
  have f1 := load1 (T := TT gt) (t := 3) (off := 0) e1 rfl rfl rfl
  have f2 := load1 (T := TT gt) (t := 3) (off := 1) e1 rfl rfl rfl
  have f3 := load1 (T := TT gt) (t := 3) (off := 0) o2 rfl rfl rfl
  have f4 := load1 (T := TT gt) (t := 3) (off := 1) o2 rfl rfl rfl
  have S3 := S2.down (AH.le.trans' hle1 hle2)
  have A := A1.trans A2
  clear A1 A2 S1 S2 hle1 hle2 o1 o2 e1
  repeat (first | refine EvO.plain rfl rfl rfl rfl rfl rfl ?_ | refine EvO.plain rfl rfl rfl rfl rfl (by assumption) ?_ | refine EvC.seq ?_ | refine EvC.region rfl ?_ | refine EvO.nil ?_ | refine at_normal ?_)
  (refine EvO.cons rfl rfl rfl (EvP.bool rfl rfl (fun q1 => ?_) (fun q1 => ?_)))
  · have q1 := of_decide_eq_true q1
    repeat (first | refine EvO.plain rfl rfl rfl rfl rfl rfl ?_ | refine EvO.nil ?_ | refine at_normal ?_ | refine EvC.ret ?_ | refine EvO.off rfl rfl rfl ?_)
    (refine ret_is (v := .bool true) rfl rfl ?_)
    exact ⟨(isT (decide_eq_true (.inl q1))).symm, A, S3⟩
  · have q1 := of_decide_eq_false q1
    repeat (first | refine EvO.plain rfl rfl rfl rfl rfl rfl ?_ | refine EvO.plainOn rfl rfl rfl rfl rfl rfl ?_ | refine EvO.plainOn rfl rfl rfl rfl rfl (by assumption) ?_)
    (refine EvO.on rfl rfl rfl (EvP.bool rfl rfl (fun q2 => ?_) (fun q2 => ?_)))
    · have q2 := of_decide_eq_true (p := a.1 = b.1) (by simpa using q2)
      repeat (first | refine EvO.plainOn rfl rfl rfl rfl rfl rfl ?_ | refine EvO.plainOn rfl rfl rfl rfl rfl (by assumption) ?_)
      (refine EvO.on rfl rfl rfl (EvP.bool rfl rfl (fun q3 => ?_) (fun q3 => ?_)))
      · have q3 := of_decide_eq_true q3
        repeat (first | refine EvO.plain rfl rfl rfl rfl rfl rfl ?_ | refine EvO.nil ?_ | refine at_normal ?_ | refine EvC.ret ?_ | refine EvO.plainOn rfl rfl rfl rfl rfl rfl ?_)
        (refine ret_is (v := .bool true) rfl rfl ?_)
        exact ⟨(isT (decide_eq_true (.inr ⟨q2, q3⟩))).symm, A, S3⟩
      · have q3 := of_decide_eq_false q3
        repeat (first | refine EvO.plain rfl rfl rfl rfl rfl rfl ?_ | refine EvO.nil ?_ | refine at_normal ?_ | refine EvC.ret ?_ | refine EvO.plainOn rfl rfl rfl rfl rfl rfl ?_)
        (refine ret_is (v := .bool false) rfl rfl ?_)
        exact ⟨(isT (decide_eq_false (by unfold lt; omega))).symm, A, S3⟩
    · have q2 : ¬ a.1 = b.1 := by simpa using q2
      repeat (first | refine EvO.plain rfl rfl rfl rfl rfl rfl ?_ | refine EvO.nil ?_ | refine at_normal ?_ | refine EvC.ret ?_ | refine EvO.off rfl rfl rfl ?_ | refine EvO.plainOn rfl rfl rfl rfl rfl rfl ?_)
      (refine ret_is (v := .bool false) rfl rfl ?_)
      exact ⟨(isT (decide_eq_false (by unfold lt; omega))).symm, A, S3⟩
end Pf
end Go.Proofs.Ytohlmbbmeknfiaa
