/- What Resolve answers. -/
import Derived.Test.YtfjloafebkjadaaGreatDoorPgB
import Derived.Test.YtfjloafebkjadaaGreatDoorPf8
namespace Go.Proofs.YtfjloafebkjadaaGreatDoor
namespace Pf
open Go Go.AI Go.Proofs
variable {gt : Tree (List AV)}
/-- What Resolve takes. -/
def fineR (A B : List Int) (v : Int) : Prop := A.length ≤ 1000 ∧ B.length ≤ 1000 ∧ (∀ x ∈ A, ok 50000 x) ∧ (∀ x ∈ B, ok 50000 x) ∧ 1 ≤ v ∧ v ≤ 50000
def ResSays (A B : List Int) (v : Int) (r : AV) (h : AH) : Prop :=
  (¬ fineR A B v ∧ r = .tuple [.nilSlice, .int .i64 2]) ∨ (fineR A B v ∧ (v ∈ A ∧ -v ∈ B) ∧ ∃ w, r = .tuple [w, .int .i64 0] ∧ IntRow h w (resL A B v) ∧ NZ w) ∨ (fineR A B v ∧ ¬ (v ∈ A ∧ -v ∈ B) ∧ r = .tuple [.nilSlice, .int .i64 4])
set_option maxHeartbeats 4000000 in
theorem Resolve_spec {h : AH} (hw : WF h) {a b : AV} {A B : List Int} (ra : IntRow h a A) (rb : IntRow h b B) (ha : A.length ≤ 2 ^ 50) (hb : B.length ≤ 2 ^ 50) (v : Int) (hv : -9223372036854775808 ≤ v ∧ v ≤ 9223372036854775807) :
    EvF (TT gt) X 24 [a, b, .int .i64 v] h (fun r h' => (h.le h' ∧ WF h') ∧ ResSays A B v r h') := by
  have S0 := HS.all hw
  refine EvF.enter rfl rfl rfl ?_
  repeat (first | refine EvO.plain rfl rfl rfl rfl rfl rfl ?_ | refine EvC.seq ?_ | refine EvC.region rfl ?_ | refine EvO.nil ?_ | refine at_normal ?_)
  (refine EvO.cons rfl rfl rfl (EvP.newC (b := .cells [.int .i64 0, .nilSlice] 24 false) (mk := .ptr) S0 1 rfl rfl (by decide) (fun h1 id col1 A1 S1 o1 c1 _ => ?_)))
  skip
  (refine EvO.cons0 rfl rfl (EvP.storeC (v := .agg [.int .i64 50000, .nilSlice]) S1 1 o1 c1 (by decide) rfl rfl rfl rfl rfl (by show 0 + 2 ≤ 2; decide) (fun h2 A2 S2 o2 _ _ => ?_)))
  have o2 : h2.t.get id = some (.cells [.int .i64 50000, .nilSlice] 24 false) := o2
  have la := (ra.mono S2.le).len_any (T := TT gt) (t := 35) rfl h2
  have lb := (rb.mono S2.le).len_any (T := TT gt) (t := 35) rfl h2
  have f2 := loadAgg (T := TT gt) (t := 24) (off := 0) (n := 2) (r := [.int .i64 50000, .nilSlice]) o2 rfl rfl
  repeat (first | refine EvO.plain rfl rfl rfl rfl rfl rfl ?_ | refine EvO.plain rfl rfl rfl rfl rfl (by assumption) ?_ | refine EvC.seq ?_ | refine EvC.region rfl ?_ | refine EvO.nil ?_ | refine at_normal ?_ | refine EvO.cons rfl rfl rfl (EvP.max rfl rfl rfl rfl ?_))
  have hmax : ((max (A.length : Int) (B.length : Int)) > 1000 ↔ ¬ (A.length ≤ 1000 ∧ B.length ≤ 1000)) := by omega
  clear la lb
  (refine EvO.cons rfl rfl rfl (EvP.bool rfl rfl (fun q1 => ?_) (fun q1 => ?_)))
  · have q1 := hmax.1 (of_decide_eq_true q1)
    repeat (first | refine EvO.plain rfl rfl rfl rfl rfl rfl ?_ | refine EvO.nil ?_ | refine at_normal ?_ | refine EvO.off rfl rfl rfl ?_)
    refine EvC.cond (t := true) rfl (fun _ => ?_) (fun e => nomatch e)
    repeat (first | refine EvO.plain rfl rfl rfl rfl rfl rfl ?_ | refine EvC.seq ?_ | refine EvC.region rfl ?_ | refine EvO.nil ?_ | refine at_normal ?_ | refine EvC.ret ?_ | refine at_ret ?_)
    (refine ret_are (vs := [.nilSlice, .int .i64 2]) rfl rfl ?_)
    exact ⟨⟨S2.le, S2.wf⟩, .inl ⟨fun e => q1 ⟨e.1, e.2.1⟩, rfl⟩⟩
  · have q1 : A.length ≤ 1000 ∧ B.length ≤ 1000 := by have := of_decide_eq_false q1; omega
    repeat (first | refine EvO.plain rfl rfl rfl rfl rfl rfl ?_ | refine EvO.plainOn rfl rfl rfl rfl rfl rfl ?_ | refine EvO.plainOn rfl rfl rfl rfl rfl (by assumption) ?_)
    refine EvO.on rfl rfl rfl (EvP.callF rfl rfl rfl rfl (EvF.mono (pwithin_spec (facts gt) S2.wf (ra.mono S2.le) ha (cl := .nilSlice) (vars := 50000) (by decide)) ?_))
    rintro _ h3 _ ⟨g3, rfl⟩
    have f3 := loadAgg (T := TT gt) (t := 24) (off := 0) (n := 2) (r := [.int .i64 50000, .nilSlice]) (g3.le _ _ o2) rfl rfl
    clear f2
    have hle3 : h.le h3 := AH.le.trans' S2.le g3.le
    by_cases h1 : ∀ x ∈ A, ok 50000 x
    · rw [decide_eq_true h1]
      repeat (first | refine EvO.plain rfl rfl rfl rfl rfl rfl ?_ | refine EvO.plainOn rfl rfl rfl rfl rfl rfl ?_ | refine EvO.plainOn rfl rfl rfl rfl rfl (by assumption) ?_)
      refine EvO.on rfl rfl rfl (EvP.callF rfl rfl rfl rfl (EvF.mono (pwithin_spec (facts gt) g3.wf (rb.mono hle3) hb (cl := .nilSlice) (vars := 50000) (by decide)) ?_))
      rintro _ h4 _ ⟨g4, rfl⟩
      clear f3
      have hle4 : h.le h4 := AH.le.trans' hle3 g4.le
      by_cases h2 : ∀ x ∈ B, ok 50000 x
      · rw [decide_eq_true h2]
        repeat (first | refine EvO.plain rfl rfl rfl rfl rfl rfl ?_ | refine EvO.plainOn rfl rfl rfl rfl rfl rfl ?_)
        (refine EvO.on rfl rfl rfl (EvP.bool rfl rfl (fun q2 => ?_) (fun q2 => ?_)))
        · have q2 := of_decide_eq_true q2
          repeat (first | refine EvO.plain rfl rfl rfl rfl rfl rfl ?_ | refine EvO.nil ?_ | refine at_normal ?_ | refine EvO.off rfl rfl rfl ?_)
          refine EvC.cond (t := true) rfl (fun _ => ?_) (fun e => nomatch e)
          repeat (first | refine EvO.plain rfl rfl rfl rfl rfl rfl ?_ | refine EvC.seq ?_ | refine EvC.region rfl ?_ | refine EvO.nil ?_ | refine at_normal ?_ | refine EvC.ret ?_ | refine at_ret ?_)
          (refine ret_are (vs := [.nilSlice, .int .i64 2]) rfl rfl ?_)
          exact ⟨⟨hle4, g4.wf⟩, .inl ⟨fun e => by have := e.2.2.2.2.1; omega, rfl⟩⟩
        · have q2 := of_decide_eq_false q2
          repeat (first | refine EvO.plain rfl rfl rfl rfl rfl rfl ?_ | refine EvO.plainOn rfl rfl rfl rfl rfl rfl ?_)
          (refine EvO.on rfl rfl rfl (EvP.bool rfl rfl (fun q3 => ?_) (fun q3 => ?_)))
          · have q3 := of_decide_eq_true q3
            repeat (first | refine EvO.plain rfl rfl rfl rfl rfl rfl ?_ | refine EvO.nil ?_ | refine at_normal ?_)
            refine EvC.cond (t := true) rfl (fun _ => ?_) (fun e => nomatch e)
            repeat (first | refine EvO.plain rfl rfl rfl rfl rfl rfl ?_ | refine EvC.seq ?_ | refine EvC.region rfl ?_ | refine EvO.nil ?_ | refine at_normal ?_ | refine EvC.ret ?_ | refine at_ret ?_)
            (refine ret_are (vs := [.nilSlice, .int .i64 2]) rfl rfl ?_)
            exact ⟨⟨hle4, g4.wf⟩, .inl ⟨fun e => by have := e.2.2.2.2.2; omega, rfl⟩⟩
          · have q3 := of_decide_eq_false q3
            repeat (first | refine EvO.plain rfl rfl rfl rfl rfl rfl ?_ | refine EvO.nil ?_ | refine at_normal ?_)
            refine EvC.cond (t := false) rfl (fun e => nomatch e) (fun _ => ?_)
            have fine : fineR A B v := ⟨q1.1, q1.2, h1, h2, by omega, by omega⟩
            repeat (first | refine EvO.plain rfl rfl rfl rfl rfl rfl ?_ | refine EvC.seq ?_ | refine EvC.region rfl ?_ | refine at_normal ?_ | refine EvC.skip ?_)
            (refine EvO.cons rfl rfl rfl (EvP.callF rfl rfl rfl rfl (EvF.mono (resolve_spec (HS.all g4.wf) (ra.mono hle4) (rb.mono hle4) (by omega) (by omega) (fun x hx => by have := h1 x hx; unfold ok at this; omega) (fun x hx => by have := h2 x hx; unfold ok at this; omega) v (by omega)) ?_)))
            rintro r h5 _ ⟨A5, G5, S5, hG5, hr⟩
            have hle5 : h.le h5 := AH.le.trans' hle4 (AH.le.trans' hG5 S5.le)
            rcases hr with ⟨h3, w, rfl, rw5, nz, _⟩ | ⟨h3, rfl⟩
            · repeat (first | refine EvO.plain rfl rfl rfl rfl rfl rfl ?_ | refine EvC.seq ?_ | refine EvC.region rfl ?_ | refine EvO.nil ?_ | refine at_normal ?_)
              refine EvC.cond (t := false) rfl (fun e => nomatch e) (fun _ => ?_)
              repeat (first | refine EvO.plain rfl rfl rfl rfl rfl rfl ?_ | refine EvC.seq ?_ | refine EvC.region rfl ?_ | refine EvO.nil ?_ | refine at_normal ?_ | refine EvC.skip ?_ | refine EvC.ret ?_)
              (refine ret_are (vs := [w, .int .i64 0]) rfl rfl ?_)
              exact ⟨⟨hle5, S5.wf⟩, .inr (.inl ⟨fine, h3, w, rfl, rw5.mono S5.le, nz⟩)⟩
            · repeat (first | refine EvO.plain rfl rfl rfl rfl rfl rfl ?_ | refine EvC.seq ?_ | refine EvC.region rfl ?_ | refine EvO.nil ?_ | refine at_normal ?_)
              refine EvC.cond (t := true) rfl (fun _ => ?_) (fun e => nomatch e)
              repeat (first | refine EvO.plain rfl rfl rfl rfl rfl rfl ?_ | refine EvC.seq ?_ | refine EvC.region rfl ?_ | refine EvO.nil ?_ | refine at_normal ?_ | refine EvC.ret ?_ | refine at_ret ?_)
              (refine ret_are (vs := [.nilSlice, .int .i64 4]) rfl rfl ?_)
              exact ⟨⟨hle5, S5.wf⟩, .inr (.inr ⟨fine, h3, rfl⟩)⟩
      · rw [decide_eq_false h2]
        repeat (first | refine EvO.plain rfl rfl rfl rfl rfl rfl ?_ | refine EvO.nil ?_ | refine at_normal ?_ | refine EvO.off rfl rfl rfl ?_ | refine EvO.plainOn rfl rfl rfl rfl rfl rfl ?_)
        refine EvC.cond (t := true) rfl (fun _ => ?_) (fun e => nomatch e)
        repeat (first | refine EvO.plain rfl rfl rfl rfl rfl rfl ?_ | refine EvC.seq ?_ | refine EvC.region rfl ?_ | refine EvO.nil ?_ | refine at_normal ?_ | refine EvC.ret ?_ | refine at_ret ?_)
        (refine ret_are (vs := [.nilSlice, .int .i64 2]) rfl rfl ?_)
        exact ⟨⟨hle4, g4.wf⟩, .inl ⟨fun e => h2 e.2.2.2.1, rfl⟩⟩
    · rw [decide_eq_false h1]
      repeat (first | refine EvO.plain rfl rfl rfl rfl rfl rfl ?_ | refine EvO.nil ?_ | refine at_normal ?_ | refine EvO.off rfl rfl rfl ?_ | refine EvO.plainOn rfl rfl rfl rfl rfl rfl ?_)
      refine EvC.cond (t := true) rfl (fun _ => ?_) (fun e => nomatch e)
      repeat (first | refine EvO.plain rfl rfl rfl rfl rfl rfl ?_ | refine EvC.seq ?_ | refine EvC.region rfl ?_ | refine EvO.nil ?_ | refine at_normal ?_ | refine EvC.ret ?_ | refine at_ret ?_)
      (refine ret_are (vs := [.nilSlice, .int .i64 2]) rfl rfl ?_)
      exact ⟨⟨hle3, g3.wf⟩, .inl ⟨fun e => h1 e.2.2.1, rfl⟩⟩
end Pf
end Go.Proofs.YtfjloafebkjadaaGreatDoor
