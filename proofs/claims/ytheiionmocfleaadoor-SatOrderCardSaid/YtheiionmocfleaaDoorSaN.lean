/- What a literal is in a search; a literal is taken. -/
import Derived.Test.YtheiionmocfleaaDoorSaM
namespace Go.Proofs.YtheiionmocfleaaDoor
namespace Pf
namespace Sa
open Go Go.AI Go.Proofs
variable {gt : Tree (List AV)}
theorem index_spec {h : AH} (l : Int) (hl : -1000000 ≤ l ∧ l ≤ 1000000) : EvF (TT gt) X 65 [.int .i64 l] h (fun r h' => h' = h ∧ r = .int .i64 (ix l)) := by
  refine EvF.enter rfl rfl rfl ?_
  repeat (first | refine EvO.plain rfl rfl rfl rfl rfl rfl ?_ | refine EvC.seq ?_ | refine EvC.region rfl ?_ | refine EvO.nil ?_ | refine at_normal ?_)
  refine EvC.decide rfl (fun hc => ?_) (fun hc => ?_)
  · repeat (first | refine EvO.plain rfl rfl rfl rfl rfl rfl ?_ | refine EvC.seq ?_ | refine EvC.region rfl ?_ | refine EvO.nil ?_ | refine at_normal ?_ | refine EvC.ret ?_ | refine at_ret ?_ | refine EvO.cons rfl rfl rfl (EvP.add64 rfl rfl (by omega) ?_) | refine EvO.cons rfl rfl rfl (EvP.mul64 rfl rfl (by omega) ?_))
    (refine ret_is (v := .int .i64 (-2 * l + 1)) rfl rfl ?_)
    exact ⟨rfl, by rw [ix, if_pos hc]⟩
  · repeat (first | refine EvO.plain rfl rfl rfl rfl rfl rfl ?_ | refine EvC.seq ?_ | refine EvC.region rfl ?_ | refine EvO.nil ?_ | refine at_normal ?_ | refine EvC.skip ?_ | refine EvC.ret ?_ | refine EvO.cons rfl rfl rfl (EvP.mul64 rfl rfl (by omega) ?_))
    (refine ret_is (v := .int .i64 (2 * l)) rfl rfl ?_)
    exact ⟨rfl, by rw [ix, if_neg hc]⟩
section
variable {G h : AH} {col : Nat → Nat} {n x : Nat} {V : Lay} {S : Sr}
theorem of_spec (C : AtX G h col n V S (valT n S.s.tr) x) (l : Int) (hl : ok n l) (hc' : ∀ x, x ∈ S.s.tr → -x ∉ S.s.tr) :
    EvF (TT gt) X 38 [.ptr V.p 0, .int .i64 l] h (fun r h' => h' = h ∧ r = .int .i8 (ofT S.s.tr l)) := by
  have hs := C.sml
  obtain ⟨h0, h1, h2⟩ := hl
  have f1 := C.fld (gt := gt) (t := 61) (off := 1) rfl rfl rfl
  refine EvF.enter rfl rfl rfl ?_
  repeat (first | refine EvO.plain rfl rfl rfl rfl rfl rfl ?_ | refine EvC.seq ?_ | refine EvC.region rfl ?_ | refine EvO.nil ?_ | refine at_normal ?_)
  refine EvC.decide rfl (fun hc => ?_) (fun hc => ?_)
  · have hOB := C.val.at1 (T := TT gt) (t := 61) (k := .i64) (i := -l) rfl rfl rfl rfl (by omega) (by omega)
    obtain ⟨p, u, a1, a2, a3⟩ := hOB
    rw [valT_at (by omega)] at a3
    cases a3
    repeat (first | refine EvO.plain rfl rfl rfl rfl rfl rfl ?_ | refine EvO.plain rfl rfl rfl rfl rfl (by assumption) ?_ | refine EvC.seq ?_ | refine EvC.region rfl ?_ | refine EvO.cons rfl rfl rfl (EvP.neg64 rfl (by omega) ?_))
    (refine EvO.cons rfl rfl rfl (EvP.quiet rfl (neg8 _ _) ?_))
    repeat (first | refine EvO.plain rfl rfl rfl rfl rfl rfl ?_ | refine EvO.nil ?_ | refine at_normal ?_ | refine EvC.ret ?_ | refine at_ret ?_)
    (refine ret_is (v := .int .i8 (-ofT S.s.tr (-l).toNat)) rfl rfl ?_)
    refine ⟨rfl, ?_⟩
    rw [Int.toNat_of_nonneg (by omega), ofT_neg hc']
  · have hOB := C.val.at1 (T := TT gt) (t := 61) (k := .i64) (i := l) rfl rfl rfl rfl (by omega) (by omega)
    obtain ⟨p, u, a1, a2, a3⟩ := hOB
    rw [valT_at (by omega)] at a3
    cases a3
    repeat (first | refine EvO.plain rfl rfl rfl rfl rfl rfl ?_ | refine EvO.plain rfl rfl rfl rfl rfl (by assumption) ?_ | refine EvC.seq ?_ | refine EvC.region rfl ?_ | refine EvO.nil ?_ | refine at_normal ?_ | refine EvC.skip ?_ | refine EvC.ret ?_)
    (refine ret_is (v := .int .i8 (ofT S.s.tr l.toNat)) rfl rfl ?_)
    refine ⟨rfl, ?_⟩
    rw [Int.toNat_of_nonneg (by omega)]
/-- After a literal was taken. -/
def Sr.take (S : Sr) (l : Int) (w : Option Nat) : Sr := { S with s := S.s.push l, level := S.level.set (max l (-l)).toNat S.s.ends.length, why := S.why.set (max l (-l)).toNat w }
def SR (c : Nat) : Prop := 20 ≤ c ∧ c < 40
theorem take_spec (C : AtX G h col n V S (valT n S.s.tr) x) (l : Int) (w : Option Nat) (hl : ok n l) (hf : ofT S.s.tr l = 0) (hw : ∀ k, w = some k → k < S.s.cls.length) (hlen : S.s.tr.length ≤ 2 ^ 30) (hlen2 : S.s.ends.length ≤ 2 ^ 30) :
    EvF (TT gt) X 39 [.ptr V.p 0, .int .i64 l, whyV V.cp w] h (fun r h' => r = .tuple [] ∧ ∃ col' tv, Step SR col h col' h' ∧ AtX G h' col' n { V with tv := tv } (S.take l w) (valT n (S.s.tr ++ [l])) x) := by
  have hs := C.sml
  have hl' := hl
  obtain ⟨h0, h1, h2⟩ := hl'
  have f1 := C.fld (gt := gt) (t := 61) (off := 1) rfl rfl rfl
  have hOB := C.val.at1 (T := TT gt) (t := 61) (k := .i64) (i := max l (-l)) rfl rfl rfl rfl (by omega) (by omega)
  obtain ⟨p, u, a1, a2, a3⟩ := hOB
  clear a2 a3
  refine EvF.enter rfl rfl rfl ?_
  repeat (first | refine EvO.plain rfl rfl rfl rfl rfl rfl ?_ | refine EvO.plain rfl rfl rfl rfl rfl (by assumption) ?_ | refine EvC.seq ?_ | refine EvC.region rfl ?_ | refine EvO.nil ?_ | refine at_normal ?_ | refine EvO.cons rfl rfl rfl (EvP.neg64 rfl (by omega) ?_) | refine EvO.cons rfl rfl rfl (EvP.max rfl rfl rfl rfl ?_))
  refine EvO.cons0 rfl rfl (EvP.setV (T := TT gt) (t := 61) C.hs C.val (by decide) rfl rfl rfl (by omega) (by omega) a1 rfl rfl rfl rfl (fun h1 A1 S1 V1 _ => ?_))
  have C1 := C.setVal A1 S1 V1
  clear f1 a1
  repeat (first | refine EvO.plain rfl rfl rfl rfl rfl rfl ?_ | refine EvC.seq ?_ | refine EvC.region rfl ?_ | refine EvO.nil ?_ | refine at_normal ?_)
  refine EvC.join (fun σ h2 => ∃ E, Step SR col h col h2 ∧ AtX G h2 col n V S (valT n (S.s.tr ++ [l])) x ∧ σ = upds [(0, .ptr V.p 0), (1, .int .i64 l), (2, whyV V.cp w), (6, .int .i64 (max l (-l)))] E) ?_ ?_
  · have g1 := C1.fld (gt := gt) (t := 61) (off := 1) rfl rfl rfl
    refine EvC.decide rfl (fun hneg => ?_) (fun hneg => ?_)
    · have hOB := C1.val.at1 (T := TT gt) (t := 61) (k := .i64) (i := max l (-l)) rfl rfl rfl rfl (by omega) (by omega)
      obtain ⟨q, u', b1, b2, b3⟩ := hOB
      clear b2 b3
      repeat (first | refine EvO.plain rfl rfl rfl rfl rfl rfl ?_ | refine EvO.plain rfl rfl rfl rfl rfl (by assumption) ?_ | refine EvC.region rfl ?_)
      refine EvO.cons0 rfl rfl (EvP.setV (T := TT gt) (t := 61) S1 C1.val (by decide) rfl rfl rfl (by omega) (by omega) b1 rfl rfl rfl rfl (fun h2 A2 S2 V2 _ => ?_))
      have C2 := C1.setVal A2 S2 V2
      clear g1 b1
      repeat (first | refine EvO.nil ?_ | refine jo_normal ?_)
      exact ⟨_, (A1.trans A2).mono (fun c e => by simp only [SR]; omega), by rw [valT_push hl hf, if_pos hneg]; rw [List.set_set] at C2; exact C2, hold ⟨rfl, rfl, rfl, rfl, trivial⟩⟩
    · clear g1
      repeat (first | refine EvC.skip ?_ | refine jo_normal ?_)
      exact ⟨_, A1.mono (fun c e => by simp only [SR]; omega), by rw [valT_push hl hf, if_neg hneg]; exact C1, hold ⟨rfl, rfl, rfl, rfl, trivial⟩⟩
  · clear C1 V1 A1 S1
    rintro _ h2 ⟨E, A2, C2, rfl⟩
    have g2 := C2.fld (gt := gt) (t := 25) (off := 2) rfl rfl rfl
    have g3 := C2.fld (gt := gt) (t := 25) (off := 6) rfl rfl rfl
    have ln := C2.ends.row.len (T := TT gt) (t := 25) rfl
    have hOB := C2.lev.at1 (T := TT gt) (t := 25) (k := .i64) (i := max l (-l)) rfl rfl rfl rfl (by omega) (by omega)
    obtain ⟨q, u', b1, b2, b3⟩ := hOB
    clear b2 b3
    repeat (first | refine EvC.seq ?_ | refine at_normal ?_)
    refine EvC.drawn (p := [⟨0, false, 0, 0⟩, ⟨1, false, 0, 0⟩, ⟨2, false, 0, 0⟩, ⟨3, false, 0, 0⟩, ⟨4, false, 0, 0⟩, ⟨5, false, 0, 0⟩, ⟨6, false, 0, 0⟩, ⟨7, false, 0, 0⟩, ⟨8, false, 0, 0⟩, ⟨9, false, 0, 0⟩, ⟨10, false, 0, 0⟩, ⟨11, true, 0, 1⟩]) rfl (by kernel_rfl) (by kernel_rfl) rfl ?_
    repeat (first | refine EvR.plain rfl rfl rfl rfl rfl rfl rfl ?_ | refine EvR.plain rfl rfl rfl rfl rfl rfl (by assumption) ?_)
    (refine EvR.cons0 rfl rfl rfl (EvP.setV (T := TT gt) (t := 25) (u := .int .i64 S.s.ends.length) C2.hs C2.lev (by decide) rfl rfl rfl (by omega) (by omega) b1 rfl rfl rfl rfl (fun h3 A3 S3 V3 _ => ?_)))
    rw [← List.map_set] at V3
    have C3 := C2.setLev A3 S3 V3
    clear g2 g3 ln b1
    have g4 := C3.fld (gt := gt) (t := 62) (off := 3) rfl rfl rfl
    have hOB := C3.why.at1 (T := TT gt) (t := 62) (k := .i64) (i := max l (-l)) rfl rfl rfl rfl (by omega) (by omega)
    obtain ⟨q4, u4, d1, d2, d3⟩ := hOB
    clear d2 d3
    have wc : (whyV V.cp w).cells = [whyV V.cp w] ∧ scalar (whyV V.cp w) = true := by cases w <;> exact ⟨rfl, rfl⟩
    repeat (first | refine EvO.plain rfl rfl rfl rfl rfl rfl ?_ | refine EvO.plain rfl rfl rfl rfl rfl (by assumption) ?_ | refine EvC.seq ?_ | refine EvC.region rfl ?_ | refine at_normal ?_ | refine EvR.nil ?_)
    refine EvO.cons0 rfl rfl (EvP.setV (T := TT gt) (t := 62) (u := whyV V.cp w) C3.hs C3.why (by decide) rfl rfl rfl (by omega) (by omega) d1 rfl rfl wc.1 wc.2 (fun h4 A4 S4 V4 _ => ?_))
    rw [← List.map_set] at V4
    have C4 := C3.setWhy A4 S4 V4 (fun w' hw' k e => by
      have hOB := List.mem_or_eq_of_mem_set hw'
      rcases hOB with h5 | h5
      · exact C3.yok w' h5 k e
      · exact hw k (h5 ▸ e))
    clear g4 d1
    have g5 := C4.fld (gt := gt) (t := 25) (off := 5) rfl rfl rfl
    repeat (first | refine EvO.plain rfl rfl rfl rfl rfl rfl ?_ | refine EvO.plain rfl rfl rfl rfl rfl (by assumption) ?_ | refine EvC.region rfl ?_ | refine EvO.nil ?_ | refine at_normal ?_)
    (refine EvO.cons rfl rfl rfl (EvP.newR (b := .cells [.int .i64 l] 3 false) (mk := .slice 1 1 true) C4.hs rfl rfl (fun h5 id A5 S5 hle o5 _ _ => ?_)))
    have C5 := C4.more A5 S5 hle
    refine EvO.cons rfl rfl rfl (EvP.appendC C5.hs C5.trl (by decide) rfl rfl rfl rfl rfl rfl rfl rfl rfl (by decide) rfl rfl (afirst_all o5 rfl) rfl (by decide) rfl (by show (S.s.tr.length + 1) * 8 ≤ 70368744177664; omega) (by show S.s.tr.length + 1 ≤ 1099511627776; omega) (fun tv h6 col6 A6 S6 V6 => ?_))
    repeat (refine EvO.plain rfl rfl rfl rfl rfl rfl ?_)
    refine EvO.cons0 rfl rfl (EvP.store1 (u := tv) S6 20 (A6.get C5.hs.wf C5.obj (by rw [C5.cpp]; decide)).1 ((A6.get C5.hs.wf C5.obj (by rw [C5.cpp]; decide)).2.trans C5.cpp) (by decide) rfl rfl rfl rfl V6.sc (by show 5 < 13; decide) (fun h7 A7 S7 o7 _ _ => ?_))
    have C7 := C5.setTr (tr := S.s.tr ++ [l]) (tv := tv) A6 (by simpa using V6) A7 S7 o7
    clear g5
    repeat (refine EvO.nil ?_)
    refine end_normal rfl ⟨rfl, _, tv, ?_, C7.less hle C3.lear⟩
    exact ((((A2.trans (A3.mono fun c e => by simp only [SR]; omega)).trans (A4.mono fun c e => by simp only [SR]; omega)).trans (A5.mono fun c e => e.elim)).trans (A6.mono fun c e => by simp only [SR]; omega)).trans (A7.mono fun c e => by simp only [SR]; omega)
end
end Sa
end Pf
end Go.Proofs.YtheiionmocfleaaDoor
