/- What a literal is in a search; a literal is taken; copies of rows. -/
import Derived.Test.YtfjloafebkjadaaGreatDoorSaM
namespace Go.Proofs.YtfjloafebkjadaaGreatDoor
namespace Pf
namespace Sa
open Go Go.AI Go.Proofs
variable {gt : Tree (List AV)}
theorem index_spec {h : AH} (l : Int) (hl : -1000000 ≤ l ∧ l ≤ 1000000) : EvF (TT gt) X 130 [.int .i64 l] h (fun r h' => h' = h ∧ r = .int .i64 (ix l)) := by
  refine EvF.enter rfl rfl rfl ?_
  repeat (first | refine EvO.plain rfl rfl rfl rfl rfl rfl ?_ | refine EvC.seq ?_ | refine EvC.region rfl ?_ | refine EvO.nil ?_ | refine at_normal ?_)
  refine EvC.decide rfl (fun hc => ?_) (fun hc => ?_)
  · repeat (first | refine EvO.plain rfl rfl rfl rfl rfl rfl ?_ | refine EvC.seq ?_ | refine EvC.region rfl ?_ | refine EvO.nil ?_ | refine at_normal ?_ | refine EvC.ret ?_ | refine at_ret ?_ | refine EvO.cons rfl rfl rfl (EvP.add64 rfl rfl (by omega) ?_) | refine EvO.cons rfl rfl rfl (EvP.mul64 rfl rfl (by omega) ?_))
    (refine ret_is (v := .int .i64 (-2 * l + 1)) rfl rfl ?_)
    exact ⟨rfl, by rw [ix, if_pos hc]⟩
  · repeat (first | refine EvO.plain rfl rfl rfl rfl rfl rfl ?_ | refine EvC.seq ?_ | refine EvC.region rfl ?_ | refine EvO.nil ?_ | refine at_normal ?_ | refine EvC.skip ?_ | refine EvC.ret ?_ | refine EvO.cons rfl rfl rfl (EvP.mul64 rfl rfl (by omega) ?_))
    (refine ret_is (v := .int .i64 (2 * l)) rfl rfl ?_)
    exact ⟨rfl, by rw [ix, if_neg hc]⟩
section
variable {G h : AH} {col : Nat → Nat} {n x : Nat} {V : Lay} {S : Sr}
theorem of_spec (C : AtX G h col n V S (valT n S.s.tr) x) (l : Int) (hl : ok n l) (hc' : ∀ x, x ∈ S.s.tr → -x ∉ S.s.tr) :
    EvF (TT gt) X 105 [.ptr V.p 0, .int .i64 l] h (fun r h' => h' = h ∧ r = .int .i8 (ofT S.s.tr l)) := by
  have hs := C.sml
  obtain ⟨h0, h1, h2⟩ := hl
  have f1 := C.fld (gt := gt) (t := 107) (off := 1) rfl rfl rfl
  refine EvF.enter rfl rfl rfl ?_
  repeat (first | refine EvO.plain rfl rfl rfl rfl rfl rfl ?_ | refine EvC.seq ?_ | refine EvC.region rfl ?_ | refine EvO.nil ?_ | refine at_normal ?_)
  refine EvC.decide rfl (fun hc => ?_) (fun hc => ?_)
  · have hOB := C.val.at1 (T := TT gt) (t := 107) (k := .i64) (i := -l) rfl rfl rfl rfl (by omega) (by omega)
    obtain ⟨p, u, a1, a2, a3⟩ := hOB
    rw [valT_at (by omega)] at a3
    cases a3
    repeat (first | refine EvO.plain rfl rfl rfl rfl rfl rfl ?_ | refine EvO.plain rfl rfl rfl rfl rfl (by assumption) ?_ | refine EvC.seq ?_ | refine EvC.region rfl ?_ | refine EvO.cons rfl rfl rfl (EvP.neg64 rfl (by omega) ?_))
    (refine EvO.cons rfl rfl rfl (EvP.quiet rfl (neg8 _ _) ?_))
    repeat (first | refine EvO.plain rfl rfl rfl rfl rfl rfl ?_ | refine EvO.nil ?_ | refine at_normal ?_ | refine EvC.ret ?_ | refine at_ret ?_)
    (refine ret_is (v := .int .i8 (-ofT S.s.tr (-l).toNat)) rfl rfl ?_)
    refine ⟨rfl, ?_⟩
    rw [Int.toNat_of_nonneg (by omega), ofT_neg hc']
  · have hOB := C.val.at1 (T := TT gt) (t := 107) (k := .i64) (i := l) rfl rfl rfl rfl (by omega) (by omega)
    obtain ⟨p, u, a1, a2, a3⟩ := hOB
    rw [valT_at (by omega)] at a3
    cases a3
    repeat (first | refine EvO.plain rfl rfl rfl rfl rfl rfl ?_ | refine EvO.plain rfl rfl rfl rfl rfl (by assumption) ?_ | refine EvC.seq ?_ | refine EvC.region rfl ?_ | refine EvO.nil ?_ | refine at_normal ?_ | refine EvC.skip ?_ | refine EvC.ret ?_)
    (refine ret_is (v := .int .i8 (ofT S.s.tr l.toNat)) rfl rfl ?_)
    refine ⟨rfl, ?_⟩
    rw [Int.toNat_of_nonneg (by omega)]
/-- After a literal was taken. -/
def Sr.take (S : Sr) (l : Int) (w : Option Nat) : Sr := { S with s := S.s.push l, level := S.level.set (max l (-l)).toNat S.s.ends.length, why := S.why.set (max l (-l)).toNat w }
def SR (c : Nat) : Prop := 20 ≤ c ∧ c < 40
theorem take_spec (C : AtX G h col n V S (valT n S.s.tr) x) (l : Int) (w : Option Nat) (hl : ok n l) (hf : ofT S.s.tr l = 0) (hw : ∀ k, w = some k → k < S.s.cls.length) (hlen : S.s.tr.length ≤ 2 ^ 30) (_hlen2 : S.s.ends.length ≤ 2 ^ 30) :
    EvF (TT gt) X 106 [.ptr V.p 0, .int .i64 l, whyV V.cp w] h (fun r h' => r = .tuple [] ∧ ∃ col' tv, Step SR col h col' h' ∧ AtX G h' col' n { V with tv := tv } (S.take l w) (valT n (S.s.tr ++ [l])) x) := by
  have hs := C.sml
  have hl' := hl
  obtain ⟨h0, h1, h2⟩ := hl'
  have f1 := C.fld (gt := gt) (t := 107) (off := 1) rfl rfl rfl
  have hOB := C.val.at1 (T := TT gt) (t := 107) (k := .i64) (i := max l (-l)) rfl rfl rfl rfl (by omega) (by omega)
  obtain ⟨p, u, a1, a2, a3⟩ := hOB
  clear a2 a3
  refine EvF.enter rfl rfl rfl ?_
  repeat (first | refine EvO.plain rfl rfl rfl rfl rfl rfl ?_ | refine EvO.plain rfl rfl rfl rfl rfl (by assumption) ?_ | refine EvC.seq ?_ | refine EvC.region rfl ?_ | refine EvO.nil ?_ | refine at_normal ?_ | refine EvO.cons rfl rfl rfl (EvP.neg64 rfl (by omega) ?_) | refine EvO.cons rfl rfl rfl (EvP.max rfl rfl rfl rfl ?_))
  refine EvO.cons0 rfl rfl (EvP.setV (T := TT gt) (t := 107) C.hs C.val (by decide) rfl rfl rfl (by omega) (by omega) a1 rfl rfl rfl rfl (fun h1 A1 S1 V1 _ => ?_))
  have C1 := C.setVal A1 S1 V1
  clear f1 a1
  repeat (first | refine EvO.plain rfl rfl rfl rfl rfl rfl ?_ | refine EvC.seq ?_ | refine EvC.region rfl ?_ | refine EvO.nil ?_ | refine at_normal ?_)
  refine EvC.join (fun σ h2 => ∃ E, Step SR col h col h2 ∧ AtX G h2 col n V S (valT n (S.s.tr ++ [l])) x ∧ σ = upds [(0, .ptr V.p 0), (1, .int .i64 l), (2, whyV V.cp w), (6, .int .i64 (max l (-l)))] E) ?_ ?_
  · have g1 := C1.fld (gt := gt) (t := 107) (off := 1) rfl rfl rfl
    refine EvC.decide rfl (fun hneg => ?_) (fun hneg => ?_)
    · have hOB := C1.val.at1 (T := TT gt) (t := 107) (k := .i64) (i := max l (-l)) rfl rfl rfl rfl (by omega) (by omega)
      obtain ⟨q, u', b1, b2, b3⟩ := hOB
      clear b2 b3
      repeat (first | refine EvO.plain rfl rfl rfl rfl rfl rfl ?_ | refine EvO.plain rfl rfl rfl rfl rfl (by assumption) ?_ | refine EvC.region rfl ?_)
      refine EvO.cons0 rfl rfl (EvP.setV (T := TT gt) (t := 107) S1 C1.val (by decide) rfl rfl rfl (by omega) (by omega) b1 rfl rfl rfl rfl (fun h2 A2 S2 V2 _ => ?_))
      have C2 := C1.setVal A2 S2 V2
      clear g1 b1
      repeat (first | refine EvO.nil ?_ | refine jo_normal ?_)
      exact ⟨_, (A1.trans A2).mono (fun c e => by simp only [SR]; omega), by rw [valT_push hl hf, if_pos hneg]; rw [List.set_set] at C2; exact C2, hold ⟨rfl, rfl, rfl, rfl, trivial⟩⟩
    · clear g1
      repeat (first | refine EvC.skip ?_ | refine jo_normal ?_)
      exact ⟨_, A1.mono (fun c e => by simp only [SR]; omega), by rw [valT_push hl hf, if_neg hneg]; exact C1, hold ⟨rfl, rfl, rfl, rfl, trivial⟩⟩
  · clear C1 V1 A1 S1
    rintro _ h2 ⟨E, A2, C2, rfl⟩
    have g2 := C2.fld (gt := gt) (t := 35) (off := 2) rfl rfl rfl
    have g3 := C2.fld (gt := gt) (t := 35) (off := 6) rfl rfl rfl
    have ln := C2.ends.row.len (T := TT gt) (t := 35) rfl
    have hOB := C2.lev.at1 (T := TT gt) (t := 35) (k := .i64) (i := max l (-l)) rfl rfl rfl rfl (by omega) (by omega)
    obtain ⟨q, u', b1, b2, b3⟩ := hOB
    clear b2 b3
    repeat (first | refine EvC.seq ?_ | refine at_normal ?_)
    refine EvC.drawn (p := [⟨0, false, 0, 0⟩, ⟨1, false, 0, 0⟩, ⟨2, false, 0, 0⟩, ⟨3, false, 0, 0⟩, ⟨4, false, 0, 0⟩, ⟨5, false, 0, 0⟩, ⟨6, false, 0, 0⟩, ⟨7, false, 0, 0⟩, ⟨8, false, 0, 0⟩, ⟨9, false, 0, 0⟩, ⟨10, false, 0, 0⟩, ⟨11, true, 0, 1⟩]) rfl (by kernel_rfl) (by kernel_rfl) rfl ?_
    repeat (first | refine EvR.plain rfl rfl rfl rfl rfl rfl rfl ?_ | refine EvR.plain rfl rfl rfl rfl rfl rfl (by assumption) ?_)
    (refine EvR.cons0 rfl rfl rfl (EvP.setV (T := TT gt) (t := 35) (u := .int .i64 S.s.ends.length) C2.hs C2.lev (by decide) rfl rfl rfl (by omega) (by omega) b1 rfl rfl rfl rfl (fun h3 A3 S3 V3 _ => ?_)))
    rw [← List.map_set] at V3
    have C3 := C2.setLev A3 S3 V3
    clear g2 g3 ln b1
    have g4 := C3.fld (gt := gt) (t := 118) (off := 3) rfl rfl rfl
    have hOB := C3.why.at1 (T := TT gt) (t := 118) (k := .i64) (i := max l (-l)) rfl rfl rfl rfl (by omega) (by omega)
    obtain ⟨q4, u4, d1, d2, d3⟩ := hOB
    clear d2 d3
    have wc : (whyV V.cp w).cells = [whyV V.cp w] ∧ scalar (whyV V.cp w) = true := by cases w <;> exact ⟨rfl, rfl⟩
    repeat (first | refine EvO.plain rfl rfl rfl rfl rfl rfl ?_ | refine EvO.plain rfl rfl rfl rfl rfl (by assumption) ?_ | refine EvC.seq ?_ | refine EvC.region rfl ?_ | refine at_normal ?_ | refine EvR.nil ?_)
    refine EvO.cons0 rfl rfl (EvP.setV (T := TT gt) (t := 118) (u := whyV V.cp w) C3.hs C3.why (by decide) rfl rfl rfl (by omega) (by omega) d1 rfl rfl wc.1 wc.2 (fun h4 A4 S4 V4 _ => ?_))
    rw [← List.map_set] at V4
    have C4 := C3.setWhy A4 S4 V4 (fun w' hw' k e => by
      have hOB := List.mem_or_eq_of_mem_set hw'
      rcases hOB with h5 | h5
      · exact C3.yok w' h5 k e
      · exact hw k (h5 ▸ e))
    clear g4 d1
    have g5 := C4.fld (gt := gt) (t := 35) (off := 5) rfl rfl rfl
    repeat (first | refine EvO.plain rfl rfl rfl rfl rfl rfl ?_ | refine EvO.plain rfl rfl rfl rfl rfl (by assumption) ?_ | refine EvC.region rfl ?_ | refine EvO.nil ?_ | refine at_normal ?_)
    (refine EvO.cons rfl rfl rfl (EvP.newR (b := .cells [.int .i64 l] 3 false) (mk := .slice 1 1 true) C4.hs rfl rfl (fun h5 id A5 S5 hle o5 _ _ => ?_)))
    have C5 := C4.more A5 S5 hle
    refine EvO.cons rfl rfl rfl (EvP.appendC C5.hs C5.trl (by decide) rfl rfl rfl rfl rfl rfl rfl rfl rfl (by decide) rfl rfl (afirst_all o5 rfl) rfl (by decide) rfl (by show (S.s.tr.length + 1) * 8 ≤ 70368744177664; omega) (by show S.s.tr.length + 1 ≤ 1099511627776; omega) (fun tv h6 col6 A6 S6 V6 => ?_))
    repeat (refine EvO.plain rfl rfl rfl rfl rfl rfl ?_)
    refine EvO.cons0 rfl rfl (EvP.store1 (u := tv) S6 20 (A6.get C5.hs.wf C5.obj (by rw [C5.cpp]; decide)).1 ((A6.get C5.hs.wf C5.obj (by rw [C5.cpp]; decide)).2.trans C5.cpp) (by decide) rfl rfl rfl rfl V6.sc (by show 5 < 13; decide) (fun h7 A7 S7 o7 _ _ => ?_))
    have C7 := C5.setTr (tr := S.s.tr ++ [l]) (tv := tv) A6 (by simpa using V6) A7 S7 o7
    clear g5
    repeat (refine EvO.nil ?_)
    refine end_normal rfl ⟨rfl, _, tv, ?_, C7.less hle C3.lear⟩
    exact ((((A2.trans (A3.mono fun c e => by simp only [SR]; omega)).trans (A4.mono fun c e => by simp only [SR]; omega)).trans (A5.mono fun c e => e.elim)).trans (A6.mono fun c e => by simp only [SR]; omega)).trans (A7.mono fun c e => by simp only [SR]; omega)
end
end Sa
end Pf
end Go.Proofs.YtfjloafebkjadaaGreatDoor
namespace Go.Proofs.YtfjloafebkjadaaGreatDoor
namespace Pf
namespace Sa
open Go Go.AI Go.Proofs
variable {gt : Tree (List AV)}
/-! Helpers -/
theorem row_nil {h : AH} {s m : Nat} {g : Nat → List AV} (r : RowOf h s .nilSlice m g) : m = 0 := by cases r; rfl
theorem row_tri {h : AH} {s m : Nat} {v : AV} {g : Nat → List AV} (r : RowOf h s v m g) : v = .nilSlice ∨ v = .eslice ∨ ∃ id off len cap ex, v = .slice id off len cap ex := by
  cases r with
  | nil => exact .inl rfl
  | empty => exact .inr (.inl rfl)
  | mk _ _ => exact .inr (.inr ⟨_, _, _, _, _, rfl⟩)
theorem range_ints (l : List Int) : (List.range l.length).map (fun j => AV.int .i64 (l.getD j 0)) = l.map (AV.int .i64) := by
  apply List.ext_getElem?
  intro i
  by_cases hi : i < l.length
  · rw [List.getElem?_map, List.getElem?_range hi, List.getElem?_map]
    show some (AV.int .i64 (l.getD i 0)) = Option.map (AV.int .i64) l[i]?
    rw [List.getD_eq_getElem?_getD, List.getElem?_eq_getElem hi]; rfl
  · rw [List.getElem?_eq_none (by simp; omega), List.getElem?_eq_none (by simp; omega)]
theorem Vec.ints {col : Nat → Nat} {c : Nat} {h : AH} {v : AV} {l : List Int} (V : Vec col c h 3 1 v l.length (l.map (AV.int .i64))) : IntRow h v l := by
  have h1 := V.row
  unfold IntRow
  refine RowOf.congr' h1 fun i hi => ?_
  rw [Nat.mul_one, List.take_one, List.head?_drop, List.getElem?_map, List.getElem?_eq_getElem hi, List.getD_eq_getElem?_getD, List.getElem?_eq_getElem hi]; rfl
where
  RowOf.congr' {h : AH} {s m : Nat} {v : AV} {g g' : Nat → List AV} (r : RowOf h s v m g) (e : ∀ i, i < m → g i = g' i) : RowOf h s v m g' := by
    cases r with
    | nil => exact .nil
    | empty => exact .empty
    | mk hc hs => exact .mk hc fun i hi => by rw [← e i hi]; exact hs i hi
/-- A row's block, and the row wherever the block is. -/
theorem Vec.copy {col : Nat → Nat} {c e sz n : Nat} {h : AH} {v : AV} {cs : List AV} (V : Vec col c h e sz v n cs) (hn : 0 < n) : ∃ id o, h.t.get id = some o ∧ col id = c ∧ ∀ h' : AH, h'.t.get id = some o → Vec col c h' e sz v n cs := by
  cases V with
  | nil => omega
  | @mk id _ cap ex _ tail hg hc hn' hx => exact ⟨id, _, hg, hc, fun h' g => .mk g hc hn' hx⟩
theorem get_keep {G h : AH} {i j : Nat} {o o' : AObj} (hg : G.t.get i = some o) (e : h.t.get i = some o) (e' : h.t.get j = some o') : (G.add j o').t.get i = some o := by
  by_cases hij : i = j
  · subst hij; rw [e] at e'; cases e'; exact AH.get_add ..
  · rw [AH.get_add_ne hij]; exact hg
/-- Four objects beside what is read. -/
theorem four {G h : AH} (hl : G.le h) {i1 i2 i3 i4 : Nat} {o1 o2 o3 o4 : AObj} (e1 : h.t.get i1 = some o1) (e2 : h.t.get i2 = some o2) (e3 : h.t.get i3 = some o3) (e4 : h.t.get i4 = some o4) :
    ∃ GR : AH, GR.le h ∧ GR.t.get i1 = some o1 ∧ GR.t.get i2 = some o2 ∧ GR.t.get i3 = some o3 ∧ GR.t.get i4 = some o4 ∧ ∀ h', G.le h' → h'.t.get i1 = some o1 → h'.t.get i2 = some o2 → h'.t.get i3 = some o3 → h'.t.get i4 = some o4 → GR.le h' := by
  refine ⟨(((G.add i1 o1).add i2 o2).add i3 o3).add i4 o4, AH.add_le (AH.add_le (AH.add_le (AH.add_le hl e1) e2) e3) e4, ?_, ?_, ?_, AH.get_add .., fun h' k1 k2 k3 k4 k5 => AH.add_le (AH.add_le (AH.add_le (AH.add_le k1 k2) k3) k4) k5⟩
  · exact get_keep (get_keep (get_keep (AH.get_add ..) e1 e2) e1 e3) e1 e4
  · exact get_keep (get_keep (AH.get_add ..) e2 e3) e2 e4
  · exact get_keep (AH.get_add ..) e3 e4
theorem Vec.atI {col : Nat → Nat} {c : Nat} {h : AH} {v : AV} {l : List Int} (V : Vec col c h 3 1 v l.length (l.map (AV.int .i64))) {i : Int} (h0 : 0 ≤ i) (hi : i < l.length) : ∃ a b, aindexAddr (TT gt) 35 v (.int .i64 i) = some (.ptr a b) ∧ aload (TT gt) h 3 (.ptr a b) = some (.int .i64 (l.getD i.toNat 0)) := by
  have hOB := V.at1 (T := TT gt) (t := 35) (k := .i64) (i := i) rfl rfl rfl rfl h0 hi
  obtain ⟨p, u, a1, a2, a3⟩ := hOB
  have hlt : i.toNat < l.length := by omega
  rw [List.getElem?_map, List.getElem?_eq_getElem hlt] at a3
  have : u = .int .i64 (l.getD i.toNat 0) := by
    rw [List.getD_eq_getElem?_getD, List.getElem?_eq_getElem hlt]; simpa using a3.symm
  have hp : ∃ a b, p = .ptr a b := by
    generalize hm : l.length = m at V
    generalize l.map (AV.int .i64) = cs at V
    cases V with
    | nil => omega
    | mk _ _ _ _ =>
      have hd : descOf (TT gt) 35 = .slice 3 := rfl
      have he : (TT gt).tt.get 3 = some ti3 := rfl
      simp only [aindexAddr, hd, he] at a1
      split at a1
      · exact ⟨_, _, (Option.some.inj a1).symm⟩
      · cases a1
  obtain ⟨a, b, rfl⟩ := hp
  exact ⟨a, b, a1, this ▸ a2⟩
/-- A copy in a row of one's own. -/
theorem clone_spec {G h : AH} {col : Nat → Nat} (S : HS G h col) (c : Nat) (hc : c ≠ 0) {v : AV} {l : List Int} (row : IntRow h v l) (stay : ∀ h1 col1, Step (fun x => x = c) col h col1 h1 → IntRow h1 v l) (nz : NZ v) (hm : l.length ≤ 2 ^ 36) :
    EvF (TT gt) X 103 [v] h (fun r h' => ∃ col1, Step (fun x => x = c) col h col1 h' ∧ HS G h' col1 ∧ Vec col1 c h' 3 1 r l.length (l.map (AV.int .i64))) := by
  have hOB := row_tri row
  rcases hOB with rfl | rfl | ⟨id, off, len, cap, ex, rfl⟩
  · have h0 := row_nil row
    have h1 : l = [] := List.eq_nil_of_length_eq_zero h0
    subst h1
    refine EvF.enter rfl rfl rfl ?_
    repeat (first | refine EvO.plain rfl rfl rfl rfl rfl rfl ?_ | refine EvC.seq ?_ | refine EvC.region rfl ?_ | refine EvO.nil ?_ | refine at_normal ?_)
    refine EvC.cond (t := true) rfl (fun _ => ?_) (fun e => nomatch e)
    repeat (first | refine EvO.plain rfl rfl rfl rfl rfl rfl ?_ | refine EvC.seq ?_ | refine EvC.region rfl ?_ | refine EvO.nil ?_ | refine at_normal ?_ | refine EvC.ret ?_ | refine at_ret ?_)
    (refine ret_is (v := .nilSlice) rfl rfl ?_)
    exact ⟨col, Step.refl S, S, .nil⟩
  · refine EvF.enter rfl rfl rfl ?_
    repeat (first | refine EvO.plain rfl rfl rfl rfl rfl rfl ?_ | refine EvC.seq ?_ | refine EvC.region rfl ?_ | refine EvO.nil ?_ | refine at_normal ?_)
    refine EvC.cond (t := false) rfl (fun e => nomatch e) (fun _ => ?_)
    repeat (first | refine EvC.seq ?_ | refine EvC.region rfl ?_ | refine at_normal ?_ | refine EvC.skip ?_)
    (refine EvO.cons rfl rfl rfl (EvP.newC (b := .cells [] 3 false) (mk := .slice 0 0 true) S c rfl rfl hc (fun h1 id col1 A1 S1 o1 c1 _ => ?_)))
    have V1 : Vec col1 c h1 3 1 (.slice id 0 0 0 true) 0 [] := .mk (tail := []) o1 c1 rfl (fun _ => ⟨Nat.le_refl _, rfl⟩)
    have row1 := stay _ _ A1
    repeat (refine EvO.plain rfl rfl rfl rfl rfl rfl ?_)
    (refine EvO.cons rfl rfl rfl (EvP.appendRow S1 V1 hc row1 nz (fun i hi => rfl) rfl rfl rfl rfl rfl rfl rfl rfl rfl rfl (by show (0 + l.length) * 8 ≤ 70368744177664; omega) (by omega) (fun v2 h2 col2 A2 S2 V2 => ?_)))
    repeat (first | refine EvO.plain rfl rfl rfl rfl rfl rfl ?_ | refine EvO.nil ?_ | refine at_normal ?_ | refine EvC.ret ?_)
    (refine ret_is (v := v2) rfl rfl ?_)
    refine ⟨col2, A1.trans A2, S2, ?_⟩
    rw [Nat.zero_add, List.nil_append, range_ints] at V2; exact V2
  · refine EvF.enter rfl rfl rfl ?_
    repeat (first | refine EvO.plain rfl rfl rfl rfl rfl rfl ?_ | refine EvC.seq ?_ | refine EvC.region rfl ?_ | refine EvO.nil ?_ | refine at_normal ?_)
    refine EvC.cond (t := false) rfl (fun e => nomatch e) (fun _ => ?_)
    repeat (first | refine EvC.seq ?_ | refine EvC.region rfl ?_ | refine at_normal ?_ | refine EvC.skip ?_)
    (refine EvO.cons rfl rfl rfl (EvP.newC (b := .cells [] 3 false) (mk := .slice 0 0 true) S c rfl rfl hc (fun h1 id1 col1 A1 S1 o1 c1 _ => ?_)))
    have V1 : Vec col1 c h1 3 1 (.slice id1 0 0 0 true) 0 [] := .mk (tail := []) o1 c1 rfl (fun _ => ⟨Nat.le_refl _, rfl⟩)
    have row1 := stay _ _ A1
    repeat (refine EvO.plain rfl rfl rfl rfl rfl rfl ?_)
    (refine EvO.cons rfl rfl rfl (EvP.appendRow S1 V1 hc row1 nz (fun i hi => rfl) rfl rfl rfl rfl rfl rfl rfl rfl rfl rfl (by show (0 + l.length) * 8 ≤ 70368744177664; omega) (by omega) (fun v2 h2 col2 A2 S2 V2 => ?_)))
    repeat (first | refine EvO.plain rfl rfl rfl rfl rfl rfl ?_ | refine EvO.nil ?_ | refine at_normal ?_ | refine EvC.ret ?_)
    (refine ret_is (v := v2) rfl rfl ?_)
    refine ⟨col2, A1.trans A2, S2, ?_⟩
    rw [Nat.zero_add, List.nil_append, range_ints] at V2; exact V2
end Sa
end Pf
end Go.Proofs.YtfjloafebkjadaaGreatDoor
