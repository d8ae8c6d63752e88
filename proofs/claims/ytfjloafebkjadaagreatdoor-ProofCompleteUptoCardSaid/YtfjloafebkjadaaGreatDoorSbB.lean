/- Going back, and choosing a variable. -/
import Derived.Test.YtfjloafebkjadaaGreatDoorSaZ
import Derived.Test.YtfjloafebkjadaaGreatDoorSbM
/- Going back to a level. -/
namespace Go.Proofs.YtfjloafebkjadaaGreatDoor
namespace Pf
namespace Sa
open Go Go.AI Go.Proofs
variable {gt : Tree (List AV)}
section
variable {T : Tab} {col : Nat → Nat} {c : Nat} {h : AH} {e t : TypeId} {ei : TInfo} {m : Nat} {v : AV} {cs : List AV}
/-- The beginning of a row. -/
theorem Vec.upto (ht : descOf T t = .slice e) (he : T.tt.get e = some ei) (hs : ei.size = 1) (V : Vec col c h e 1 v m cs) {k : Nat} (hk : k ≤ m) : ∃ v', aslice T h t v none (some (.int .i64 k)) none = some v' ∧ Vec col c h e 1 v' k (cs.take k) := by
  have b : ∀ n c, k ≤ c → bounds n c none (some (.int .i64 k)) none = some (0, k, c) := fun n c hc => by
    show (match (if (0 : Int) ≤ (k : Int) ∧ (k : Int) ≤ (c : Int) then some ((k : Int)).toNat else none) with | none => none | some h => some (0, h, c)) = _
    rw [if_pos (by omega)]; rfl
  cases V with
  | nil =>
    have hOB : k = 0 := by omega
    obtain rfl := hOB
    exact ⟨.nilSlice, by simp only [aslice, ht, he]; rw [b 0 0 (Nat.le_refl _)], .nil⟩
  | @mk id _ cap ex _ tail hg hc hn hx =>
    have e1 : cs ++ tail = cs.take k ++ (cs.drop k ++ tail) := by rw [← List.append_assoc, List.take_append_drop]
    rw [Nat.mul_one] at hn
    cases ex with
    | true =>
      have hOB := hx rfl
      obtain ⟨h1, h2⟩ := hOB
      refine ⟨.slice id 0 k cap true, ?_, .mk (tail := cs.drop k ++ tail) (by rw [← e1]; exact hg) hc (by simp; omega) fun _ => ⟨by omega, by rw [← e1]; exact h2⟩⟩
      simp only [aslice, ht, he]
      rw [b _ _ (by omega)]
      simp [cut]
    | false =>
      refine ⟨.slice id 0 k 0 false, ?_, .mk (tail := cs.drop k ++ tail) (by rw [← e1]; exact hg) hc (by simp; omega) fun e => nomatch e⟩
      have hz : szOf T e = 1 := by simp [szOf, he, hs]
      simp only [aslice, ht, he, ownOf, hg, hz, hs]
      rw [if_neg (by omega), Nat.sub_zero, Nat.div_one, b _ _ (by rw [List.length_append]; omega)]
      simp only
      rw [if_neg (by rw [List.length_append]; omega), if_neg (by omega)]
      simp
/-- The end of a row, to be read. -/
theorem Vec.from (ht : descOf T t = .slice e) (he : T.tt.get e = some ei) (hs : ei.size = 1) (V : Vec col c h e 1 v m cs) {k : Nat} (hk : k ≤ m) : ∃ v', aslice T h t v (some (.int .i64 k)) none none = some v' ∧ alen T h t v' = some (.int .i64 (m - k : Nat)) ∧ ∀ (col' : Nat → Nat) (h' : AH), Vec col' c h' e 1 v m cs → RowOf h' 1 v' (m - k) (fun i => [cs.getD (k + i) .undef]) := by
  cases V with
  | nil =>
    have hOB : k = 0 := by omega
    obtain rfl := hOB
    have b : bounds 0 0 (some (.int .i64 ((0 : Nat) : Int))) none none = some (0, 0, 0) := rfl
    exact ⟨.nilSlice, by simp only [aslice, ht, he]; rw [b], by simp only [alen, ht]; rfl, fun _ _ _ => .nil⟩
  | @mk id _ cap ex _ tail hg hc hn hx =>
    rw [Nat.mul_one] at hn
    have b : ∀ c, m ≤ c → bounds m c (some (.int .i64 k)) none none = some (k, m, c) := fun c hc => by
      show (match (if (0 : Int) ≤ (k : Int) ∧ (k : Int) ≤ (m : Int) then some ((k : Int)).toNat else none) with | none => none | some l => some (l, m, c)) = _
      rw [if_pos (by omega)]; rfl
    have row : ∀ (off : Nat) (hoff : off = k ∨ m = k) (cap' : Nat) (ex' : Bool), ∀ (col' : Nat → Nat) (h' : AH), Vec col' c h' e 1 (.slice id 0 m cap ex) m cs → RowOf h' 1 (.slice id off (m - k) cap' ex') (m - k) (fun i => [cs.getD (k + i) .undef]) := fun off hoff cap' ex' col' h' V' => by
      cases V' with
      | @mk _ _ _ _ _ tail' hg' hc' hn' hx' =>
        refine .mk (cs := cs ++ tail') (by unfold cellsOf; rw [hg']) fun i hi => ?_
        have hok : off = k := by rcases hoff with h1 | h1 <;> omega
        subst hok
        unfold sub
        rw [if_pos (by rw [List.length_append]; omega)]
        have h3 : off + i * 1 < (cs ++ tail').length := by rw [List.length_append]; omega
        rw [List.take_one, List.head?_drop, List.getElem?_eq_getElem h3, List.getElem_append_left (by omega), List.getD_eq_getElem?_getD, List.getElem?_eq_getElem (by omega)]
        simp
    cases ex with
    | true =>
      have hOB := hx rfl
      obtain ⟨h3, h4⟩ := hOB
      refine ⟨.slice id (if cap = k then 0 else 0 + k * 1) (m - k) (cap - k) true, ?_, by simp only [alen, ht], row _ ?_ _ _⟩
      · simp only [aslice, ht, he, hs]
        rw [b _ h3]; rfl
      · split
        · right; omega
        · left; omega
    | false =>
      have hz : szOf T e = 1 := by simp [szOf, he, hs]
      by_cases hend : k = (cs ++ tail).length ∧ 0 < k
      · have hmk : m - k = 0 := by have := hend.1; rw [List.length_append] at this; omega
        refine ⟨.eslice, ?_, by simp only [alen, ht, hmk]; rfl, fun _ _ _ => by rw [hmk]; exact .empty⟩
        simp only [aslice, ht, he, ownOf, hg, hz, hs]
        rw [if_neg (by omega), Nat.sub_zero, Nat.div_one, b _ (by rw [List.length_append]; omega)]
        simp only
        rw [if_neg (by rw [List.length_append]; omega), if_pos hend]
      · refine ⟨.slice id (0 + k * 1) (m - k) 0 false, ?_, by simp only [alen, ht], row _ (.inl (by omega)) _ _⟩
        simp only [aslice, ht, he, ownOf, hg, hz, hs]
        rw [if_neg (by omega), Nat.sub_zero, Nat.div_one, b _ (by rw [List.length_append]; omega)]
        simp only
        rw [if_neg (by rw [List.length_append]; omega), if_neg hend]
end
/-- What some literals are is forgotten. -/
def vOff (vals : List AV) (l : List Int) : List AV := l.foldl (fun w x => w.set x.natAbs (.int .i8 0)) vals
theorem vOff_at : ∀ (l : List Int) (vals : List AV) (i : Nat), (vOff vals l)[i]? = if (∃ x ∈ l, x.natAbs = i) ∧ i < vals.length then some (.int .i8 0) else vals[i]?
  | [], vals, i => by simp [vOff]
  | x :: l, vals, i => by
    show (vOff (vals.set x.natAbs (.int .i8 0)) l)[i]? = _
    rw [vOff_at l, List.length_set, List.getElem?_set]
    by_cases h1 : (∃ y ∈ l, y.natAbs = i) ∧ i < vals.length
    · rw [if_pos h1, if_pos ⟨by obtain ⟨⟨y, h2, h3⟩, _⟩ := h1; exact ⟨y, List.mem_cons_of_mem _ h2, h3⟩, h1.2⟩]
    · rw [if_neg h1]
      by_cases h2 : x.natAbs = i
      · subst h2
        rw [if_pos rfl]
        by_cases h3 : x.natAbs < vals.length
        · rw [if_pos h3, if_pos ⟨⟨x, List.mem_cons_self .., rfl⟩, h3⟩]
        · rw [if_neg h3, if_neg (fun h => h3 h.2), List.getElem?_eq_none (by omega)]
      · rw [if_neg h2, if_neg]
        rintro ⟨⟨y, h3, h4⟩, h5⟩
        have hOB := List.mem_cons.1 h3
        rcases hOB with rfl | h3
        · exact h2 h4
        · exact h1 ⟨⟨y, h3, h4⟩, h5⟩
theorem vOff_len : ∀ (l : List Int) (vals : List AV), (vOff vals l).length = vals.length
  | [], _ => rfl
  | x :: l, vals => by
    show (vOff (vals.set x.natAbs (.int .i8 0)) l).length = _
    rw [vOff_len l, List.length_set]
theorem vOff_val {n : Nat} {S : Ws} (T : TI n S) (e : Nat) : vOff (valT n S.tr) (S.tr.drop e) = valT n (S.tr.take e) := by
  apply List.ext_getElem?
  intro i
  rw [vOff_at]
  have hl : (valT n S.tr).length = n + 1 := by simp [valT]
  have hsp : ∀ x, x ∈ S.tr ↔ x ∈ S.tr.take e ∨ x ∈ S.tr.drop e := fun x => by
    rw [← List.mem_append, List.take_append_drop]
  have hnd := T.nodup
  rw [← List.take_append_drop e S.tr, List.nodup_append] at hnd
  by_cases hi : i < n + 1
  · rw [valT_at hi, valT_at hi, hl]
    by_cases hx : ∃ x ∈ S.tr.drop e, x.natAbs = i
    · rw [if_pos ⟨hx, hi⟩]
      obtain ⟨x, h1, h2⟩ := hx
      have hxt := (hsp x).2 (.inr h1)
      have key : ∀ z : Int, z.natAbs = i → z ∉ S.tr.take e := fun z hz hm => by
        have : z = x ∨ z = -x := by omega
        rcases this with rfl | rfl
        · exact hnd.2.2 _ hm _ h1 rfl
        · exact T.cons _ hxt ((hsp _).2 (.inl hm))
      have : ofT (S.tr.take e) (i : Int) = 0 := ofT_zero.2 ⟨key _ (by omega), key _ (by omega)⟩
      rw [this]
    · rw [if_neg (fun h => hx h.1)]
      have key : ∀ z : Int, z.natAbs = i → (z ∈ S.tr ↔ z ∈ S.tr.take e) := fun z hz => by
        rw [hsp]; exact ⟨fun h => h.resolve_right fun h2 => hx ⟨z, h2, hz⟩, .inl⟩
      have h1 := key (i : Int) (by omega)
      have h2 := key (-(i : Int)) (by omega)
      have : ofT S.tr (i : Int) = ofT (S.tr.take e) (i : Int) := by unfold ofT; simp only [h1, h2]
      rw [this]
  · rw [if_neg (by rw [hl]; exact fun h => hi h.2)]
    have : ∀ t, (valT n t)[i]? = none := fun t => by rw [List.getElem?_eq_none]; simp [valT]; omega
    rw [this, this]
section
variable {G h h1 h2 : AH} {col col1 col2 : Nat → Nat} {n x : Nat} {V : Lay} {S : Sr} {vals : List AV}
theorem AtX.setEnds (C : AtX G h col n V S vals x) (A : Step (fun c => c = 26) col h col1 h1) {es : List Nat} {ev : AV} (v1 : Vec col1 26 h1 3 1 ev es.length (es.map fun e : Nat => AV.int .i64 e))
    (B : Step (fun c => c = 20) col1 h1 col2 h2) (hs2 : HS G h2 col2) (o2 : h2.t.get V.p = some (.cells (objV n { V with ev := ev } S) 121 false)) : AtX G h2 col2 n { V with ev := ev } { S with s := { S.s with ends := es } } vals x where
  hs := hs2
  obj := o2
  cpp := (B.old _ (Nat.lt_of_lt_of_le (C.hs.wf.lt (C.obj)) A.nx)).trans ((A.old _ (C.hs.wf.lt (C.obj))).trans (C.cpp))
  val := ((C.val).step A C.hs.wf (by first | exact fun e => e | omega)).step B A.wf (by first | exact fun e => e | omega)
  lev := ((C.lev).step A C.hs.wf (by first | exact fun e => e | omega)).step B A.wf (by first | exact fun e => e | omega)
  why := ((C.why).step A C.hs.wf (by first | exact fun e => e | omega)).step B A.wf (by first | exact fun e => e | omega)
  wat := ((C.wat).step A C.hs.wf (by first | exact fun e => e | omega)).step B A.wf (by first | exact fun e => e | omega)
  row := fun j hj hx => by obtain ⟨u, h3, h4⟩ := C.row j hj hx; exact ⟨u, h3, ((h4).step A C.hs.wf (by first | exact fun e => e | omega)).step B A.wf (by first | exact fun e => e | omega)⟩
  trl := ((C.trl).step A C.hs.wf (by first | exact fun e => e | omega)).step B A.wf (by first | exact fun e => e | omega)
  ends := v1.step B A.wf (by omega)
  sco := ((C.sco).step A C.hs.wf (by first | exact fun e => e | omega)).step B A.wf (by first | exact fun e => e | omega)
  lea := ((C.lea).step A C.hs.wf (by first | exact fun e => e | omega)).step B A.wf (by first | exact fun e => e | omega)
  lear := C.lear
  clp := C.clp
  cll := C.cll
  cob := fun k hk => ⟨(B.get A.wf ((A.get C.hs.wf ((C.cob k hk).1) (by first | exact fun e => e | (rw [(C.cob k hk).2]; omega))).1) (by first | exact fun e => e | (rw [(A.get C.hs.wf ((C.cob k hk).1) (by first | exact fun e => e | (rw [(C.cob k hk).2]; omega))).2, (C.cob k hk).2]; omega))).1, (B.old _ (Nat.lt_of_lt_of_le (C.hs.wf.lt ((C.cob k hk).1)) A.nx)).trans ((A.old _ (C.hs.wf.lt ((C.cob k hk).1))).trans ((C.cob k hk).2))⟩
  cli := fun k hk => ((C.cli k hk).step A C.hs.wf (by first | exact fun e => e | omega)).step B A.wf (by first | exact fun e => e | omega)
  yok := C.yok
  sml := C.sml
  many := C.many
theorem offW_snoc (why : List (Option Nat)) (l : List Int) (x : Int) : offW why (l ++ [x]) = (offW why l).set x.natAbs none := by
  unfold offW; rw [List.foldl_append]; rfl
theorem vOff_snoc (vals : List AV) (l : List Int) (x : Int) : vOff vals (l ++ [x]) = (vOff vals l).set x.natAbs (.int .i8 0) := by
  unfold vOff; rw [List.foldl_append]; rfl
set_option maxHeartbeats 8000000 in
theorem back_spec {L : List (List Int)} (C : At G h col n V S) (T : TI n S.s) (I : LInv n L S) {j : Nat} (hj : j < S.s.ends.length) :
    EvF (TT gt) X 104 [.ptr V.p 0, .int .i64 j] h (fun r h' => r = .tuple [] ∧ ∃ col' tv ev, Step SR col h col' h' ∧ At G h' col' n { V with tv := tv, ev := ev } (S.back j)) := by
  have hsml := C.sml
  have htl := T.len
  have he := I.ele _ (ends_at hj)
  have hey : ∀ e', S.s.ends.getD j 0 = e' → e' ≤ S.s.tr.length := fun e' h => h ▸ he
  have f1 := C.fld (gt := gt) (t := 35) (off := 6) rfl rfl rfl
  have ln := C.ends.row.len (T := TT gt) (t := 35) rfl
  refine EvF.enter rfl rfl rfl ?_
  repeat (first | refine EvO.plain rfl rfl rfl rfl rfl rfl ?_ | refine EvO.plain rfl rfl rfl rfl rfl (by assumption) ?_ | refine EvC.seq ?_ | refine EvC.region rfl ?_ | refine EvO.nil ?_ | refine at_normal ?_)
  refine EvC.decide rfl (fun hlt => ?_) (fun hlt => ?_)
  · omega
  · clear ln
    have endsAt : ∀ {h' : AH} {col' : Nat → Nat} {V' : Lay} {S' : Sr} {vals' : List AV}, V'.ev = V.ev → S'.s.ends = S.s.ends → AtX G h' col' n V' S' vals' (2 * n + 2) → ∃ a b, aindexAddr (TT gt) 35 V.ev (.int .i64 j) = some (.ptr a b) ∧ aload (TT gt) h' 3 (.ptr a b) = some (.int .i64 (S.s.ends.getD j 0 : Nat)) := fun {h' col' V' S' vals'} e1 e2 C' => by
      have v := C'.ends
      rw [e1, e2] at v
      have e3 : (S.s.ends.map fun e : Nat => AV.int .i64 e) = (S.s.ends.map fun e : Nat => (e : Int)).map (AV.int .i64) := by rw [List.map_map]; rfl
      rw [e3] at v
      have v : Vec col' 26 h' 3 1 V.ev (S.s.ends.map fun e : Nat => (e : Int)).length ((S.s.ends.map fun e : Nat => (e : Int)).map (AV.int .i64)) := by rw [List.length_map]; exact v
      have hOB := Vec.atI (gt := gt) v (i := j) (by omega) (by rw [List.length_map]; omega)
      obtain ⟨a, b, h3, h4⟩ := hOB
      refine ⟨a, b, h3, ?_⟩
      rw [h4, Int.toNat_natCast, List.getD_eq_getElem?_getD, List.getElem?_map, List.getD_eq_getElem?_getD, List.getElem?_eq_getElem hj]; rfl
    have hOB := endsAt rfl rfl C
    obtain ⟨qa, qb, a1, a2⟩ := hOB
    have f2 := C.fld (gt := gt) (t := 35) (off := 5) rfl rfl rfl
    have hOB := Vec.from (T := TT gt) (t := 35) rfl rfl rfl C.trl he
    obtain ⟨dv, hsl, hdl, hdr⟩ := hOB
    repeat (first | refine EvC.seq ?_ | refine at_normal ?_ | refine EvC.skip ?_)
    refine EvC.drawn (p := [⟨0, false, 0, 0⟩, ⟨1, false, 0, 0⟩, ⟨2, false, 0, 0⟩, ⟨3, false, 0, 0⟩, ⟨4, false, 0, 0⟩, ⟨5, false, 0, 0⟩, ⟨6, false, 0, 0⟩, ⟨7, false, 0, 0⟩, ⟨8, false, 0, 0⟩, ⟨9, false, 0, 0⟩, ⟨10, false, 0, 0⟩, ⟨11, false, 0, 0⟩, ⟨12, false, 0, 0⟩, ⟨13, false, 0, 0⟩]) rfl (by kernel_rfl) (by kernel_rfl) rfl ?_
    repeat (first | refine at_normal ?_ | refine EvC.block ?_ | refine EvR.nil ?_ | refine EvR.plain rfl rfl rfl rfl rfl rfl rfl ?_ | refine EvR.plain rfl rfl rfl rfl rfl rfl (by assumption) ?_)
    clear a2 f1 f2 hsl hdl
    generalize hE : S.s.ends.getD j 0 = e at *
    have hDl : (S.s.tr.drop e).length = S.s.tr.length - e := List.length_drop ..
    refine EvC.loop (fun m σ h' => ∃ (i : Nat) (cx : Nat → Nat) (E : Nat → AV), Step SR col h cx h' ∧ AtX G h' cx n V { S with why := offW S.why ((S.s.tr.drop e).take i) } (vOff (valT n S.s.tr) ((S.s.tr.drop e).take i)) (2 * n + 2) ∧ i ≤ S.s.tr.length - e ∧ m = S.s.tr.length - e - i ∧ σ = upds [(0, .ptr V.p 0), (1, .int .i64 j), (25, dv), (26, .int .i64 (S.s.tr.length - e : Nat)), (27, .int .i64 i)] E) (S.s.tr.length - e) ?_ ?_
    · exact ⟨0, col, _, Step.refl C.hs, C, Nat.zero_le _, rfl, hold ⟨rfl, rfl, rfl, rfl, rfl, trivial⟩⟩
    · rintro m _ h1 ⟨i, c1, E, A1, C1, hi, rfl, rfl⟩
      repeat (first | refine EvO.plain rfl rfl rfl rfl rfl rfl ?_ | refine EvC.seq ?_ | refine EvC.region rfl ?_ | refine EvO.nil ?_ | refine at_normal ?_)
      refine EvC.decide rfl (fun hil => ?_) (fun hil => ?_)
      · have hil : i < S.s.tr.length - e := by omega
        have hOB := (hdr _ _ C1.trl).at1 (T := TT gt) (t := 35) (e := 3) rfl rfl rfl rfl (k := .i64) (i := i) (by omega) (by omega)
        obtain ⟨q, b1, b2⟩ := hOB
        have hpi : e + i < S.s.tr.length := by omega
        have hxo := T.oks _ (mem_getD hpi)
        have hD : (S.s.tr.drop e).take (i + 1) = (S.s.tr.drop e).take i ++ [S.s.tr.getD (e + i) 0] := by
          rw [List.take_add_one, List.getElem?_drop, List.getElem?_eq_getElem hpi, List.getD_eq_getElem?_getD, List.getElem?_eq_getElem hpi]; rfl
        have b2 : aload (TT gt) h1 3 q = some (.int .i64 (S.s.tr.getD (e + i) 0)) := by
          rw [b2, Int.toNat_natCast, List.getD_eq_getElem?_getD]
          show some ((((S.s.tr.map (AV.int .i64)))[e + i]?).getD .undef) = _
          rw [List.getElem?_map, List.getElem?_eq_getElem hpi, List.getD_eq_getElem?_getD, List.getElem?_eq_getElem hpi]; rfl
        have hW := offW_snoc S.why ((S.s.tr.drop e).take i) (S.s.tr.getD (e + i) 0)
        have hV := vOff_snoc (valT n S.s.tr) ((S.s.tr.drop e).take i) (S.s.tr.getD (e + i) 0)
        rw [← hD] at hW hV
        generalize S.s.tr.getD (e + i) 0 = x at *
        obtain ⟨x0, x1, x2⟩ := hxo
        have hnn : (max x (-x)).toNat = x.natAbs := by omega
        have f3 := C1.fld (gt := gt) (t := 107) (off := 1) rfl rfl rfl
        have hOB := C1.val.at1 (T := TT gt) (t := 107) (k := .i64) (i := max x (-x)) rfl rfl rfl rfl (by omega) (by omega)
        obtain ⟨p2, u2, d1, d2, d3⟩ := hOB
        clear d2 d3
        repeat (first | refine EvO.plain rfl rfl rfl rfl rfl rfl ?_ | refine EvO.plain rfl rfl rfl rfl rfl (by assumption) ?_ | refine EvC.seq ?_ | refine EvC.region rfl ?_ | refine EvO.nil ?_ | refine at_normal ?_ | refine EvC.skip ?_ | refine EvC.block ?_ | refine EvO.cons rfl rfl rfl (EvP.neg64 rfl (by omega) ?_) | refine EvO.cons rfl rfl rfl (EvP.max rfl rfl rfl rfl ?_))
        refine EvO.cons0 rfl rfl (EvP.setV (T := TT gt) (t := 107) (k := .i64) (i := max x (-x)) (u := .int .i8 0) C1.hs C1.val (by decide) rfl rfl rfl (by omega) (by omega) d1 rfl rfl rfl rfl (fun h2 A2 N2 X2 _ => ?_))
        have C2 := C1.setVal A2 N2 X2
        clear f3 d1 b2
        have f4 := C2.fld (gt := gt) (t := 118) (off := 3) rfl rfl rfl
        have hOB := C2.why.at1 (T := TT gt) (t := 118) (k := .i64) (i := max x (-x)) rfl rfl rfl rfl (by omega) (by omega)
        obtain ⟨p3, u3, d1, d2, d3⟩ := hOB
        clear d2 d3
        repeat (first | refine EvO.plain rfl rfl rfl rfl rfl rfl ?_ | refine EvO.plain rfl rfl rfl rfl rfl (by assumption) ?_ | refine EvC.region rfl ?_ | refine EvO.nil ?_ | refine at_normal ?_)
        refine EvO.cons0 rfl rfl (EvP.setV (T := TT gt) (t := 118) (k := .i64) (i := max x (-x)) (u := whyV V.cp none) C2.hs C2.why (by decide) rfl rfl rfl (by omega) (by omega) d1 rfl rfl rfl rfl (fun h3 A3 N3 X3 _ => ?_))
        rw [← List.map_set] at X3
        have C3 := C2.setWhy A3 N3 X3 (fun w hw k e' => by
          have hOB := List.mem_or_eq_of_mem_set hw
          rcases hOB with h5 | h5
          · exact C2.yok w h5 k e'
          · rw [h5] at e'; cases e')
        rw [hnn, ← hV] at C3
        rw [← hW] at C3
        clear f4 d1
        repeat (first | refine EvO.plain rfl rfl rfl rfl rfl rfl ?_ | refine EvC.region rfl ?_ | refine EvO.nil ?_ | refine at_normal ?_ | refine be_normal ?_ | refine ro_normal ?_ | refine EvO.cons rfl rfl rfl (EvP.add64 rfl rfl (by omega) ?_))
        exact ⟨S.s.tr.length - e - (i + 1), by omega, i + 1, c1, _, (A1.trans (A2.mono fun c e => by simp only [SR]; omega)).trans (A3.mono fun c e => by simp only [SR]; omega), C3, by omega, rfl, hold ⟨rfl, rfl, rfl, rfl, rfl, trivial⟩⟩
      · have hend : i = S.s.tr.length - e := by omega
        subst hend
        rw [← hDl, List.take_length, vOff_val T] at C1
        clear hdr a1
        have hOB := endsAt (V' := V) (S' := { S with why := offW S.why (S.s.tr.drop e) }) rfl rfl C1
        obtain ⟨qa, qb, a1, a2⟩ := hOB
        have f1 := C1.fld (gt := gt) (t := 35) (off := 6) rfl rfl rfl
        have f2 := C1.fld (gt := gt) (t := 35) (off := 5) rfl rfl rfl
        have hOB := Vec.upto (T := TT gt) (t := 35) rfl rfl rfl C1.trl he
        obtain ⟨tv, hsl, VT⟩ := hOB
        repeat (first | refine EvC.seq ?_ | refine at_normal ?_ | refine EvC.exit ?_ | refine at_exit ?_ | refine be_same rfl ?_ | refine ro_exit ?_)
        refine EvC.drawn (p := [⟨0, false, 0, 0⟩, ⟨1, false, 0, 0⟩, ⟨2, false, 0, 0⟩, ⟨3, false, 0, 0⟩, ⟨4, false, 0, 0⟩, ⟨5, false, 0, 0⟩, ⟨6, false, 0, 0⟩, ⟨7, false, 0, 0⟩, ⟨8, false, 0, 0⟩, ⟨9, false, 0, 0⟩, ⟨10, false, 0, 0⟩, ⟨11, false, 0, 0⟩, ⟨12, false, 0, 0⟩, ⟨13, false, 0, 0⟩, ⟨14, false, 0, 0⟩, ⟨15, true, 0, 1⟩]) rfl (by kernel_rfl) (by kernel_rfl) rfl ?_
        repeat (first | refine EvR.plain rfl rfl rfl rfl rfl rfl rfl ?_ | refine EvR.plain rfl rfl rfl rfl rfl rfl (by assumption) ?_)
        (refine EvR.cons0 rfl rfl rfl (EvP.store1 (u := tv) C1.hs 20 C1.obj C1.cpp (by decide) rfl rfl rfl rfl VT.sc (by show 5 < 13; decide) (fun h2 A2 N2 o2 _ _ => ?_)))
        have C2 := C1.setTr (tr := S.s.tr.take e) (tv := tv) (Step.refl C1.hs) (by rw [List.length_take, Nat.min_eq_left he, List.map_take]; exact VT) A2 N2 o2
        clear a1 a2 f1 f2 hsl
        have f3 := C2.fld (gt := gt) (t := 35) (off := 6) rfl rfl rfl
        have hOB := Vec.upto (T := TT gt) (t := 35) rfl rfl rfl C2.ends (Nat.le_of_lt hj)
        obtain ⟨ev, hsl, VE⟩ := hOB
        repeat (first | refine EvO.plain rfl rfl rfl rfl rfl rfl ?_ | refine EvO.plain rfl rfl rfl rfl rfl (by assumption) ?_ | refine EvC.seq ?_ | refine EvC.region rfl ?_ | refine at_normal ?_ | refine EvR.nil ?_)
        refine EvO.cons0 rfl rfl (EvP.store1 (u := ev) C2.hs 20 C2.obj C2.cpp (by decide) rfl rfl rfl rfl VE.sc (by show 6 < 13; decide) (fun h3 A3 N3 o3 _ _ => ?_))
        have C3 := C2.setEnds (es := S.s.ends.take j) (ev := ev) (Step.refl C2.hs) (by rw [List.length_take, Nat.min_eq_left (Nat.le_of_lt hj), List.map_take]; exact VE) A3 N3 o3
        clear f3 hsl
        have f4 := C3.fld (gt := gt) (t := 35) (off := 5) rfl rfl rfl
        have ln := C3.trl.row.len (T := TT gt) (t := 35) rfl
        have hel : (S.s.tr.take e).length = e := by rw [List.length_take]; omega
        have ln : alen (TT gt) h3 35 tv = some (.int .i64 (e : Nat)) := by rw [← hel]; exact ln
        repeat (first | refine EvO.plain rfl rfl rfl rfl rfl rfl ?_ | refine EvO.plain rfl rfl rfl rfl rfl (by assumption) ?_ | refine EvC.region rfl ?_ | refine EvO.nil ?_ | refine at_normal ?_)
        refine EvO.cons0 rfl rfl (EvP.store1 (u := .int .i64 ((e : Nat) : Int)) C3.hs 20 C3.obj C3.cpp (by decide) rfl rfl rfl rfl ⟨rfl, rfl⟩ (by show 7 < 13; decide) (fun h4 A4 N4 o4 _ _ => ?_))
        have C4 := C3.setHead (k := e) A4 N4 o4
        clear f4 ln
        repeat (refine EvO.nil ?_)
        have hb : S.back j = { S with s := { S.s with tr := S.s.tr.take e, ends := S.s.ends.take j, head := e }, why := offW S.why (S.s.tr.drop e) } := by unfold Sr.back Ws.back; rw [hE]
        rw [hb]
        refine end_normal rfl ⟨rfl, c1, tv, ev, ?_, C4⟩
        exact ((A1.trans (A2.mono fun c e => by simp only [SR]; omega)).trans (A3.mono fun c e => by simp only [SR]; omega)).trans (A4.mono fun c e => by simp only [SR]; omega)
end
end Sa
end Pf
end Go.Proofs.YtfjloafebkjadaaGreatDoor
/- A free variable; the model that was found. -/
namespace Go.Proofs.YtfjloafebkjadaaGreatDoor
namespace Pf
namespace Sa
open Go Go.AI Go.Proofs
variable {gt : Tree (List AV)}
section
variable {G h : AH} {col : Nat → Nat} {n : Nat} {V : Lay} {S : Sr}
set_option maxHeartbeats 8000000 in
theorem pick_spec (C : At G h col n V S) :
    EvF (TT gt) X 108 [.ptr V.p 0] h (fun r h' => h' = h ∧ ∃ b : Nat, r = .int .i64 b ∧ ((b = 0 ∧ ∀ v : Nat, 1 ≤ v → v ≤ n → ofT S.s.tr v ≠ 0) ∨ (1 ≤ b ∧ b ≤ n ∧ ofT S.s.tr b = 0))) := by
  have hsml := C.sml
  have f0 := C.fld (gt := gt) (t := 3) (off := 0) rfl rfl rfl
  have f1 := C.fld (gt := gt) (t := 107) (off := 1) rfl rfl rfl
  have f8 := C.fld (gt := gt) (t := 35) (off := 8) rfl rfl rfl
  have hscl : S.score.length = n + 1 := by have := C.sco.count; simpa using this
  have vs : Vec col 27 h 3 1 V.sv S.score.length (S.score.map (AV.int .i64)) := hscl.symm ▸ C.sco
  refine EvF.enter rfl rfl rfl ?_
  repeat (first | refine EvO.plain rfl rfl rfl rfl rfl rfl ?_ | refine EvC.seq ?_ | refine EvC.region rfl ?_ | refine EvO.nil ?_ | refine at_normal ?_ | refine EvC.block ?_)
  refine EvC.loop (fun m σ h' => h' = h ∧ ∃ (v b : Nat) (E : Nat → AV), 1 ≤ v ∧ v ≤ n + 1 ∧ ((b = 0 ∧ ∀ w : Nat, 1 ≤ w → w < v → ofT S.s.tr w ≠ 0) ∨ (1 ≤ b ∧ b ≤ n ∧ ofT S.s.tr b = 0)) ∧ m = n + 1 - v ∧ σ = upds [(0, .ptr V.p 0), (3, .int .i64 b), (4, .int .i64 v)] E) (n) ?_ ?_
  · exact ⟨rfl, 1, 0, _, Nat.le_refl _, by omega, .inl ⟨rfl, fun w h1 h2 => absurd h2 (by omega)⟩, by omega, hold ⟨rfl, rfl, rfl, trivial⟩⟩
  · rintro m _ h ⟨rfl, v, b, E, hv1, hv2, hb, rfl, rfl⟩
    repeat (first | refine EvO.plain rfl rfl rfl rfl rfl rfl ?_ | refine EvO.plain rfl rfl rfl rfl rfl (by assumption) ?_ | refine EvC.seq ?_ | refine EvC.region rfl ?_ | refine EvO.nil ?_ | refine at_normal ?_)
    refine EvC.decide rfl (fun hle => ?_) (fun hle => ?_)
    · have hle : v ≤ n := by omega
      have hOB := C.val.at1 (T := TT gt) (t := 107) (k := .i64) (i := v) rfl rfl rfl rfl (by omega) (by omega)
      obtain ⟨p, u, a1, a2, a3⟩ := hOB
      rw [Int.toNat_natCast, valT_at (by omega)] at a3
      cases a3
      have hOB := Vec.atI (gt := gt) vs (i := v) (by omega) (by omega)
      obtain ⟨xa, xb, d1, d2⟩ := hOB
      have hOB := Vec.atI (gt := gt) vs (i := b) (by omega) (by rcases hb with h | h <;> omega)
      obtain ⟨ya, yb, g1, g2⟩ := hOB
      have hold2 : ofT S.s.tr v ≠ 0 → ((b = 0 ∧ ∀ w : Nat, 1 ≤ w → w < v + 1 → ofT S.s.tr w ≠ 0) ∨ (1 ≤ b ∧ b ≤ n ∧ ofT S.s.tr b = 0)) := fun hne => by
        rcases hb with ⟨h1, h2⟩ | h1
        · refine .inl ⟨h1, fun w h3 h4 => ?_⟩
          have hOB := Nat.lt_or_ge w v
          rcases hOB with h5 | h5
          · exact h2 w h3 h5
          · have hOB : w = v := by omega
            obtain rfl := hOB
            exact hne
        · exact .inr h1
      by_cases hz : ofT S.s.tr v = 0
      · rw [hz] at a2
        by_cases hb0 : b = 0
        · subst hb0
          repeat (first | refine EvC.seq ?_ | refine at_normal ?_ | refine EvC.skip ?_ | refine EvC.block ?_)
          refine EvC.drawn (p := [⟨0, false, 0, 0⟩, ⟨1, false, 0, 0⟩, ⟨2, false, 0, 0⟩, ⟨3, false, 0, 0⟩, ⟨4, false, 0, 0⟩, ⟨5, false, 0, 0⟩, ⟨6, false, 0, 0⟩, ⟨7, false, 0, 0⟩, ⟨8, false, 0, 0⟩, ⟨9, false, 0, 0⟩, ⟨10, false, 0, 0⟩, ⟨11, false, 0, 0⟩, ⟨12, false, 0, 0⟩, ⟨13, false, 0, 0⟩, ⟨14, false, 0, 0⟩, ⟨15, false, 0, 0⟩, ⟨16, false, 0, 0⟩, ⟨17, false, 0, 0⟩, ⟨18, false, 0, 0⟩, ⟨19, false, 0, 0⟩, ⟨20, false, 0, 0⟩, ⟨21, false, 0, 0⟩, ⟨22, false, 0, 0⟩, ⟨23, false, 0, 0⟩, ⟨24, false, 0, 0⟩, ⟨25, false, 0, 0⟩, ⟨26, false, 0, 0⟩, ⟨27, false, 0, 0⟩, ⟨28, false, 0, 0⟩]) rfl (by kernel_rfl) (by kernel_rfl) rfl ?_
          repeat (first | refine EvR.plain rfl rfl rfl rfl rfl rfl rfl ?_ | refine EvR.plain rfl rfl rfl rfl rfl rfl (by assumption) ?_)
          (refine EvR.cons rfl rfl rfl rfl (EvP.quiet (v := .bool true) rfl rfl ?_))
          repeat (first | refine EvR.plain rfl rfl rfl rfl rfl rfl rfl ?_ | refine EvR.plainOn rfl rfl rfl rfl rfl rfl rfl ?_)
          (refine EvR.on rfl rfl rfl rfl (EvP.quiet (v := .bool true) rfl rfl ?_))
          repeat (first | refine at_normal ?_ | refine EvR.nil ?_ | refine EvR.plain rfl rfl rfl rfl rfl rfl rfl ?_ | refine EvR.off rfl rfl rfl rfl ?_ | refine EvR.plainOn rfl rfl rfl rfl rfl rfl rfl ?_)
          refine EvC.cond (t := true) rfl (fun _ => ?_) (fun e => nomatch e)
          clear a2 d1 d2 g1 g2
          repeat (first | refine EvO.plain rfl rfl rfl rfl rfl rfl ?_ | refine EvC.region rfl ?_ | refine EvO.nil ?_ | refine at_normal ?_ | refine be_normal ?_ | refine ro_normal ?_ | refine EvO.cons rfl rfl rfl (EvP.add64 rfl rfl (by omega) ?_))
          exact ⟨n + 1 - (v + 1), by omega, rfl, v + 1, v, _, by omega, by omega, .inr ⟨hv1, hle, hz⟩, rfl, hold ⟨rfl, rfl, rfl, trivial⟩⟩
        · generalize S.score.getD (v : Int).toNat 0 = z1 at *
          generalize S.score.getD (b : Int).toNat 0 = z2 at *
          repeat (first | refine EvC.seq ?_ | refine at_normal ?_ | refine EvC.skip ?_ | refine EvC.block ?_)
          refine EvC.drawn (p := [⟨0, false, 0, 0⟩, ⟨1, false, 0, 0⟩, ⟨2, false, 0, 0⟩, ⟨3, false, 0, 0⟩, ⟨4, false, 0, 0⟩, ⟨5, false, 0, 0⟩, ⟨6, false, 0, 0⟩, ⟨7, false, 0, 0⟩, ⟨8, false, 0, 0⟩, ⟨9, false, 0, 0⟩, ⟨10, false, 0, 0⟩, ⟨11, false, 0, 0⟩, ⟨12, false, 0, 0⟩, ⟨13, false, 0, 0⟩, ⟨14, false, 0, 0⟩, ⟨15, false, 0, 0⟩, ⟨16, false, 0, 0⟩, ⟨17, false, 0, 0⟩, ⟨18, false, 0, 0⟩, ⟨19, false, 0, 0⟩, ⟨20, false, 0, 0⟩, ⟨21, false, 0, 0⟩, ⟨22, false, 0, 0⟩, ⟨23, false, 0, 0⟩, ⟨24, false, 0, 0⟩, ⟨25, false, 0, 0⟩, ⟨26, false, 0, 0⟩, ⟨27, false, 0, 0⟩, ⟨28, false, 0, 0⟩]) rfl (by kernel_rfl) (by kernel_rfl) rfl ?_
          repeat (first | refine EvR.plain rfl rfl rfl rfl rfl rfl rfl ?_ | refine EvR.plain rfl rfl rfl rfl rfl rfl (by assumption) ?_)
          (refine EvR.cons rfl rfl rfl rfl (EvP.quiet (v := .bool true) rfl rfl ?_))
          repeat (first | refine EvR.plain rfl rfl rfl rfl rfl rfl rfl ?_ | refine EvR.plainOn rfl rfl rfl rfl rfl rfl rfl ?_)
          (refine EvR.on rfl rfl rfl rfl (EvP.quiet rfl (isB (beq_false (show ((b : Nat) : Int) ≠ 0 by omega))) ?_))
          repeat (first | refine EvR.plainOn rfl rfl rfl rfl rfl rfl rfl ?_ | refine EvR.plainOn rfl rfl rfl rfl rfl rfl (by assumption) ?_)
          by_cases hgt : z1 > z2
          · (refine EvR.on rfl rfl rfl rfl (EvP.quiet rfl (isB (decide_eq_true hgt)) ?_))
            repeat (first | refine at_normal ?_ | refine EvR.nil ?_ | refine EvR.plain rfl rfl rfl rfl rfl rfl rfl ?_ | refine EvR.plainOn rfl rfl rfl rfl rfl rfl rfl ?_)
            refine EvC.cond (t := true) rfl (fun _ => ?_) (fun e => nomatch e)
            clear a2 d1 d2 g1 g2
            repeat (first | refine EvO.plain rfl rfl rfl rfl rfl rfl ?_ | refine EvC.region rfl ?_ | refine EvO.nil ?_ | refine at_normal ?_ | refine be_normal ?_ | refine ro_normal ?_ | refine EvO.cons rfl rfl rfl (EvP.add64 rfl rfl (by omega) ?_))
            exact ⟨n + 1 - (v + 1), by omega, rfl, v + 1, v, _, by omega, by omega, .inr ⟨hv1, hle, hz⟩, rfl, hold ⟨rfl, rfl, rfl, trivial⟩⟩
          · (refine EvR.on rfl rfl rfl rfl (EvP.quiet rfl (isB (decide_eq_false hgt)) ?_))
            repeat (first | refine at_normal ?_ | refine EvR.nil ?_ | refine EvR.plain rfl rfl rfl rfl rfl rfl rfl ?_ | refine EvR.plainOn rfl rfl rfl rfl rfl rfl rfl ?_)
            refine EvC.cond (t := false) rfl (fun e => nomatch e) (fun _ => ?_)
            clear a2 d1 d2 g1 g2
            repeat (first | refine EvO.plain rfl rfl rfl rfl rfl rfl ?_ | refine EvC.region rfl ?_ | refine EvO.nil ?_ | refine at_normal ?_ | refine EvC.skip ?_ | refine be_normal ?_ | refine ro_normal ?_ | refine EvO.cons rfl rfl rfl (EvP.add64 rfl rfl (by omega) ?_))
            exact ⟨n + 1 - (v + 1), by omega, rfl, v + 1, b, _, by omega, by omega, .inr (hb.resolve_left fun h => hb0 h.1), rfl, hold ⟨rfl, rfl, rfl, trivial⟩⟩
      · have hne := hold2 hz
        have hOB := ofT_rng S.s.tr v
        rcases hOB with h3 | h3 | h3
        · rw [h3] at a2
          repeat (first | refine EvC.seq ?_ | refine at_normal ?_ | refine EvC.skip ?_ | refine EvC.block ?_)
          refine EvC.drawn (p := [⟨0, false, 0, 0⟩, ⟨1, false, 0, 0⟩, ⟨2, false, 0, 0⟩, ⟨3, false, 0, 0⟩, ⟨4, false, 0, 0⟩, ⟨5, false, 0, 0⟩, ⟨6, false, 0, 0⟩, ⟨7, false, 0, 0⟩, ⟨8, false, 0, 0⟩, ⟨9, false, 0, 0⟩, ⟨10, false, 0, 0⟩, ⟨11, false, 0, 0⟩, ⟨12, false, 0, 0⟩, ⟨13, false, 0, 0⟩, ⟨14, false, 0, 0⟩, ⟨15, false, 0, 0⟩, ⟨16, false, 0, 0⟩, ⟨17, false, 0, 0⟩, ⟨18, false, 0, 0⟩, ⟨19, false, 0, 0⟩, ⟨20, false, 0, 0⟩, ⟨21, false, 0, 0⟩, ⟨22, false, 0, 0⟩, ⟨23, false, 0, 0⟩, ⟨24, false, 0, 0⟩, ⟨25, false, 0, 0⟩, ⟨26, false, 0, 0⟩, ⟨27, false, 0, 0⟩, ⟨28, false, 0, 0⟩]) rfl (by kernel_rfl) (by kernel_rfl) rfl ?_
          repeat (first | refine EvR.plain rfl rfl rfl rfl rfl rfl rfl ?_ | refine EvR.plain rfl rfl rfl rfl rfl rfl (by assumption) ?_)
          (refine EvR.cons rfl rfl rfl rfl (EvP.quiet (v := .bool false) rfl rfl ?_))
          repeat (first | refine at_normal ?_ | refine EvR.nil ?_ | refine EvR.plain rfl rfl rfl rfl rfl rfl rfl ?_ | refine EvR.off rfl rfl rfl rfl ?_)
          refine EvC.cond (t := false) rfl (fun e => nomatch e) (fun _ => ?_)
          clear a2 d1 d2 g1 g2
          repeat (first | refine EvO.plain rfl rfl rfl rfl rfl rfl ?_ | refine EvC.region rfl ?_ | refine EvO.nil ?_ | refine at_normal ?_ | refine EvC.skip ?_ | refine be_normal ?_ | refine ro_normal ?_ | refine EvO.cons rfl rfl rfl (EvP.add64 rfl rfl (by omega) ?_))
          exact ⟨n + 1 - (v + 1), by omega, rfl, v + 1, b, _, by omega, by omega, hne, rfl, hold ⟨rfl, rfl, rfl, trivial⟩⟩
        · rw [h3] at a2
          repeat (first | refine EvC.seq ?_ | refine at_normal ?_ | refine EvC.skip ?_ | refine EvC.block ?_)
          refine EvC.drawn (p := [⟨0, false, 0, 0⟩, ⟨1, false, 0, 0⟩, ⟨2, false, 0, 0⟩, ⟨3, false, 0, 0⟩, ⟨4, false, 0, 0⟩, ⟨5, false, 0, 0⟩, ⟨6, false, 0, 0⟩, ⟨7, false, 0, 0⟩, ⟨8, false, 0, 0⟩, ⟨9, false, 0, 0⟩, ⟨10, false, 0, 0⟩, ⟨11, false, 0, 0⟩, ⟨12, false, 0, 0⟩, ⟨13, false, 0, 0⟩, ⟨14, false, 0, 0⟩, ⟨15, false, 0, 0⟩, ⟨16, false, 0, 0⟩, ⟨17, false, 0, 0⟩, ⟨18, false, 0, 0⟩, ⟨19, false, 0, 0⟩, ⟨20, false, 0, 0⟩, ⟨21, false, 0, 0⟩, ⟨22, false, 0, 0⟩, ⟨23, false, 0, 0⟩, ⟨24, false, 0, 0⟩, ⟨25, false, 0, 0⟩, ⟨26, false, 0, 0⟩, ⟨27, false, 0, 0⟩, ⟨28, false, 0, 0⟩]) rfl (by kernel_rfl) (by kernel_rfl) rfl ?_
          repeat (first | refine EvR.plain rfl rfl rfl rfl rfl rfl rfl ?_ | refine EvR.plain rfl rfl rfl rfl rfl rfl (by assumption) ?_)
          (refine EvR.cons rfl rfl rfl rfl (EvP.quiet (v := .bool false) rfl rfl ?_))
          repeat (first | refine at_normal ?_ | refine EvR.nil ?_ | refine EvR.plain rfl rfl rfl rfl rfl rfl rfl ?_ | refine EvR.off rfl rfl rfl rfl ?_)
          refine EvC.cond (t := false) rfl (fun e => nomatch e) (fun _ => ?_)
          clear a2 d1 d2 g1 g2
          repeat (first | refine EvO.plain rfl rfl rfl rfl rfl rfl ?_ | refine EvC.region rfl ?_ | refine EvO.nil ?_ | refine at_normal ?_ | refine EvC.skip ?_ | refine be_normal ?_ | refine ro_normal ?_ | refine EvO.cons rfl rfl rfl (EvP.add64 rfl rfl (by omega) ?_))
          exact ⟨n + 1 - (v + 1), by omega, rfl, v + 1, b, _, by omega, by omega, hne, rfl, hold ⟨rfl, rfl, rfl, trivial⟩⟩
        · exact absurd h3 hz
    · have hend : v = n + 1 := by omega
      subst hend
      repeat (first | refine EvO.plain rfl rfl rfl rfl rfl rfl ?_ | refine EvC.seq ?_ | refine EvC.region rfl ?_ | refine EvO.nil ?_ | refine at_normal ?_ | refine EvC.ret ?_ | refine EvC.exit ?_ | refine at_exit ?_ | refine be_same rfl ?_ | refine ro_exit ?_)
      (refine ret_is (v := .int .i64 b) rfl rfl ?_)
      refine ⟨rfl, b, rfl, ?_⟩
      rcases hb with ⟨h1, h2⟩ | h1
      · exact .inl ⟨h1, fun w h3 h4 => h2 w h3 (by omega)⟩
      · exact .inr h1
end
end Sa
end Pf
end Go.Proofs.YtfjloafebkjadaaGreatDoor
/- What a search's round turns besides. -/
namespace Go.AI
/-- A whole number, whichever. -/
theorem EvP.quietI {T : Tab} {X : Oracle} {σ : Nat → AV} {h : AH} {op : Op} {Q : AV → AH → Prop} (hk : kindOf T op = .quiet) (hv : ∃ z, fquiet T (evf σ) h op = some (.int .i64 z)) (H : ∀ z, Q (.int .i64 z) h) : EvP T X op σ h Q := by
  obtain ⟨z, hz⟩ := hv
  exact EvP.quiet hk hz (H z)
end Go.AI
namespace Go.Proofs.YtfjloafebkjadaaGreatDoor
namespace Pf
namespace Sa
open Go Go.AI Go.Proofs
variable {gt : Tree (List AV)}
section
variable {G G' h h1 h2 : AH} {col col1 col2 : Nat → Nat} {n x : Nat} {V : Lay} {S : Sr} {vals : List AV}
theorem AtX.setWork (C : AtX G h col n V S vals x) (A : Step (fun c => c = 20) col h col1 h1) (hs1 : HS G h1 col1) {z : Int} (o1 : h1.t.get V.p = some (.cells (objV n V { S with work := z }) 121 false)) : AtX G h1 col1 n V { S with work := z } vals x where
  hs := hs1
  obj := o1
  cpp := (A.old _ (C.hs.wf.lt (C.obj))).trans (C.cpp)
  val := (C.val).step A C.hs.wf (by first | exact fun e => e | omega)
  lev := (C.lev).step A C.hs.wf (by first | exact fun e => e | omega)
  why := (C.why).step A C.hs.wf (by first | exact fun e => e | omega)
  wat := (C.wat).step A C.hs.wf (by first | exact fun e => e | omega)
  row := fun j hj hx => by obtain ⟨u, h3, h4⟩ := C.row j hj hx; exact ⟨u, h3, (h4).step A C.hs.wf (by first | exact fun e => e | omega)⟩
  trl := (C.trl).step A C.hs.wf (by first | exact fun e => e | omega)
  ends := (C.ends).step A C.hs.wf (by first | exact fun e => e | omega)
  sco := (C.sco).step A C.hs.wf (by first | exact fun e => e | omega)
  lea := (C.lea).step A C.hs.wf (by first | exact fun e => e | omega)
  lear := C.lear
  clp := C.clp
  cll := C.cll
  cob := fun k hk => ⟨(A.get C.hs.wf ((C.cob k hk).1) (by first | exact fun e => e | (rw [(C.cob k hk).2]; omega))).1, (A.old _ (C.hs.wf.lt ((C.cob k hk).1))).trans ((C.cob k hk).2)⟩
  cli := fun k hk => (C.cli k hk).step A C.hs.wf (by first | exact fun e => e | omega)
  yok := C.yok
  sml := C.sml
  many := C.many
theorem AtX.setBump (C : AtX G h col n V S vals x) (A : Step (fun c => c = 20) col h col1 h1) (hs1 : HS G h1 col1) {z : Int} (o1 : h1.t.get V.p = some (.cells (objV n V { S with bump := z }) 121 false)) : AtX G h1 col1 n V { S with bump := z } vals x where
  hs := hs1
  obj := o1
  cpp := (A.old _ (C.hs.wf.lt (C.obj))).trans (C.cpp)
  val := (C.val).step A C.hs.wf (by first | exact fun e => e | omega)
  lev := (C.lev).step A C.hs.wf (by first | exact fun e => e | omega)
  why := (C.why).step A C.hs.wf (by first | exact fun e => e | omega)
  wat := (C.wat).step A C.hs.wf (by first | exact fun e => e | omega)
  row := fun j hj hx => by obtain ⟨u, h3, h4⟩ := C.row j hj hx; exact ⟨u, h3, (h4).step A C.hs.wf (by first | exact fun e => e | omega)⟩
  trl := (C.trl).step A C.hs.wf (by first | exact fun e => e | omega)
  ends := (C.ends).step A C.hs.wf (by first | exact fun e => e | omega)
  sco := (C.sco).step A C.hs.wf (by first | exact fun e => e | omega)
  lea := (C.lea).step A C.hs.wf (by first | exact fun e => e | omega)
  lear := C.lear
  clp := C.clp
  cll := C.cll
  cob := fun k hk => ⟨(A.get C.hs.wf ((C.cob k hk).1) (by first | exact fun e => e | (rw [(C.cob k hk).2]; omega))).1, (A.old _ (C.hs.wf.lt ((C.cob k hk).1))).trans ((C.cob k hk).2)⟩
  cli := fun k hk => (C.cli k hk).step A C.hs.wf (by first | exact fun e => e | omega)
  yok := C.yok
  sml := C.sml
  many := C.many
/-- A clause is kept as learnt. -/
theorem AtX.setLea (C : AtX G h col n V S vals x) (hl : G.le G') (A : Step (fun c => c = 19 ∨ c = 28 ∨ c = 20) col h col1 h1) (hs1 : HS G' h1 (Sa.fade col1 19)) {nv u : AV} {K : List Int} (o1 : h1.t.get V.p = some (.cells (objV n { V with nv := nv } S) 121 false)) (v1 : Vec col1 28 h1 35 1 nv (S.learnt.length + 1) (V.rn ++ [u])) (row : IntRow G' u K) :
    AtX G' h1 (Sa.fade col1 19) n { V with nv := nv, rn := V.rn ++ [u] } { S with learnt := S.learnt ++ [K] } vals x := by
  have hrn : V.rn.length = S.learnt.length := by have := C.lea.count; omega
  exact {
    hs := hs1, obj := o1
    cpp := by
      have := (A.old _ (C.hs.wf.lt C.obj)).trans C.cpp
      rw [fade_other (by rw [this]; decide)]; exact this
    val := vfade (C.val.step A C.hs.wf (by omega)) (by omega)
    lev := vfade (C.lev.step A C.hs.wf (by omega)) (by omega)
    why := vfade (C.why.step A C.hs.wf (by omega)) (by omega)
    wat := vfade (C.wat.step A C.hs.wf (by omega)) (by omega)
    row := fun j hj hx => by obtain ⟨w, h3, h4⟩ := C.row j hj hx; exact ⟨w, h3, vfade (h4.step A C.hs.wf (by omega)) (by omega)⟩
    trl := vfade (C.trl.step A C.hs.wf (by omega)) (by omega)
    ends := vfade (C.ends.step A C.hs.wf (by omega)) (by omega)
    sco := vfade (C.sco.step A C.hs.wf (by omega)) (by omega)
    lea := by rw [List.length_append]; exact vfade v1 (by omega)
    lear := fun i hi => by
      have hi : i < (S.learnt ++ [K]).length := hi
      rw [List.length_append, List.length_singleton] at hi
      show ∃ a, (V.rn ++ [u])[i]? = some a ∧ IntRow G' a ((S.learnt ++ [K]).getD i [])
      have hOB := Nat.lt_or_ge i S.learnt.length
      rcases hOB with h3 | h3
      · have hOB := C.lear i h3
        obtain ⟨a, h4, h5⟩ := hOB
        rw [List.getElem?_append_left (by omega), getD_app h3]
        exact ⟨a, h4, RowOf.mono hl h5⟩
      · have hOB : i = S.learnt.length := by omega
        obtain rfl := hOB
        rw [List.getElem?_append_right (by omega), getD_new, hrn, Nat.sub_self]
        exact ⟨u, rfl, row⟩
    clp := C.clp, cll := C.cll
    cob := fun k hk => by
      have h3 := C.cob k hk
      have h4 := A.get C.hs.wf h3.1 (by rw [h3.2]; omega)
      exact ⟨h4.1, by rw [fade_other (by rw [h4.2, h3.2]; omega)]; exact h4.2.trans h3.2⟩
    cli := fun k hk => vfade ((C.cli k hk).step A C.hs.wf (by omega)) (by omega)
    yok := C.yok, sml := C.sml, many := C.many }
/-- A clash where no level has begun. -/
theorem clash0 {L : List (List Int)} (I : LInv n L S) (he : S.s.ends = []) {k : Nat} (hk : k < S.s.cls.length) (hf : ∀ y ∈ S.s.c k, -y ∈ S.s.tr) : Clash (L ++ S.learnt) [] := by
  have hOB := I.sub k hk
  obtain ⟨l, h1, h2⟩ := hOB
  refine .inr ⟨l, h1, fun y hy => ?_⟩
  have hOB := mem_pos (hf y ((h2 y).2 hy))
  obtain ⟨p, hp, e⟩ := hOB
  rw [← e]
  exact I.der p hp (by rw [he]; rfl)
/-- Where no level has begun and all is gone through, nothing clashes. -/
theorem calm {L : List (List Int)} (I : LInv n L S) (W : WI n S.s) (T : TI n S.s) (C : CI S.s) (hL : ∀ l ∈ L, ∀ x ∈ l, ok n x) (hb : S.broken = false) (hh : S.s.head = S.s.tr.length) : ¬ Clash L [] := by
  refine no_clash' T.cons (fun x hx => nomatch hx) fun c hc => ?_
  have hOB := I.cov hb c hc
  rcases hOB with ⟨x, h1, h2⟩ | ⟨p, h1, _, h3⟩ | ⟨k, h1, h2⟩
  · exact settled_taut h1 h2 (hL c hc x h1).1
  · exact .inl ⟨_, h3, mem_getD h1⟩
  · exact settled_same h2 (settled_all W T C hh h1)
theorem Spr.kept2 {S' : Sr} (P : Spr n S S') : S'.work = S.work ∧ S'.learnt = S.learnt := by
  induction P with
  | refl => exact ⟨rfl, rfl⟩
  | sw _ _ ih => exact ih
  | mv _ _ _ _ ih => exact ih
  | take _ _ _ _ _ _ ih => exact ih
  | adv _ _ ih => exact ih
theorem LInv.upd {L : List (List Int)} (I : LInv n L S) (sc : List Int) (b w : Int) : LInv n L { S with score := sc, bump := b, work := w } := ⟨I.ll, I.wl, I.srt, I.ele, I.lvs, I.wy, I.wn, I.sub, I.der, I.rup, I.brk, I.cov⟩
theorem fade_no (col : Nat → Nat) {c : Nat} (h0 : c ≠ 0) (i : Nat) : Sa.fade col c i ≠ c := by
  unfold Sa.fade; split
  · exact fun e => h0 e.symm
  · assumption
/-- A search while it runs. -/
structure Rn (n : Nat) (L : List (List Int)) (S : Sr) (w : Nat) : Prop where
  W : WI n S.s
  T : TI n S.s
  C : CI S.s
  I : LInv n L S
  br : S.broken = false
  wk : S.work = (w : Int)
  wl : w ≤ 20000
  ln : S.learnt.length ≤ w
  cl : S.s.cls.length ≤ L.length + w
  el : S.s.ends.length ≤ S.s.tr.length
  ei : ∀ i, i < S.s.ends.length → i ≤ S.s.ends.getD i 0
  nc : S.s.ends ≠ [] → ¬ Clash L []
theorem Rn.elen {w : Nat} {L : List (List Int)} (R : Rn n L S w) : S.s.ends.length ≤ n := Nat.le_trans R.el R.T.len
end
end Sa
end Pf
end Go.Proofs.YtfjloafebkjadaaGreatDoor
