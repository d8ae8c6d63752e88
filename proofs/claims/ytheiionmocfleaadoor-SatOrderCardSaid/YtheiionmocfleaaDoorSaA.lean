/- A clause more. -/
import Derived.Test.YtheiionmocfleaaDoorSaL
namespace Go.Proofs.YtheiionmocfleaaDoor
namespace Pf
namespace Sa
open Go Go.AI Go.Proofs
variable {gt : Tree (List AV)}
theorem getD_app {α : Type} {l m : List α} {d : α} {k : Nat} (h : k < l.length) : (l ++ m).getD k d = l.getD k d := by
  rw [List.getD_eq_getElem?_getD, List.getD_eq_getElem?_getD, List.getElem?_append_left h]
theorem getD_new {α : Type} {l : List α} {x d : α} : (l ++ [x]).getD l.length d = x := by
  rw [List.getD_eq_getElem?_getD, List.getElem?_append_right (Nat.le_refl _)]; simp
section
variable {G h h1 h2 : AH} {col col1 col2 : Nat → Nat} {n x : Nat} {V : Lay} {S : Sr} {vals : List AV}
/-- A clause more. -/
theorem AtX.addCl (C : AtX G h col n V S vals x) {v : AV} {l : List Int} {id : Nat} (A : Step (fun c => c = 43 + 2 * n + 2 * S.s.cls.length) col h col1 h1) (v1 : Vec col1 (43 + 2 * n + 2 * S.s.cls.length) h1 3 1 v l.length (l.map (AV.int .i64))) (B : Step (fun c => c = 42 + 2 * n + 2 * S.s.cls.length) col1 h1 col2 h2) (hs2 : HS G h2 col2)
    (o2 : h2.t.get id = some (.cells [v] 101 false)) (c2 : col2 id = 42 + 2 * n + 2 * S.s.cls.length) (hmany : S.s.cls.length + 1 ≤ 2 ^ 30) (hrow : ∀ j, ∀ k ∈ S.s.row j, k < S.s.cls.length) : AtX G h2 col2 n { V with cp := V.cp ++ [id], cl := V.cl ++ [v] } { S with s := { S.s with cls := S.s.cls ++ [l] } } vals x := by
  have hp := C.clp
  have hl := C.cll
  have hlen : (S.s.cls ++ [l]).length = S.s.cls.length + 1 := by simp
  have ew : S.why.map (whyV (V.cp ++ [id])) = S.why.map (whyV V.cp) := List.map_congr_left fun w hw => by
    cases w with
    | none => rfl
    | some k => show AV.ptr _ 0 = AV.ptr _ 0; rw [getD_app (by rw [hp]; exact C.yok _ hw k rfl)]
  have er : ∀ j, (S.s.row j).map (ptrV (V.cp ++ [id])) = (S.s.row j).map (ptrV V.cp) := fun j => List.map_congr_left fun k hk => by
    show AV.ptr _ 0 = AV.ptr _ 0; rw [getD_app (by rw [hp]; exact hrow j k hk)]
  have hwhy : Vec col2 23 h2 66 1 V.yv (n + 1) (S.why.map (whyV (V.cp ++ [id]))) := by
    rw [ew]; exact (C.why.step A C.hs.wf (by omega)).step B A.wf (by omega)
  have hrw : ∀ j, j < 2 * n + 2 → j ≠ x → ∃ u, V.rw[j]? = some u ∧ Vec col2 (40 + j) h2 66 1 u (S.s.row j).length ((S.s.row j).map (ptrV (V.cp ++ [id]))) := fun j hj hx => by
    have hOB := C.row j hj hx
    obtain ⟨u, h3, h4⟩ := hOB
    exact ⟨u, h3, by rw [er]; exact (h4.step A C.hs.wf (by omega)).step B A.wf (by omega)⟩
  have hcob : ∀ m, m < (S.s.cls ++ [l]).length → h2.t.get ((V.cp ++ [id]).getD m 0) = some (.cells [(V.cl ++ [v]).getD m .nilPtr] 101 false) ∧ col2 ((V.cp ++ [id]).getD m 0) = 42 + 2 * n + 2 * m := fun m hm => by
    rw [hlen] at hm
    have hOB := Nat.lt_or_ge m S.s.cls.length
    rcases hOB with h3 | h3
    · rw [getD_app (by omega), getD_app (by omega)]
      have hOB := C.cob m h3
      obtain ⟨k1, k2⟩ := hOB
      have k3 := A.get C.hs.wf k1 (by rw [k2]; omega)
      have k4 := B.get A.wf k3.1 (by rw [k3.2, k2]; omega)
      exact ⟨k4.1, k4.2.trans (k3.2.trans k2)⟩
    · have hOB : m = S.s.cls.length := by omega
      obtain rfl := hOB
      have e1 : (V.cp ++ [id]).getD S.s.cls.length 0 = id := by rw [← hp]; exact getD_new
      have e2 : (V.cl ++ [v]).getD S.s.cls.length .nilPtr = v := by rw [← hl]; exact getD_new
      rw [e1, e2]
      exact ⟨o2, c2⟩
  have hcli : ∀ m, m < (S.s.cls ++ [l]).length → Vec col2 (43 + 2 * n + 2 * m) h2 3 1 ((V.cl ++ [v]).getD m .nilPtr) ((S.s.cls ++ [l]).getD m []).length (((S.s.cls ++ [l]).getD m []).map (AV.int .i64)) := fun m hm => by
    rw [hlen] at hm
    have hOB := Nat.lt_or_ge m S.s.cls.length
    rcases hOB with h3 | h3
    · rw [getD_app (by omega), getD_app h3]
      exact ((C.cli m h3).step A C.hs.wf (by omega)).step B A.wf (by omega)
    · have hOB : m = S.s.cls.length := by omega
      obtain rfl := hOB
      have e2 : (V.cl ++ [v]).getD S.s.cls.length .nilPtr = v := by rw [← hl]; exact getD_new
      rw [e2, getD_new]
      exact v1.step B A.wf (by omega)
  exact {
    hs := hs2
    obj := (B.get A.wf ((A.get C.hs.wf (C.obj) (by first | exact fun e => e | (rw [C.cpp]; omega))).1) (by first | exact fun e => e | (rw [(A.get C.hs.wf (C.obj) (by first | exact fun e => e | (rw [C.cpp]; omega))).2, C.cpp]; omega))).1
    cpp := (B.old _ (Nat.lt_of_lt_of_le (C.hs.wf.lt (C.obj)) A.nx)).trans ((A.old _ (C.hs.wf.lt (C.obj))).trans (C.cpp))
    val := ((C.val).step A C.hs.wf (by first | exact fun e => e | omega)).step B A.wf (by first | exact fun e => e | omega)
    lev := ((C.lev).step A C.hs.wf (by first | exact fun e => e | omega)).step B A.wf (by first | exact fun e => e | omega)
    why := hwhy
    wat := ((C.wat).step A C.hs.wf (by first | exact fun e => e | omega)).step B A.wf (by first | exact fun e => e | omega)
    row := hrw
    trl := ((C.trl).step A C.hs.wf (by first | exact fun e => e | omega)).step B A.wf (by first | exact fun e => e | omega)
    ends := ((C.ends).step A C.hs.wf (by first | exact fun e => e | omega)).step B A.wf (by first | exact fun e => e | omega)
    sco := ((C.sco).step A C.hs.wf (by first | exact fun e => e | omega)).step B A.wf (by first | exact fun e => e | omega)
    lea := ((C.lea).step A C.hs.wf (by first | exact fun e => e | omega)).step B A.wf (by first | exact fun e => e | omega)
    lear := C.lear
    clp := by simp [hp]
    cll := by simp [hl]
    cob := hcob
    cli := hcli
    yok := fun w hw m e => by { have := C.yok w hw m e; rw [hlen]; omega }
    sml := C.sml
    many := by rw [hlen]; exact hmany
  }
/-- After a clause was laid. -/
def Ws.lay (S : Ws) (l : List Int) : Ws := { S with cls := S.cls ++ [l], wat := addW (addW S.wat (l.getD 0 0) S.cls.length) (l.getD 1 0) S.cls.length }
theorem rows_len {n : Nat} {S : Ws} (W : WI n S) (j : Nat) : (S.row j).length ≤ S.cls.length := by
  have := nodup_len (m := List.range S.cls.length) (W.rnod j) fun k hk => List.mem_range.2 (W.wof j k hk).1
  rwa [List.length_range] at this
/-- What adding a clause does. -/
def Added (S : Sr) (l : List Int) (S' : Sr) : Prop :=
  (l = [] ∧ S' = { S with broken := true }) ∨ (∃ y, l = [y] ∧ ((ofT S.s.tr y = -1 ∧ S' = { S with broken := true }) ∨ (ofT S.s.tr y = 0 ∧ S' = S.take y none) ∨ (ofT S.s.tr y = 1 ∧ S' = S))) ∨
  (2 ≤ l.length ∧ S' = { S with s := S.s.lay l })
theorem add_spec (C : At G h col n V S) (W : WI n S.s) (cons : ∀ y, y ∈ S.s.tr → -y ∉ S.s.tr) (htl : S.s.tr.length ≤ 2 ^ 30) (hel : S.s.ends.length ≤ 2 ^ 30) {v : AV} {l : List Int} (row : IntRow G v l) (nz : NZ v) (hoks : ∀ y ∈ l, ok n y) (hll : l.length ≤ 2 ^ 36) (hmany : S.s.cls.length + 1 ≤ 2 ^ 30) :
    EvF (TT gt) X 64 [.ptr V.p 0, v] h (fun r h' => r = .tuple [] ∧ ∃ col' V' S', V'.p = V.p ∧ Step (fun c => 20 ≤ c) col h col' h' ∧ At G h' col' n V' S' ∧ Added S l S') := by
  have hs := C.sml
  have ln := (row.mono C.hs.le).len (T := TT gt) (t := 25) rfl
  refine EvF.enter rfl rfl rfl ?_
  repeat (first | refine EvO.plain rfl rfl rfl rfl rfl rfl ?_ | refine EvO.plain rfl rfl rfl rfl rfl (by assumption) ?_ | refine EvC.seq ?_ | refine EvC.region rfl ?_ | refine EvO.nil ?_ | refine at_normal ?_ | refine EvC.block ?_)
  by_cases e0 : l.length = 0
  · have hl : l = [] := List.eq_nil_of_length_eq_zero e0
    subst hl
    skip
    refine EvC.cond (t := true) rfl (fun _ => ?_) (fun e => nomatch e)
    repeat (first | refine EvO.plain rfl rfl rfl rfl rfl rfl ?_ | refine EvC.region rfl ?_)
    refine EvO.cons0 rfl rfl (EvP.store1 (u := .bool true) C.hs 20 C.obj C.cpp (by decide) rfl rfl rfl rfl ⟨rfl, rfl⟩ (by show 12 < 13; decide) (fun h7 A7 S7 o7 _ _ => ?_))
    have C7 := C.setBroken (b := true) A7 S7 o7
    repeat (first | refine EvO.nil ?_ | refine be_normal ?_)
    refine end_normal rfl ⟨rfl, col, V, _, rfl, A7.mono fun c e => by omega, C7, .inl ⟨rfl, rfl⟩⟩
  by_cases e1 : l.length = 1
  · have hOB := List.length_eq_one_iff.1 e1
    obtain ⟨y, rfl⟩ := hOB
    have hy := hoks y (List.mem_singleton.2 rfl)
    have hOB := (row.mono C.hs.le).at1 (T := TT gt) (t := 25) (e := 3) rfl rfl rfl rfl (k := .i64) (i := 0) (by omega) (by simp)
    obtain ⟨q, b1, b2⟩ := hOB
    have b2 : aload (TT gt) h 3 q = some (.int .i64 y) := b2
    refine EvC.cond (t := false) rfl (fun e => nomatch e) (fun _ => ?_)
    repeat (first | refine EvO.plain rfl rfl rfl rfl rfl rfl ?_ | refine EvC.seq ?_ | refine EvC.region rfl ?_ | refine EvO.nil ?_ | refine at_normal ?_)
    refine EvC.cond (t := true) rfl (fun _ => ?_) (fun e => nomatch e)
    repeat (first | refine EvO.plain rfl rfl rfl rfl rfl rfl ?_ | refine EvO.plain rfl rfl rfl rfl rfl (by assumption) ?_ | refine EvC.seq ?_ | refine EvC.region rfl ?_)
    (refine EvO.cons rfl rfl rfl (EvP.callF rfl rfl rfl rfl (EvF.mono (of_spec C y hy cons) ?_)))
    rintro _ _ hn ⟨rfl, rfl⟩
    repeat (first | refine EvO.plain rfl rfl rfl rfl rfl rfl ?_ | refine EvC.seq ?_ | refine EvC.region rfl ?_ | refine EvO.nil ?_ | refine at_normal ?_ | refine EvC.block ?_)
    have hOB := ofT_rng S.s.tr y
    rcases hOB with h3 | h3 | h3
    · refine EvC.cond (t := false) (isT (p := (ofT S.s.tr y == -1)) (by rw [h3]; rfl)) (fun e => nomatch e) (fun _ => ?_)
      repeat (first | refine EvO.plain rfl rfl rfl rfl rfl rfl ?_ | refine EvC.seq ?_ | refine EvC.region rfl ?_ | refine EvO.nil ?_ | refine at_normal ?_)
      refine EvC.cond (t := false) (isT (p := (ofT S.s.tr y == 0)) (by rw [h3]; rfl)) (fun e => nomatch e) (fun _ => ?_)
      repeat (first | refine EvC.skip ?_ | refine be_normal ?_)
      refine end_normal rfl ⟨rfl, col, V, S, rfl, Step.refl C.hs, C, .inr (.inl ⟨y, rfl, .inr (.inr ⟨h3, rfl⟩)⟩)⟩
    · refine EvC.cond (t := true) (isT (p := (ofT S.s.tr y == -1)) (by rw [h3]; rfl)) (fun _ => ?_) (fun e => nomatch e)
      repeat (first | refine EvO.plain rfl rfl rfl rfl rfl rfl ?_ | refine EvC.region rfl ?_)
      refine EvO.cons0 rfl rfl (EvP.store1 (u := .bool true) C.hs 20 C.obj C.cpp (by decide) rfl rfl rfl rfl ⟨rfl, rfl⟩ (by show 12 < 13; decide) (fun h7 A7 S7 o7 _ _ => ?_))
      have C7 := C.setBroken (b := true) A7 S7 o7
      repeat (first | refine EvO.nil ?_ | refine be_normal ?_)
      refine end_normal rfl ⟨rfl, col, V, _, rfl, A7.mono fun c e => by omega, C7, .inr (.inl ⟨y, rfl, .inl ⟨h3, rfl⟩⟩)⟩
    · refine EvC.cond (t := false) (isT (p := (ofT S.s.tr y == -1)) (by rw [h3]; rfl)) (fun e => nomatch e) (fun _ => ?_)
      repeat (first | refine EvO.plain rfl rfl rfl rfl rfl rfl ?_ | refine EvC.seq ?_ | refine EvC.region rfl ?_ | refine EvO.nil ?_ | refine at_normal ?_)
      refine EvC.cond (t := true) (isT (p := (ofT S.s.tr y == 0)) (by rw [h3]; rfl)) (fun _ => ?_) (fun e => nomatch e)
      repeat (first | refine EvO.plain rfl rfl rfl rfl rfl rfl ?_ | refine EvO.plain rfl rfl rfl rfl rfl (by assumption) ?_ | refine EvC.region rfl ?_)
      (refine EvO.cons rfl rfl rfl (EvP.callF rfl rfl rfl rfl (EvF.mono (take_spec C y none hy h3 (fun k e => nomatch e) htl hel) ?_)))
      rintro _ h8 _ ⟨rfl, col8, tv, A8, C8⟩
      repeat (first | refine EvO.nil ?_ | refine be_normal ?_)
      refine end_normal rfl ⟨rfl, col8, { V with tv := tv }, S.take y none, rfl, A8.mono fun c e => e.1, C8, .inr (.inl ⟨y, rfl, .inr (.inl ⟨h3, rfl⟩)⟩)⟩
  · have hl2 : 2 ≤ l.length := by omega
    refine EvC.cond (t := false) (isT (p := ((l.length : Int) == 0)) (beq_false (by omega))) (fun e => nomatch e) (fun _ => ?_)
    repeat (first | refine EvO.plain rfl rfl rfl rfl rfl rfl ?_ | refine EvC.seq ?_ | refine EvC.region rfl ?_ | refine EvO.nil ?_ | refine at_normal ?_)
    refine EvC.cond (t := false) (isT (p := ((l.length : Int) == 1)) (beq_false (by omega))) (fun e => nomatch e) (fun _ => ?_)
    repeat (first | refine EvO.plain rfl rfl rfl rfl rfl rfl ?_ | refine EvC.region rfl ?_)
    (refine EvO.cons rfl rfl rfl (EvP.callF rfl rfl rfl rfl (EvF.mono (clone_spec C.hs (43 + 2 * n + 2 * S.s.cls.length) (by omega) (row.mono C.hs.le) (fun h8 col8 A8 => row.mono (HS.step C.hs A8 (by omega)).le) nz hll) ?_)))
    rintro r2 h2 _ ⟨col2, A2, S2, V2⟩
    have hOB := V2.block (by omega)
    obtain ⟨rid, rcap, rex, rtail, hr2, hr3, hr4⟩ := hOB
    subst hr2
    repeat (refine EvO.plain rfl rfl rfl rfl rfl rfl ?_)
    (refine EvO.cons rfl rfl rfl (EvP.newC (b := .cells [.slice rid 0 l.length rcap rex] 101 false) (mk := .ptr) S2 (42 + 2 * n + 2 * S.s.cls.length) rfl rfl (by omega) (fun h3 id col3 A3 S3 o3 c3 _ => ?_)))
    have C3 := C.addCl A2 V2 A3 S3 o3 c3 hmany (fun j k hk => (W.wof j k hk).1)
    have eK : (V.cp ++ [id]).getD S.s.cls.length 0 = id := by rw [← C.clp]; exact getD_new
    have ec : Ws.c { S.s with cls := S.s.cls ++ [l] } S.s.cls.length = l := getD_new
    skip
    have L := lay_spec (gt := gt) (k := S.s.cls.length) C3 (by simp) (by show 2 ≤ (Ws.c { S.s with cls := S.s.cls ++ [l] } S.s.cls.length).length; rw [ec]; exact hl2) (by show ∀ y ∈ Ws.c { S.s with cls := S.s.cls ++ [l] } S.s.cls.length, ok n y; rw [ec]; exact hoks) W.len (fun j => by have h9 := rows_len W j; exact Nat.le_trans h9 (by omega))
    dsimp only at L
    rw [eK] at L
    (refine EvO.cons rfl rfl rfl (EvP.callF rfl rfl rfl rfl (EvF.mono (L) ?_)))
    rintro _ h4 _ ⟨rfl, col4, rw, A4, C4⟩
    repeat (first | refine EvO.nil ?_ | refine be_normal ?_)
    have ew : ∀ i, Ws.w { S.s with cls := S.s.cls ++ [l] } S.s.cls.length i = l.getD i 0 := fun i => congrArg (fun z : List Int => z.getD i 0) ec
    rw [ew, ew] at C4
    refine end_normal rfl ⟨rfl, col4, _, { S with s := S.s.lay l }, ?_, ((A2.mono fun c e => by omega).trans (A3.mono fun c e => by omega)).trans A4, C4, .inr (.inr ⟨hl2, rfl⟩)⟩
    rfl
end
end Sa
end Pf
end Go.Proofs.YtheiionmocfleaaDoor
