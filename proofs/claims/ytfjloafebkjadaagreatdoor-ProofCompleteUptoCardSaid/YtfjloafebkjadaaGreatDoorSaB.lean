/- The clauses of a set are laid; what follows by units holds in each model. -/
import Derived.Test.YtfjloafebkjadaaGreatDoorSaT
import Derived.Test.YtfjloafebkjadaaGreatDoorSaP
/- Objects of a colour that are only read from now on; clauses step by step. -/
namespace Go.Proofs.YtfjloafebkjadaaGreatDoor
namespace Pf
namespace Sa
open Go Go.AI Go.Proofs
theorem dd_snoc : ∀ (l acc : List Int) (x : Int), dd acc (l ++ [x]) = if x ∈ dd acc l then dd acc l else dd acc l ++ [x]
  | [], acc, x => rfl
  | y :: l, acc, x => by rw [List.cons_append, dd, dd, dd_snoc l]
theorem bo_snoc : ∀ (l acc : List Int) (x : Int), bo acc (l ++ [x]) = (bo acc l || decide (-x ∈ dd acc l))
  | [], acc, x => by rw [Bool.eq_iff_iff]; simp [bo, dd]; exact decide_eq_true_iff.symm
  | y :: l, acc, x => by rw [List.cons_append, bo, bo, bo_snoc l, dd, Bool.or_assoc]
/-- The objects of a colour have none. -/
def fade (col : Nat → Nat) (c : Nat) : Nat → Nat := fun i => if col i = c then 0 else col i
theorem fade_other {col : Nat → Nat} {c i : Nat} (h : col i ≠ c) : fade col c i = col i := by unfold fade; rw [if_neg h]
theorem vfade {col : Nat → Nat} {c c' : Nat} {h : AH} {e : TypeId} {sz n : Nat} {v : AV} {cs : List AV} (V : Vec col c' h e sz v n cs) (hc : c' ≠ c) : Vec (fade col c) c' h e sz v n cs := by
  cases V with
  | nil => exact .nil
  | mk hg hc' hn hx => exact .mk hg ((fade_other (by rw [hc']; exact hc)).trans hc') hn hx
theorem HS.fade {G h : AH} {col : Nat → Nat} (S : HS G h col) (c : Nat) : HS G h (fade col c) := ⟨S.wf, S.le, fun i o e => by
  unfold Sa.fade; split
  · rfl
  · exact S.ro i o e, fun i hi => by
  unfold Sa.fade; split
  · rfl
  · exact S.fresh i hi⟩
theorem Step.fade {R : Nat → Prop} {col col1 : Nat → Nat} {h h1 : AH} (A : Step R col h col1 h1) {c : Nat} (hc : ∀ i, col i ≠ c) : Step (fun x => R x ∧ x ≠ c) col h (fade col1 c) h1 where
  old := fun i hi => by rw [fade_other (by rw [A.old i hi]; exact hc i)]; exact A.old i hi
  new := fun i hi h0 => by
    unfold Sa.fade at h0 ⊢
    split at h0
    · exact absurd rfl h0
    · rename_i hne; rw [if_neg hne]; exact ⟨A.new i hi h0, hne⟩
  fresh := fun i hi => by
    unfold Sa.fade; split
    · rfl
    · exact A.fresh i hi
  same := fun i hi hr => A.same i hi fun h => hr ⟨h, hc i⟩
  nx := A.nx
  wf := A.wf
/-- A row of one's own is only read from now on. -/
theorem fadeV {G h : AH} {col : Nat → Nat} {c : Nat} {v : AV} {l : List Int} (S : HS G h col) (V : Vec col c h 3 1 v l.length (l.map (AV.int .i64))) : ∃ G', HS G' h (fade col c) ∧ G.le G' ∧ IntRow G' v l := by
  have S1 := HS.fade S c
  generalize hN : l.length = N at V
  generalize hcs : l.map (AV.int .i64) = cs at V
  cases V with
  | nil =>
    have : l = [] := List.eq_nil_of_length_eq_zero hN
    subst this
    exact ⟨G, S1, fun _ _ e => e, .nil⟩
  | @mk id _ cap ex _ tail hg hc hn hx =>
    subst hN
    subst hcs
    have hf : fade col c id = 0 := by unfold fade; rw [if_pos hc]
    refine ⟨G.add id _, S1.add hg hf, S1.le_add hg, ?_⟩
    have V' : Vec (fun _ => 0) 0 (G.add id (.cells (l.map (AV.int .i64) ++ tail) 3 false)) 3 1 (.slice id 0 l.length cap ex) l.length (l.map (AV.int .i64)) := .mk (AH.get_add ..) rfl hn hx
    exact Vec.ints V'
section
variable {G G' h h1 : AH} {col col1 : Nat → Nat} {n x : Nat} {V : Lay} {S : Sr} {vals : List AV}
theorem AtX.fade (C : AtX G h col n V S vals x) (hl : G.le G') {c : Nat} (hc : c < 20) (hs : HS G' h (fade col c)) : AtX G' h (fade col c) n V S vals x where
  hs := hs
  obj := C.obj
  cpp := (fade_other (by rw [C.cpp]; omega)).trans C.cpp
  val := vfade C.val (by omega)
  lev := vfade C.lev (by omega)
  why := vfade C.why (by omega)
  wat := vfade C.wat (by omega)
  row := fun j hj hx => by obtain ⟨u, h3, h4⟩ := C.row j hj hx; exact ⟨u, h3, vfade h4 (by omega)⟩
  trl := vfade C.trl (by omega)
  ends := vfade C.ends (by omega)
  sco := vfade C.sco (by omega)
  lea := vfade C.lea (by omega)
  lear := fun i hi => by obtain ⟨a, h3, h4⟩ := C.lear i hi; exact ⟨a, h3, RowOf.mono hl h4⟩
  clp := C.clp
  cll := C.cll
  cob := fun k hk => ⟨(C.cob k hk).1, (fade_other (by rw [(C.cob k hk).2]; omega)).trans (C.cob k hk).2⟩
  cli := fun k hk => vfade (C.cli k hk) (by omega)
  yok := C.yok
  sml := C.sml
  many := C.many
theorem AtX.setSco (C : AtX G h col n V S vals x) (A : Step (fun c => c = 27) col h col1 h1) (hs1 : HS G h1 col1) {l : List Int} (v1 : Vec col1 27 h1 3 1 V.sv (n + 1) (l.map (AV.int .i64))) : AtX G h1 col1 n V { S with score := l } vals x where
  hs := hs1
  obj := (A.get C.hs.wf (C.obj) (by first | exact fun e => e | (rw [C.cpp]; omega))).1
  cpp := (A.old _ (C.hs.wf.lt (C.obj))).trans (C.cpp)
  val := (C.val).step A C.hs.wf (by first | exact fun e => e | omega)
  lev := (C.lev).step A C.hs.wf (by first | exact fun e => e | omega)
  why := (C.why).step A C.hs.wf (by first | exact fun e => e | omega)
  wat := (C.wat).step A C.hs.wf (by first | exact fun e => e | omega)
  row := fun j hj hx => by obtain ⟨u, h3, h4⟩ := C.row j hj hx; exact ⟨u, h3, (h4).step A C.hs.wf (by first | exact fun e => e | omega)⟩
  trl := (C.trl).step A C.hs.wf (by first | exact fun e => e | omega)
  ends := (C.ends).step A C.hs.wf (by first | exact fun e => e | omega)
  sco := v1
  lea := (C.lea).step A C.hs.wf (by first | exact fun e => e | omega)
  lear := C.lear
  clp := C.clp
  cll := C.cll
  cob := fun k hk => ⟨(A.get C.hs.wf ((C.cob k hk).1) (by first | exact fun e => e | (rw [(C.cob k hk).2]; omega))).1, (A.old _ (C.hs.wf.lt ((C.cob k hk).1))).trans ((C.cob k hk).2)⟩
  cli := fun k hk => (C.cli k hk).step A C.hs.wf (by first | exact fun e => e | omega)
  yok := C.yok
  sml := C.sml
  many := C.many
/-- What a row of another colour does. -/
theorem AtX.beside (C : AtX G h col n V S vals x) {c : Nat} (hc : c < 20) (A : Step (fun x => x = c) col h col1 h1) (hs1 : HS G h1 col1) : AtX G h1 col1 n V S vals x where
  hs := hs1
  obj := (A.get C.hs.wf (C.obj) (by first | exact fun e => e | (rw [C.cpp]; omega))).1
  cpp := (A.old _ (C.hs.wf.lt (C.obj))).trans (C.cpp)
  val := (C.val).step A C.hs.wf (by first | exact fun e => e | omega)
  lev := (C.lev).step A C.hs.wf (by first | exact fun e => e | omega)
  why := (C.why).step A C.hs.wf (by first | exact fun e => e | omega)
  wat := (C.wat).step A C.hs.wf (by first | exact fun e => e | omega)
  row := fun j hj hx => by obtain ⟨u, h3, h4⟩ := C.row j hj hx; exact ⟨u, h3, (h4).step A C.hs.wf (by first | exact fun e => e | omega)⟩
  trl := (C.trl).step A C.hs.wf (by first | exact fun e => e | omega)
  ends := (C.ends).step A C.hs.wf (by first | exact fun e => e | omega)
  sco := (C.sco).step A C.hs.wf (by first | exact fun e => e | omega)
  lea := (C.lea).step A C.hs.wf (by first | exact fun e => e | omega)
  lear := C.lear
  clp := C.clp
  cll := C.cll
  cob := fun k hk => ⟨(A.get C.hs.wf ((C.cob k hk).1) (by first | exact fun e => e | (rw [(C.cob k hk).2]; omega))).1, (A.old _ (C.hs.wf.lt ((C.cob k hk).1))).trans ((C.cob k hk).2)⟩
  cli := fun k hk => (C.cli k hk).step A C.hs.wf (by first | exact fun e => e | omega)
  yok := C.yok
  sml := C.sml
  many := C.many
end
end Sa
end Pf
end Go.Proofs.YtfjloafebkjadaaGreatDoor
/- Rows that a callee has made, and that may be written to afterwards. -/
namespace Go.Proofs.YtfjloafebkjadaaGreatDoor
namespace Pf
namespace Sa
open Go Go.AI Go.Proofs
/-- A row of whole numbers that is no part of a base, and not for reading only. -/
def OwnV (B G : AH) (v : AV) : Prop := v = .nilSlice ∨ ∃ id len cap ex cs, v = .slice id 0 len cap ex ∧ B.t.get id = none ∧ G.t.get id = some (.cells cs 3 false) ∧ len ≤ cs.length ∧ len ≤ 2 ^ 40
theorem OwnV.mono {B G G' : AH} {v : AV} (hl : G.le G') (o : OwnV B G v) : OwnV B G' v := by
  rcases o with h | ⟨id, len, cap, ex, cs, h1, h2, h3, h4⟩
  · exact .inl h
  · exact .inr ⟨id, len, cap, ex, cs, h1, h2, hl _ _ h3, h4⟩
theorem OwnV.base {B B' G G' : AH} {v : AV} (hb : B.le B') (hl : G.le G') (o : OwnV B' G v) : OwnV B G' v := by
  rcases o with h | ⟨id, len, cap, ex, cs, h1, h2, h3, h5⟩
  · exact .inl h
  · refine .inr ⟨id, len, cap, ex, cs, h1, ?_, hl _ _ h3, h5⟩
    cases h4 : B.t.get id with
    | none => rfl
    | some o => rw [hb _ _ h4] at h2; cases h2
def OwnN (B G : AH) (l : List AV) : Prop := ∀ a ∈ l, OwnV B G a
theorem OwnN.mono {B G G' : AH} {l : List AV} (hl : G.le G') (o : OwnN B G l) : OwnN B G' l := fun a ha => (o a ha).mono hl
theorem OwnN.snoc {B G : AH} {l : List AV} {a : AV} (o : OwnN B G l) (h : OwnV B G a) : OwnN B G (l ++ [a]) := fun b hb => by
  have hOB := List.mem_append.1 hb
  rcases hOB with h1 | h1
  · exact o b h1
  · rw [List.mem_singleton.1 h1]; exact h
/-- An object with a colour is no part of what is only read. -/
theorem HS.none {G h : AH} {col : Nat → Nat} (S : HS G h col) {B : AH} (hB : B.le G) {id : Nat} (hc : col id ≠ 0) : B.t.get id = none := by
  cases h1 : B.t.get id with
  | none => rfl
  | some o => exact absurd (S.ro _ _ (hB _ _ h1)) hc
/-- A row of one's own is only read from now on; it is no part of the base. -/
theorem fadeO {G h : AH} {col : Nat → Nat} {c : Nat} {v : AV} {l : List Int} (S : HS G h col) (V : Vec col c h 3 1 v l.length (l.map (AV.int .i64))) (h0 : c ≠ 0) (hll : l.length ≤ 2 ^ 40) : ∃ G', HS G' h (fade col c) ∧ G.le G' ∧ IntRow G' v l ∧ ∀ B : AH, B.le G → OwnV B G' v := by
  have S1 := HS.fade S c
  generalize hN : l.length = N at V
  generalize hcs : l.map (AV.int .i64) = cs at V
  cases V with
  | nil =>
    have : l = [] := List.eq_nil_of_length_eq_zero hN
    subst this
    exact ⟨G, S1, fun _ _ e => e, .nil, fun _ _ => .inl rfl⟩
  | @mk id _ cap ex _ tail hg hc hn hx =>
    subst hN
    subst hcs
    have hf : Sa.fade col c id = 0 := by unfold Sa.fade; rw [if_pos hc]
    refine ⟨G.add id _, S1.add hg hf, S1.le_add hg, ?_, fun B hB => .inr ⟨id, _, cap, ex, _, rfl, Sa.HS.none S hB (by rw [hc]; exact h0), AH.get_add .., by rw [List.length_append, List.length_map]; omega, hll⟩⟩
    have V' : Vec (fun _ => 0) 0 (G.add id (.cells (l.map (AV.int .i64) ++ tail) 3 false)) 3 1 (.slice id 0 l.length cap ex) l.length (l.map (AV.int .i64)) := .mk (AH.get_add ..) rfl hn hx
    exact Vec.ints V'
end Sa
end Pf
end Go.Proofs.YtfjloafebkjadaaGreatDoor
/- The clauses of a set are laid. -/
namespace Go.Proofs.YtfjloafebkjadaaGreatDoor
namespace Pf
namespace Sa
open Go Go.AI Go.Proofs
variable {gt : Tree (List AV)}
/-- A bound of scores. -/
def sb (i j : Nat) : Int := (i : Int) * 1048576 + (j : Int)
theorem sb_def (i j : Nat) : sb i j = (i : Int) * 1048576 + (j : Int) := rfl
theorem valT_nil (n : Nat) : valT n [] = List.replicate (n + 1) (.int .i8 0) := by
  have : ∀ i : Int, ofT [] i = 0 := fun i => by simp [ofT]
  simp only [valT, this, List.map_const', List.length_range]
theorem init_row (n j : Nat) : (Sr.init n).s.row j = [] := by
  show (List.replicate (2 * n + 2) []).getD j [] = []
  rw [List.getD_eq_getElem?_getD, List.getElem?_replicate]; split <;> rfl
theorem Step.none {R : Nat → Prop} {col col1 : Nat → Nat} {h h1 : AH} (A : Step R col h col1 h1) {c : Nat} (hr : ¬ R c) (h0 : c ≠ 0) (hc : ∀ i, col i ≠ c) (i : Nat) : col1 i ≠ c := fun e => by
  have hOB := Nat.lt_or_ge i h.next
  rcases hOB with hl | hl
  · exact hc i ((A.old i hl).symm.trans e)
  · exact hr (e ▸ A.new i hl (by rw [e]; exact h0))
theorem total_one {L : List (List Int)} {i : Nat} (hi : i < L.length) : (L.getD i []).length ≤ total L := by
  have h1 := total_take hi
  have h2 := total_le L (i + 1)
  omega
theorem Added.score {S S' : Sr} {l : List Int} (h : Added S l S') : S'.score = S.score ∧ S'.learnt = S.learnt := by
  rcases h with ⟨_, rfl⟩ | ⟨y, _, ⟨_, rfl⟩ | ⟨_, rfl⟩ | ⟨_, rfl⟩⟩ | ⟨_, rfl⟩ <;> exact ⟨rfl, rfl⟩
theorem Beg.learnt {n : Nat} {L : List (List Int)} {S : Sr} (B : Beg n L S) : S.learnt = [] := by
  induction B with
  | nil => rfl
  | taut _ _ _ ih => exact ih
  | add _ _ _ ha ih => rw [ha.score.2]; exact ih
section
variable {G h : AH} {col : Nat → Nat} {n : Nat}
set_option maxHeartbeats 8000000 in
theorem begin_spec (S0 : HS G h col) (hc19 : ∀ i, col i ≠ 19) {cl : AV} {L : List (List Int)} {cv : Nat → AV} (D : CnfAt G n cl L cv) (hv : valid n L) :
    EvF (TT gt) X 70 [.agg [.int .i64 n, cl]] h (fun r h' => ∃ col' V S, r = .ptr V.p 0 ∧ Step (fun c => 20 ≤ c) col h col' h' ∧ At G h' col' n V S ∧ Beg n L S) := by
  have hn : n ≤ 50000 := by have := hv.2.1; omega
  refine EvF.enter rfl rfl rfl ?_
  repeat (first | refine EvC.seq ?_ | refine EvC.region rfl ?_)
  (refine EvO.cons rfl rfl rfl (EvP.newR (b := .cells [.int .i64 n, cl] 24 false) (mk := .ptr) S0 rfl rfl (fun h1 b A1 S1 hle1 o1 _ _ => ?_)))
  have g1 := load1 (T := TT gt) (t := 3) (off := 0) o1 rfl rfl rfl
  have g2 := load1 (T := TT gt) (t := 22) (off := 1) o1 rfl rfl rfl
  repeat (first | refine EvO.plain rfl rfl rfl rfl rfl rfl ?_ | refine EvC.seq ?_ | refine EvO.nil ?_ | refine at_normal ?_)
  refine EvC.drawn (p := [⟨0, false, 0, 0⟩, ⟨1, false, 0, 0⟩, ⟨2, false, 0, 0⟩, ⟨3, false, 0, 0⟩, ⟨4, false, 0, 0⟩, ⟨5, false, 0, 0⟩, ⟨6, false, 0, 0⟩, ⟨7, false, 0, 0⟩, ⟨8, false, 0, 0⟩, ⟨9, false, 0, 0⟩, ⟨10, false, 0, 0⟩, ⟨11, false, 0, 0⟩, ⟨12, false, 0, 0⟩, ⟨13, false, 0, 0⟩, ⟨14, false, 0, 0⟩, ⟨15, false, 0, 0⟩, ⟨16, false, 0, 0⟩, ⟨17, false, 0, 0⟩, ⟨18, false, 0, 0⟩, ⟨19, false, 0, 0⟩, ⟨20, false, 0, 0⟩, ⟨21, false, 0, 0⟩, ⟨22, false, 0, 0⟩, ⟨23, false, 0, 0⟩, ⟨24, false, 0, 0⟩, ⟨25, false, 0, 0⟩]) rfl (by kernel_rfl) (by kernel_rfl) rfl ?_
  have e1 : ((n : Int) + 1) = ((n + 1 : Nat) : Int) := by omega
  have e2 : (2 * (n : Int) + 2) = ((2 * n + 2 : Nat) : Int) := by omega
  repeat (first | refine EvR.plain rfl rfl rfl rfl rfl rfl rfl ?_ | refine EvR.plain rfl rfl rfl rfl rfl rfl (by assumption) ?_ | refine EvR.cons rfl rfl rfl rfl (EvP.add64 rfl rfl (by omega) ?_))
  (refine EvR.cons rfl rfl rfl rfl (EvP.newC S1 21 rfl (make_vec (T := TT gt) (n := n + 1) (t := 107) rfl rfl rfl (by omega) (by show ((n + 1 : Nat) : Int) * (1 : Nat) ≤ ((70368744177664 : Nat) : Int); omega)) (by decide) (fun h2 i2 col2 A2 S2 o2 c2 _ => ?_)))
  clear g1
  have g1 := load1 (T := TT gt) (t := 3) (off := 0) (S2.le _ _ (AH.get_add ..)) rfl rfl rfl
  repeat (first | refine EvR.plain rfl rfl rfl rfl rfl rfl rfl ?_ | refine EvR.plain rfl rfl rfl rfl rfl rfl (by assumption) ?_ | refine EvR.cons rfl rfl rfl rfl (EvP.add64 rfl rfl (by omega) ?_))
  (refine EvR.cons rfl rfl rfl rfl (EvP.newC S2 22 rfl (make_vec (T := TT gt) (n := n + 1) (t := 35) rfl rfl rfl (by omega) (by show ((n + 1 : Nat) : Int) * (8 : Nat) ≤ ((70368744177664 : Nat) : Int); omega)) (by decide) (fun h3 i3 col3 A3 S3 o3 c3 _ => ?_)))
  clear g1
  have g1 := load1 (T := TT gt) (t := 3) (off := 0) (S3.le _ _ (AH.get_add ..)) rfl rfl rfl
  repeat (first | refine EvR.plain rfl rfl rfl rfl rfl rfl rfl ?_ | refine EvR.plain rfl rfl rfl rfl rfl rfl (by assumption) ?_ | refine EvR.cons rfl rfl rfl rfl (EvP.add64 rfl rfl (by omega) ?_))
  (refine EvR.cons rfl rfl rfl rfl (EvP.newC S3 23 rfl (make_vec (T := TT gt) (n := n + 1) (t := 118) rfl rfl rfl (by omega) (by show ((n + 1 : Nat) : Int) * (8 : Nat) ≤ ((70368744177664 : Nat) : Int); omega)) (by decide) (fun h4 i4 col4 A4 S4 o4 c4 _ => ?_)))
  clear g1
  have g1 := load1 (T := TT gt) (t := 3) (off := 0) (S4.le _ _ (AH.get_add ..)) rfl rfl rfl
  repeat (first | refine EvR.plain rfl rfl rfl rfl rfl rfl rfl ?_ | refine EvR.plain rfl rfl rfl rfl rfl rfl (by assumption) ?_ | refine EvR.cons rfl rfl rfl rfl (EvP.add64 rfl rfl (by omega) ?_) | refine EvR.cons rfl rfl rfl rfl (EvP.mul64 rfl rfl (by omega) ?_))
  (refine EvR.cons rfl rfl rfl rfl (EvP.newC S4 24 rfl (make_vec (T := TT gt) (n := 2 * n + 2) (t := 119) rfl rfl rfl (by omega) (by show ((2 * n + 2 : Nat) : Int) * (24 : Nat) ≤ ((70368744177664 : Nat) : Int); omega)) (by decide) (fun h5 i5 col5 A5 S5 o5 c5 _ => ?_)))
  clear g1
  have g1 := load1 (T := TT gt) (t := 3) (off := 0) (S5.le _ _ (AH.get_add ..)) rfl rfl rfl
  repeat (first | refine EvR.plain rfl rfl rfl rfl rfl rfl rfl ?_ | refine EvR.plain rfl rfl rfl rfl rfl rfl (by assumption) ?_ | refine EvR.cons rfl rfl rfl rfl (EvP.add64 rfl rfl (by omega) ?_))
  (refine EvR.cons rfl rfl rfl rfl (EvP.newC S5 27 rfl (make_vec (T := TT gt) (n := n + 1) (t := 35) rfl rfl rfl (by omega) (by show ((n + 1 : Nat) : Int) * (8 : Nat) ≤ ((70368744177664 : Nat) : Int); omega)) (by decide) (fun h6 i6 col6 A6 S6 o6 c6 _ => ?_)))
  clear g1
  have g1 := load1 (T := TT gt) (t := 3) (off := 0) (S6.le _ _ (AH.get_add ..)) rfl rfl rfl
  repeat (refine EvR.plain rfl rfl rfl rfl rfl rfl rfl ?_)
  (refine EvR.cons rfl rfl rfl rfl (EvP.newC (b := .cells [.int .i64 n, .slice i2 0 (n + 1) (n + 1) true, .slice i3 0 (n + 1) (n + 1) true, .slice i4 0 (n + 1) (n + 1) true, .slice i5 0 (2 * n + 2) (2 * n + 2) true, .nilSlice, .nilSlice, .int .i64 0, .slice i6 0 (n + 1) (n + 1) true, .int .i64 1, .nilSlice, .int .i64 0, .bool false] 121 false) (mk := .ptr) S6 20 rfl rfl (by decide) (fun h7 p col7 A7 S7 o7 c7 _ => ?_)))
  have X2 : Vec col2 21 h2 141 1 (.slice i2 0 (n + 1) (n + 1) true) (n + 1) (valT n []) := .mk (tail := []) (by rw [List.append_nil, valT_nil, ← rep_one]; exact o2) c2 (by simp [valT]) (fun _ => ⟨Nat.le_refl _, by simp [valT]⟩)
  have X3 : Vec col3 22 h3 3 1 (.slice i3 0 (n + 1) (n + 1) true) (n + 1) ((List.replicate (n + 1) (0 : Int)).map (AV.int .i64)) := .mk (tail := []) (by rw [List.append_nil, List.map_replicate, ← rep_one]; exact o3) c3 (by simp) (fun _ => ⟨Nat.le_refl _, by simp⟩)
  have X4 : Vec col4 23 h4 149 1 (.slice i4 0 (n + 1) (n + 1) true) (n + 1) ((List.replicate (n + 1) (none : Option Nat)).map (whyV [])) := .mk (tail := []) (by rw [List.append_nil, List.map_replicate, ← rep_one]; exact o4) c4 (by simp) (fun _ => ⟨Nat.le_refl _, by simp⟩)
  have X5 : Vec col5 24 h5 118 1 (.slice i5 0 (2 * n + 2) (2 * n + 2) true) (2 * n + 2) (List.replicate (2 * n + 2) .nilSlice) := .mk (tail := []) (by rw [List.append_nil, ← rep_one]; exact o5) c5 (by simp) (fun _ => ⟨Nat.le_refl _, by simp⟩)
  have X6 : Vec col6 27 h6 3 1 (.slice i6 0 (n + 1) (n + 1) true) (n + 1) ((List.replicate (n + 1) (0 : Int)).map (AV.int .i64)) := .mk (tail := []) (by rw [List.append_nil, List.map_replicate, ← rep_one]; exact o6) c6 (by simp) (fun _ => ⟨Nat.le_refl _, by simp⟩)
  have C0 : AtX (G.add b (.cells [.int .i64 n, cl] 24 false)) h7 col7 n { p := p, vv := .slice i2 0 (n + 1) (n + 1) true, lv := .slice i3 0 (n + 1) (n + 1) true, yv := .slice i4 0 (n + 1) (n + 1) true, wv := .slice i5 0 (2 * n + 2) (2 * n + 2) true, tv := .nilSlice, ev := .nilSlice, sv := .slice i6 0 (n + 1) (n + 1) true, nv := .nilSlice, rw := List.replicate (2 * n + 2) .nilSlice, rn := [], cp := [], cl := [] } (Sr.init n) (valT n []) (2 * n + 2) := {
    hs := S7, obj := o7, cpp := c7
    val := ((((X2.step A3 S2.wf (by decide)).step A4 S3.wf (by decide)).step A5 S4.wf (by decide)).step A6 S5.wf (by decide)).step A7 S6.wf (by decide)
    lev := (((X3.step A4 S3.wf (by decide)).step A5 S4.wf (by decide)).step A6 S5.wf (by decide)).step A7 S6.wf (by decide)
    why := ((X4.step A5 S4.wf (by decide)).step A6 S5.wf (by decide)).step A7 S6.wf (by decide)
    wat := (X5.step A6 S5.wf (by decide)).step A7 S6.wf (by decide)
    row := fun j hj _ => ⟨.nilSlice, by simp [hj], by rw [init_row]; exact .nil⟩
    trl := .nil, ends := .nil
    sco := X6.step A7 S6.wf (by decide)
    lea := .nil, lear := fun i hi => absurd hi (Nat.not_lt_zero _)
    clp := rfl, cll := rfl, cob := fun k hk => absurd hk (Nat.not_lt_zero _), cli := fun k hk => absurd hk (Nat.not_lt_zero _)
    yok := fun w hw k e => by rw [e] at hw; exact nomatch (List.mem_replicate.1 hw).2
    sml := hn, many := Nat.zero_le _ }
  have g3 := load1 (T := TT gt) (t := 22) (off := 1) (S7.le _ _ (AH.get_add ..)) rfl rfl rfl
  have ln := D.rows.len_any (T := TT gt) (t := 22) rfl h7
  have C0 := C0.less (G' := G) hle1 (fun i hi => absurd hi (Nat.not_lt_zero _))
  have A07 : Step (fun c => 20 ≤ c) col h col7 h7 := (((((((A1.mono fun c e => e.elim).trans (A2.mono fun c e => by omega)).trans (A3.mono fun c e => by omega)).trans (A4.mono fun c e => by omega)).trans (A5.mono fun c e => by omega)).trans (A6.mono fun c e => by omega)).trans (A7.mono fun c e => by omega))
  have hv0 := hv
  obtain ⟨_, _, hLl, htot, hLok⟩ := hv0
  clear X2 X3 X4 X5 X6 A1 A2 A3 A4 A5 A6 A7 S1 S2 S3 S4 S5 S6 S7 o1 o2 o3 o4 o5 o6 o7 c2 c3 c4 c5 c6 c7 g1 g2
  repeat (first | refine EvO.plain rfl rfl rfl rfl rfl rfl ?_ | refine EvO.plain rfl rfl rfl rfl rfl (by assumption) ?_ | refine EvC.seq ?_ | refine EvC.region rfl ?_ | refine EvO.nil ?_ | refine at_normal ?_ | refine EvC.block ?_ | refine EvR.nil ?_ | refine EvR.plain rfl rfl rfl rfl rfl rfl rfl ?_)
  clear g3 ln
  refine EvC.loop (fun m σ h' => ∃ (i : Nat) (cx : Nat → Nat) (V : Lay) (S : Sr) (E : Nat → AV), V.p = p ∧ Step (fun c => 20 ≤ c) col h cx h' ∧ At G h' cx n V S ∧ Beg n (L.take i) S ∧ (∀ i, cx i ≠ 19) ∧ (∀ z ∈ S.score, 0 ≤ z ∧ z ≤ sb i 0) ∧ i ≤ L.length ∧ m = L.length - i ∧ σ = upds [(3, .ptr p 0), (36, cl), (37, .int .i64 L.length), (38, .int .i64 i)] E) (L.length) ?_ ?_
  · exact ⟨0, col7, _, _, _, rfl, A07, C0, .nil, Step.none A07 (by decide) (by decide) hc19, fun z hz => by { rw [(List.mem_replicate.1 hz).2, sb_def]; omega }, Nat.zero_le _, rfl, hold ⟨rfl, rfl, rfl, rfl, trivial⟩⟩
  · clear A07 C0
    rintro m _ h1 ⟨i, c1, V1, Z, E, hp, A1, C1, B1, hc1, hsc, hi, rfl, rfl⟩
    repeat (first | refine EvO.plain rfl rfl rfl rfl rfl rfl ?_ | refine EvC.seq ?_ | refine EvC.region rfl ?_ | refine EvO.nil ?_ | refine at_normal ?_)
    refine EvC.decide rfl (fun hlt => ?_) (fun hlt => ?_)
    · have hlt : i < L.length := by omega
      have hOB := (D.rows.mono C1.hs.le).at1 (T := TT gt) (t := 22) (e := 35) rfl rfl rfl rfl (k := .i64) (i := i) (by omega) (by omega)
      obtain ⟨q, b1, b2⟩ := hOB
      rw [Int.toNat_natCast] at b2
      have rl := D.ints i hlt
      have hol := hLok i hlt
      have hll := total_one hlt
      have hbt := total_take hlt
      generalize hLi : L.getD i [] = l at *
      have ln := (rl.mono C1.hs.le).len (T := TT gt) (t := 35) rfl
      repeat (first | refine EvO.plain rfl rfl rfl rfl rfl rfl ?_ | refine EvO.plain rfl rfl rfl rfl rfl (by assumption) ?_ | refine EvC.seq ?_ | refine EvC.region rfl ?_ | refine EvO.nil ?_ | refine at_normal ?_ | refine EvC.skip ?_ | refine EvC.block ?_)
      clear b1 b2 ln
      refine EvC.loop (fun m σ h' => ∃ (j : Nat) (lv : AV) (cx : Nat → Nat) (sc : List Int) (E : Nat → AV), Step (fun c => c = 19 ∨ 20 ≤ c) c1 h1 cx h' ∧ At G h' cx n V1 { Z with score := sc } ∧ Vec cx 19 h' 3 1 lv (dd [] (l.take j)).length ((dd [] (l.take j)).map (AV.int .i64)) ∧ (∀ z ∈ sc, 0 ≤ z ∧ z ≤ sb i j) ∧ j ≤ l.length ∧ m = l.length - j ∧ σ = upds [(3, .ptr p 0), (6, lv), (7, .bool (bo [] (l.take j))), (36, cl), (37, .int .i64 L.length), (38, .int .i64 i), (42, cv i), (43, .int .i64 l.length), (44, .int .i64 j)] E) (l.length) ?_ ?_
      · exact ⟨0, .nilSlice, c1, Z.score, _, Step.refl C1.hs, C1, .nil, hsc, Nat.zero_le _, rfl, hold ⟨rfl, rfl, rfl, rfl, rfl, rfl, rfl, rfl, rfl, trivial⟩⟩
      · rintro m _ h2 ⟨j, lv, c2, sc, E, A2, C2, VL, hsc2, hj, rfl, rfl⟩
        repeat (first | refine EvO.plain rfl rfl rfl rfl rfl rfl ?_ | refine EvC.seq ?_ | refine EvC.region rfl ?_ | refine EvO.nil ?_ | refine at_normal ?_)
        refine EvC.decide rfl (fun hjl => ?_) (fun hjl => ?_)
        · have hjl : j < l.length := by omega
          have hOB := (rl.mono C2.hs.le).at1 (T := TT gt) (t := 35) (e := 3) rfl rfl rfl rfl (k := .i64) (i := j) (by omega) (by omega)
          obtain ⟨q, b1, b2⟩ := hOB
          rw [Int.toNat_natCast] at b2
          have hx := hol _ (getD_mem hjl)
          have htk := take_next hjl
          generalize hlj : l.getD j 0 = x at *
          have hxx := hx
          obtain ⟨x0, x1, x2⟩ := hxx
          have f1 := C2.fld (gt := gt) (t := 35) (off := 8) rfl rfl rfl
          have hscl : sc.length = n + 1 := by have := C2.sco.count; simpa using this
          have vs : Vec c2 27 h2 3 1 V1.sv sc.length (sc.map (AV.int .i64)) := hscl.symm ▸ C2.sco
          have hOB := Vec.atI (gt := gt) vs (i := max x (-x)) (by omega) (by omega)
          obtain ⟨xa, xb, d1, d2⟩ := hOB
          have hzb := hsc2 _ (mem_getD (l := sc) (i := (max x (-x)).toNat) (by omega))
          have hib : (i : Int) * 1048576 ≤ 209715200000 := by omega
          generalize hz : sc.getD (max x (-x)).toNat 0 = z at *
          rw [hp] at f1
          rw [sb_def] at hzb
          have hzr : 0 ≤ z ∧ z ≤ 1099511627775 := by omega
          clear vs
          repeat (first | refine EvO.plain rfl rfl rfl rfl rfl rfl ?_ | refine EvO.plain rfl rfl rfl rfl rfl (by assumption) ?_ | refine EvC.seq ?_ | refine EvC.region rfl ?_ | refine EvO.nil ?_ | refine at_normal ?_ | refine EvC.skip ?_ | refine EvC.block ?_ | refine EvO.cons rfl rfl rfl (EvP.add64 rfl rfl (by omega) ?_) | refine EvO.cons rfl rfl rfl (EvP.neg64 rfl (by omega) ?_) | refine EvO.cons rfl rfl rfl (EvP.max rfl rfl rfl rfl ?_))
          refine EvO.cons0 rfl rfl (EvP.setV (T := TT gt) (t := 35) (k := .i64) (i := max x (-x)) (u := .int .i64 (z + 1)) C2.hs C2.sco (by decide) rfl rfl rfl (by omega) (by omega) d1 rfl rfl rfl rfl (fun h3 A3 N3 X3 _ => ?_))
          rw [← List.map_set] at X3
          have C3 := C2.setSco A3 N3 X3
          have VL3 := VL.step A3 C2.hs.wf (by decide)
          have hsc3 : ∀ z' ∈ sc.set (max x (-x)).toNat (z + 1), 0 ≤ z' ∧ z' ≤ sb i (j + 1) := fun z' hz' => by
            have hOB := List.mem_or_eq_of_mem_set hz'
            rcases hOB with h5 | h5
            · have := hsc2 z' h5
              rw [sb_def] at this ⊢; omega
            · rw [sb_def]; omega
          generalize sc.set (max x (-x)).toNat (z + 1) = sc3 at *
          clear b1 b2 f1 d1 d2 X3
          have rowI := Vec.ints VL3
          have hddl : (dd [] (l.take j)).length ≤ 2 ^ 30 := by
            have := dd_len (l := l.take j) (acc := [])
            simp only [List.length_take, List.length_nil] at this
            omega
          have hb1 : bo [] (l.take (j + 1)) = (bo [] (l.take j) || decide (-x ∈ dd [] (l.take j))) := by rw [htk]; exact bo_snoc _ _ _
          have hd1 : dd [] (l.take (j + 1)) = if x ∈ dd [] (l.take j) then dd [] (l.take j) else dd [] (l.take j) ++ [x] := by rw [htk]; exact dd_snoc _ _ _
          repeat (first | refine EvO.plain rfl rfl rfl rfl rfl rfl ?_ | refine EvC.seq ?_ | refine EvC.region rfl ?_ | refine EvO.nil ?_ | refine at_normal ?_)
          refine EvO.mono (fun σ h' => h' = h3 ∧ ∃ E, σ = upds [(3, .ptr p 0), (6, lv), (7, .bool (bo [] (l.take (j + 1)))), (9, .int .i64 x), (36, cl), (37, .int .i64 L.length), (38, .int .i64 i), (42, cv i), (43, .int .i64 l.length), (44, .int .i64 j)] E) ?_ ?_
          · rw [hb1]
            cases bo [] (l.take j) with
            | true =>
              repeat (first | refine EvO.plain rfl rfl rfl rfl rfl rfl ?_ | refine EvO.nil ?_ | refine EvO.off rfl rfl rfl ?_)
              exact ⟨rfl, _, hold ⟨rfl, rfl, rfl, rfl, rfl, rfl, rfl, rfl, rfl, rfl, trivial⟩⟩
            | false =>
              repeat (first | refine EvO.plainOn rfl rfl rfl rfl rfl rfl ?_ | refine EvO.on rfl rfl rfl (EvP.neg64 rfl (by omega) ?_))
              refine EvO.on rfl rfl rfl (EvP.callF rfl rfl rfl rfl (EvF.mono (containsI_spec rowI (-x) (Nat.le_trans hddl (by decide))) ?_))
              rintro _ h3 _ ⟨rfl, rfl⟩
              repeat (first | refine EvO.plain rfl rfl rfl rfl rfl rfl ?_ | refine EvO.nil ?_)
              exact ⟨rfl, _, hold ⟨rfl, rfl, rfl, rfl, rfl, rfl, rfl, rfl, rfl, rfl, trivial⟩⟩
          · clear E
            rintro _ h3 ⟨rfl, E, rfl⟩
            repeat (first | refine EvO.plain rfl rfl rfl rfl rfl rfl ?_ | refine EvC.seq ?_ | refine EvC.region rfl ?_ | refine at_normal ?_)
            (refine EvO.cons rfl rfl rfl (EvP.callF rfl rfl rfl rfl (EvF.mono (containsI_spec rowI x (Nat.le_trans hddl (by decide))) ?_)))
            rintro _ h3 _ ⟨rfl, rfl⟩
            by_cases hxd : x ∈ dd [] (l.take j)
            · rw [decide_eq_true hxd]
              repeat (first | refine EvO.plain rfl rfl rfl rfl rfl rfl ?_ | refine EvO.nil ?_ | refine at_normal ?_)
              refine EvC.cond (t := false) rfl (fun e => nomatch e) (fun _ => ?_)
              repeat (first | refine EvO.plain rfl rfl rfl rfl rfl rfl ?_ | refine EvC.region rfl ?_ | refine EvO.nil ?_ | refine at_normal ?_ | refine EvC.skip ?_ | refine be_normal ?_ | refine ro_normal ?_ | refine EvO.cons rfl rfl rfl (EvP.add64 rfl rfl (by omega) ?_))
              rw [if_pos hxd] at hd1
              exact ⟨l.length - (j + 1), by omega, j + 1, lv, c2, sc3, _, A2.trans (A3.mono fun c e => by omega), C3, by rw [hd1]; exact VL3, hsc3, by omega, rfl, hold ⟨rfl, rfl, rfl, rfl, rfl, rfl, rfl, rfl, rfl, trivial⟩⟩
            · rw [decide_eq_false hxd]
              repeat (first | refine EvO.plain rfl rfl rfl rfl rfl rfl ?_ | refine EvO.nil ?_ | refine at_normal ?_)
              refine EvC.cond (t := true) rfl (fun _ => ?_) (fun e => nomatch e)
              repeat (first | refine EvO.plain rfl rfl rfl rfl rfl rfl ?_ | refine EvC.region rfl ?_)
              (refine EvO.cons rfl rfl rfl (EvP.newR (b := .cells [.int .i64 x] 3 false) (mk := .slice 1 1 true) C3.hs rfl rfl (fun h4 id A4 N4 hle o4 _ _ => ?_)))
              have C4 := C3.more A4 N4 hle
              have VL4 := VL3.step A4 C3.hs.wf (fun e => e)
              skip
              refine EvO.cons rfl rfl rfl (EvP.appendC N4 VL4 (by decide) rfl rfl rfl rfl rfl rfl rfl rfl rfl (by decide) rfl rfl (afirst_all o4 rfl) rfl (by decide) rfl (by show ((dd [] (l.take j)).length + 1) * 8 ≤ 70368744177664; omega) (by omega) (fun lv2 h5 c5 A5 N5 X5 => ?_))
              have C5 := (C4.beside (by decide) A5 N5).less (G' := G) hle C3.lear
              rw [if_neg hxd] at hd1
              repeat (first | refine EvO.plain rfl rfl rfl rfl rfl rfl ?_ | refine EvC.region rfl ?_ | refine EvO.nil ?_ | refine at_normal ?_ | refine be_normal ?_ | refine ro_normal ?_ | refine EvO.cons rfl rfl rfl (EvP.add64 rfl rfl (by omega) ?_))
              refine ⟨l.length - (j + 1), by omega, j + 1, lv2, c5, sc3, _, ((A2.trans (A3.mono fun c e => by omega)).trans (A4.mono fun c e => e.elim)).trans (A5.mono fun c e => by omega), C5, ?_, hsc3, by omega, rfl, hold ⟨rfl, rfl, rfl, rfl, rfl, rfl, rfl, rfl, rfl, trivial⟩⟩
              rw [hd1, List.length_append, List.map_append]; exact X5
        · have hend : j = l.length := by omega
          subst hend
          rw [List.take_length] at VL
          have hOB := fadeV C2.hs VL
          obtain ⟨G', S', hle, row⟩ := hOB
          have C3 := C2.fade hle (by decide) S'
          have A3 : Step (fun c => 20 ≤ c) c1 h1 (fade c2 19) h2 := (Step.fade A2 hc1).mono fun c e => by omega
          have hLt : L.take (i + 1) = L.take i ++ [l] := by
            rw [List.take_add_one, List.getElem?_eq_getElem hlt, ← hLi, List.getD_eq_getElem?_getD, List.getElem?_eq_getElem hlt]; rfl
          have hscB : ∀ z ∈ sc, 0 ≤ z ∧ z ≤ 2 ^ 40 := fun z hz => by
            have := hsc2 z hz
            rw [sb_def] at this; omega
          have hscN : ∀ z ∈ sc, 0 ≤ z ∧ z ≤ sb (i + 1) 0 := fun z hz => by
            have := hsc2 z hz
            rw [sb_def] at this ⊢; omega
          rw [List.take_length]
          repeat (first | refine EvO.plain rfl rfl rfl rfl rfl rfl ?_ | refine EvC.seq ?_ | refine EvC.region rfl ?_ | refine EvO.nil ?_ | refine at_normal ?_ | refine EvC.exit ?_ | refine at_exit ?_ | refine be_same rfl ?_ | refine ro_exit ?_)
          cases hbo : bo [] l with
          | true =>
            skip
            refine EvC.cond (t := false) rfl (fun e => nomatch e) (fun _ => ?_)
            repeat (first | refine EvO.plain rfl rfl rfl rfl rfl rfl ?_ | refine EvC.region rfl ?_ | refine EvO.nil ?_ | refine at_normal ?_ | refine EvC.skip ?_ | refine be_normal ?_ | refine ro_normal ?_ | refine EvO.cons rfl rfl rfl (EvP.add64 rfl rfl (by omega) ?_))
            refine ⟨L.length - (i + 1), by omega, i + 1, fade c2 19, V1, { Z with score := sc }, _, hp, A1.trans A3, C3.less hle C2.lear, by rw [hLt]; exact .taut B1 hbo hscB, Step.none A3 (by decide) (by decide) hc1, hscN, by omega, rfl, hold ⟨rfl, rfl, rfl, rfl, trivial⟩⟩
          | false =>
            have BI := B1.inv fun l' hl' y hy => by
              have hOB := List.getElem_of_mem (List.mem_of_mem_take hl')
              obtain ⟨m, hm, e⟩ := hOB
              refine hLok m hm y ?_
              rw [List.getD_eq_getElem?_getD, List.getElem?_eq_getElem hm]; exact e ▸ hy
            have htl := BI.T.len
            have hcl := BI.cl
            rw [List.length_take] at hcl
            have hdl := dd_len (l := l) (acc := [])
            simp only [List.length_nil] at hdl
            skip
            refine EvC.cond (t := true) rfl (fun _ => ?_) (fun e => nomatch e)
            repeat (first | refine EvO.plain rfl rfl rfl rfl rfl rfl ?_ | refine EvC.region rfl ?_)
            rw [← hp]
            (refine EvO.cons rfl rfl rfl (EvP.callF rfl rfl rfl rfl (EvF.mono (add_spec C3 BI.W BI.T.cons (by show Z.s.tr.length ≤ _; omega) (by show Z.s.ends.length ≤ _; rw [BI.en]; decide) row VL.nz (fun y hy => hol y (by rw [mem_dd] at hy; exact hy.resolve_left (fun h => nomatch h))) (by omega) (by show Z.s.cls.length + 1 ≤ _; omega)) ?_)))
            rintro _ h3 _ ⟨rfl, c3, V3, Z3, hp3, A4, C4, hadd⟩
            repeat (first | refine EvO.plain rfl rfl rfl rfl rfl rfl ?_ | refine EvC.region rfl ?_ | refine EvO.nil ?_ | refine at_normal ?_ | refine be_normal ?_ | refine ro_normal ?_ | refine EvO.cons rfl rfl rfl (EvP.add64 rfl rfl (by omega) ?_))
            refine ⟨L.length - (i + 1), by omega, i + 1, c3, V3, Z3, _, hp3, (A1.trans A3).trans A4, C4.less hle (fun k hk => absurd hk (by rw [hadd.score.2]; show ¬ k < Z.learnt.length; rw [B1.learnt]; exact Nat.not_lt_zero _)), by rw [hLt]; exact .add B1 hbo hscB hadd, Step.none (A3.trans A4) (by decide) (by decide) hc1, by rw [hadd.score.1]; exact hscN, by omega, rfl, hold ⟨rfl, rfl, rfl, rfl, trivial⟩⟩
    · have hend : i = L.length := by omega
      subst hend
      rw [List.take_length] at B1
      repeat (first | refine EvO.plain rfl rfl rfl rfl rfl rfl ?_ | refine EvC.seq ?_ | refine EvC.region rfl ?_ | refine EvO.nil ?_ | refine at_normal ?_ | refine EvC.ret ?_ | refine EvC.exit ?_ | refine at_exit ?_ | refine be_same rfl ?_ | refine ro_exit ?_)
      (refine ret_is (v := .ptr p 0) rfl rfl ?_)
      exact ⟨c1, V1, Z, by rw [hp], A1, C1, B1⟩
end
end Sa
end Pf
end Go.Proofs.YtfjloafebkjadaaGreatDoor
/- A search before anything is taken, without a program. -/
namespace Go.Proofs.YtfjloafebkjadaaGreatDoor
namespace Pf
namespace Sa
open Go Go.AI Go.Proofs
variable {gt : Tree (List AV)}
/-- What is known while literals are taken. -/
structure UI (n : Nat) (L : List (List Int)) (ls : List Int) (S : Sr) : Prop where
  W : WI n S.s
  T : TI n S.s
  hd : S.s.head = 0
  en : S.s.ends = []
  sub : ∀ k, k < S.s.cls.length → ∃ l ∈ L, ∀ x, x ∈ S.s.c k ↔ x ∈ l
  der : ∀ x ∈ S.s.tr, Der L ls x
  brk : S.broken = true → Clash L ls
  cov : S.broken = false → ∀ l ∈ L, (∃ x ∈ l, -x ∈ l) ∨ (∃ x ∈ l, x ∈ S.s.tr) ∨ ∃ k, k < S.s.cls.length ∧ ∀ x, x ∈ S.s.c k ↔ x ∈ l
theorem BI.ui {n : Nat} {L : List (List Int)} {S : Sr} (B : BI n L S) (ls : List Int) : UI n L ls S := ⟨B.W, B.T, B.hd, B.en, B.sub, fun x hx => Der.mono (t := []) (fun _ h => h) (fun _ h => (nomatch h)) (B.der x hx), fun e => Clash.mono (t := []) (fun _ h => h) (fun _ h => (nomatch h)) (B.brk e), B.cov⟩
theorem UI.ci {n : Nat} {L : List (List Int)} {ls : List Int} {S : Sr} (U : UI n L ls S) : CI S.s where
  ch := fun k hk i hi h => by rw [U.hd, List.take_zero] at h; cases h
  ce := fun e he => by rw [U.en] at he; cases he
theorem UI.take {n : Nat} {L : List (List Int)} {ls : List Int} {S : Sr} (U : UI n L ls S) {x : Int} (hx : x ∈ ls) (ho : ok n x) (hf : ofT S.s.tr x = 0) : UI n L ls (S.take x none) := by
  have hf' := ofT_zero.1 hf
  refine ⟨U.W.push x, U.T.push ho hf'.1 hf'.2, U.hd, U.en, U.sub, fun y hy => ?_, U.brk, fun e l hl => ?_⟩
  · have hOB := List.mem_append.1 hy
    rcases hOB with h | h
    · exact U.der y h
    · rw [List.mem_singleton.1 h]; exact .tak hx
  · have hOB := U.cov e l hl
    rcases hOB with h | ⟨y, h1, h2⟩ | h
    · exact .inl h
    · exact .inr (.inl ⟨y, h1, List.mem_append_left _ h2⟩)
    · exact .inr (.inr h)
theorem settled_taut {T c : List Int} {x : Int} (hx : x ∈ c) (hn : -x ∈ c) (_h0 : x ≠ 0) : settled T c := by
  by_cases h1 : x ∈ T
  · exact .inl ⟨x, hx, h1⟩
  · by_cases h2 : -x ∈ T
    · exact .inl ⟨-x, hn, h2⟩
    · exact .inr ⟨x, hx, -x, hn, by omega, ofT_zero.2 ⟨h1, h2⟩, ofT_zero.2 ⟨h2, by rw [Int.neg_neg]; exact h1⟩⟩
theorem settled_same {T c d : List Int} (h : ∀ x, x ∈ c ↔ x ∈ d) (s : settled T c) : settled T d := by
  rcases s with ⟨z, h1, h2⟩ | ⟨y, h1, z, h2, h3⟩
  · exact .inl ⟨z, (h z).1 h1, h2⟩
  · exact .inr ⟨y, (h y).1 h1, z, (h z).1 h2, h3⟩
end Sa
end Pf
end Go.Proofs.YtfjloafebkjadaaGreatDoor
/- The law SatFollows. -/
namespace Go.Proofs.YtfjloafebkjadaaGreatDoor
namespace Pf
namespace Sa
open Go Go.AI Go.Proofs
variable {gt : Tree (List AV)}
theorem nz_emb (w : World) (v : Value) : NZ (embC w v) := by
  unfold embC
  split
  · split <;> trivial
  · trivial
  · rename_i h1
    split
    · rename_i len _ _
      cases len with
      | zero => exact (h1 rfl).elim
      | succ k => trivial
    · trivial
  · unfold toAV
    split <;> first | trivial | simp [NZ]
theorem holdsB_neg {m : List Bool} {x : Int} (hx : ok m.length x) : holdsB m (-x) = !holdsB m x := by
  obtain ⟨h0, h1, h2⟩ := hx
  have ha : absI (-x) = absI x := by unfold absI; split <;> split <;> omega
  unfold holdsB
  rw [ha]
  have hd : decide (-x > 0) = !decide (x > 0) := by
    by_cases h : x > 0
    · rw [decide_eq_true h, decide_eq_false (by omega)]; rfl
    · rw [decide_eq_false h, decide_eq_true (by omega)]; rfl
  rw [hd]
  cases m.getD (absI x - 1).toNat false <;> cases decide (x > 0) <;> rfl
theorem der_ok {n : Int} {L : List (List Int)} {ls : List Int} (hL : ∀ l ∈ L, ∀ x ∈ l, ok n x) (hl : ∀ x ∈ ls, ok n x) {x : Int} (d : Der L ls x) : ok n x := by
  cases d with
  | tak h => exact hl x h
  | unit hc hx _ => exact hL _ hc x hx
theorem ok_neg {n x : Int} (h : ok n x) : ok n (-x) := by
  obtain ⟨h0, h1, h2⟩ := h
  exact ⟨by omega, by omega, by omega⟩
/-- What follows holds in each model in which the literals hold. -/
theorem der_holds {m : List Bool} {L : List (List Int)} {ls : List Int} (hL : ∀ l ∈ L, ∀ x ∈ l, ok m.length x) (_hl : ∀ x ∈ ls, ok m.length x) (hA : ∀ c ∈ L, ∃ z ∈ c, holdsB m z = true) (hh : ∀ x ∈ ls, holdsB m x = true) {x : Int} (d : Der L ls x) : holdsB m x = true := by
  induction d with
  | tak h => exact hh _ h
  | @unit x c hc hx hd ih =>
    have hOB := hA c hc
    obtain ⟨z, hz, hz2⟩ := hOB
    by_cases e : z = x
    · rw [← e]; exact hz2
    · have := ih z hz e
      rw [holdsB_neg (hL c hc z hz), hz2] at this
      cases this
theorem clash_holds {m : List Bool} {L : List (List Int)} {ls : List Int} (hL : ∀ l ∈ L, ∀ x ∈ l, ok m.length x) (hl : ∀ x ∈ ls, ok m.length x) (hA : ∀ c ∈ L, ∃ z ∈ c, holdsB m z = true) (hh : ∀ x ∈ ls, holdsB m x = true) : ¬ Clash L ls := by
  rintro (⟨x, h1, h2⟩ | ⟨c, hc, h⟩)
  · have := der_holds hL hl hA hh h2
    rw [holdsB_neg (der_ok hL hl h1), der_holds hL hl hA hh h1] at this
    cases this
  · have hOB := hA c hc
    obtain ⟨z, hz, hz2⟩ := hOB
    have := der_holds hL hl hA hh (h z hz)
    rw [holdsB_neg (hL c hc z hz), hz2] at this
    cases this
theorem bools_cells (M : List Bool) (N : Nat) : (List.range (Nat.min M.length N)).map (fun i => AV.bool (M.getD i false)) ++ (List.replicate N (AV.bool false)).drop (Nat.min M.length N) = (M.take N ++ List.replicate (N - M.length) false).map AV.bool := by
  apply List.ext_getElem?
  intro i
  have hmin : Nat.min M.length N = min M.length N := rfl
  rw [hmin]
  have hOB := Nat.lt_or_ge i (min M.length N)
  rcases hOB with h1 | h1
  · rw [List.getElem?_append_left (by simpa using h1), List.getElem?_map, List.getElem?_range h1, List.getElem?_map, List.getElem?_append_left (by simp; omega), List.getElem?_take, if_pos (by omega)]
    show some (AV.bool (M.getD i false)) = Option.map AV.bool M[i]?
    rw [List.getD_eq_getElem?_getD, List.getElem?_eq_getElem (by omega)]
    rfl
  · rw [List.getElem?_append_right (by simpa using h1), List.getElem?_drop, List.getElem?_map, List.getElem?_append_right (by simp; omega)]
    simp only [List.length_map, List.length_range, List.length_take, List.getElem?_replicate]
    by_cases h2 : i < N
    · rw [if_pos (by omega), if_pos (by omega)]; rfl
    · rw [if_neg (by omega), if_neg (by omega)]; rfl
end Sa
end Pf
end Go.Proofs.YtfjloafebkjadaaGreatDoor
