/- The state of a search, where it lies. -/
import Derived.Test.YtfjloafebkjadaaGreatDoorSaP
/- The state of a search, where it lies. -/
namespace Go.Proofs.YtfjloafebkjadaaGreatDoor
namespace Pf
namespace Sa
open Go Go.AI Go.Proofs
variable {gt : Tree (List AV)}
/-- All that a search knows. -/
structure Sr where
  s : Ws
  level : List Int
  why : List (Option Nat)
  score : List Int
  bump : Int
  learnt : List (List Int)
  work : Int
  broken : Bool
structure Lay where
  p : Nat
  vv : AV
  lv : AV
  yv : AV
  wv : AV
  tv : AV
  ev : AV
  sv : AV
  nv : AV
  rw : List AV
  rn : List AV
  cp : List Nat
  cl : List AV
def whyV (cp : List Nat) : Option Nat → AV
  | none => .nilPtr
  | some k => .ptr (cp.getD k 0) 0
def ptrV (cp : List Nat) (k : Nat) : AV := .ptr (cp.getD k 0) 0
def objV (n : Nat) (V : Lay) (S : Sr) : List AV := [.int .i64 n, V.vv, V.lv, V.yv, V.wv, V.tv, V.ev, .int .i64 S.s.head, V.sv, .int .i64 S.bump, V.nv, .int .i64 S.work, .bool S.broken]
/-- A search in a heap; 'x' is the number of a row of watchers that is turned just now. -/
structure AtX (G h : AH) (col : Nat → Nat) (n : Nat) (V : Lay) (S : Sr) (vals : List AV) (x : Nat) : Prop where
  hs : HS G h col
  obj : h.t.get V.p = some (.cells (objV n V S) 121 false)
  cpp : col V.p = 20
  val : Vec col 21 h 141 1 V.vv (n + 1) vals
  lev : Vec col 22 h 3 1 V.lv (n + 1) (S.level.map (AV.int .i64))
  why : Vec col 23 h 149 1 V.yv (n + 1) (S.why.map (whyV V.cp))
  wat : Vec col 24 h 118 1 V.wv (2 * n + 2) V.rw
  row : ∀ j, j < 2 * n + 2 → j ≠ x → ∃ u, V.rw[j]? = some u ∧ Vec col (40 + j) h 149 1 u (S.s.row j).length ((S.s.row j).map (ptrV V.cp))
  trl : Vec col 25 h 3 1 V.tv S.s.tr.length (S.s.tr.map (AV.int .i64))
  ends : Vec col 26 h 3 1 V.ev S.s.ends.length (S.s.ends.map fun e : Nat => AV.int .i64 e)
  sco : Vec col 27 h 3 1 V.sv (n + 1) (S.score.map (AV.int .i64))
  lea : Vec col 28 h 35 1 V.nv S.learnt.length V.rn
  lear : ∀ i, i < S.learnt.length → ∃ a, V.rn[i]? = some a ∧ IntRow G a (S.learnt.getD i [])
  clp : V.cp.length = S.s.cls.length
  cll : V.cl.length = S.s.cls.length
  cob : ∀ k, k < S.s.cls.length → h.t.get (V.cp.getD k 0) = some (.cells [V.cl.getD k .nilPtr] 158 false) ∧ col (V.cp.getD k 0) = 42 + 2 * n + 2 * k
  cli : ∀ k, k < S.s.cls.length → Vec col (43 + 2 * n + 2 * k) h 3 1 (V.cl.getD k .nilPtr) (S.s.c k).length ((S.s.c k).map (AV.int .i64))
  yok : ∀ w ∈ S.why, ∀ k, w = some k → k < S.s.cls.length
  sml : n ≤ 50000
  many : S.s.cls.length ≤ 2 ^ 30
/-- No row is turned. -/
abbrev At (G h : AH) (col : Nat → Nat) (n : Nat) (V : Lay) (S : Sr) : Prop := AtX G h col n V S (valT n S.s.tr) (2 * n + 2)
section
variable {G G' h h1 h2 : AH} {col col1 col2 : Nat → Nat} {n x : Nat} {V : Lay} {S : Sr} {vals : List AV}
theorem AtX.fld (C : AtX G h col n V S vals x) {t : TypeId} {i : TInfo} {off : Nat} {v : AV} (hi : (TT gt).tt.get t = some i) (ha : i.isAgg = false) (hv : lget (objV n V S) off = some v) : aload (TT gt) h t (.ptr V.p off) = some v := load1 C.obj hi ha hv
theorem AtX.setVal (C : AtX G h col n V S vals x) (A : Step (fun c => c = 21) col h col1 h1) (hs1 : HS G h1 col1) {vals' : List AV} (v1 : Vec col1 21 h1 141 1 V.vv (n + 1) vals') : AtX G h1 col1 n V S vals' x where
  hs := hs1
  obj := (A.get C.hs.wf (C.obj) (by first | exact fun e => e | (rw [C.cpp]; omega))).1
  cpp := (A.old _ (C.hs.wf.lt (C.obj))).trans (C.cpp)
  val := v1
  lev := (C.lev).step A C.hs.wf (by first | exact fun e => e | omega)
  why := (C.why).step A C.hs.wf (by first | exact fun e => e | omega)
  wat := (C.wat).step A C.hs.wf (by first | exact fun e => e | omega)
  row := fun j hj hx => by obtain ⟨u, h3, h4⟩ := C.row j hj hx; exact ⟨u, h3, (h4).step A C.hs.wf (by first | exact fun e => e | omega)⟩
  trl := (C.trl).step A C.hs.wf (by first | exact fun e => e | omega)
  ends := (C.ends).step A C.hs.wf (by first | exact fun e => e | omega)
  sco := (C.sco).step A C.hs.wf (by first | exact fun e => e | omega)
  lea := (C.lea).step A C.hs.wf (by first | exact fun e => e | omega)
  lear := C.lear
  clp := C.clp
  cll := C.cll
  cob := fun k hk => ⟨(A.get C.hs.wf ((C.cob k hk).1) (by first | exact fun e => e | (rw [(C.cob k hk).2]; omega))).1, (A.old _ (C.hs.wf.lt ((C.cob k hk).1))).trans ((C.cob k hk).2)⟩
  cli := fun k hk => (C.cli k hk).step A C.hs.wf (by first | exact fun e => e | omega)
  yok := C.yok
  sml := C.sml
  many := C.many
theorem AtX.setLev (C : AtX G h col n V S vals x) (A : Step (fun c => c = 22) col h col1 h1) (hs1 : HS G h1 col1) {l : List Int} (v1 : Vec col1 22 h1 3 1 V.lv (n + 1) (l.map (AV.int .i64))) : AtX G h1 col1 n V { S with level := l } vals x where
  hs := hs1
  obj := (A.get C.hs.wf (C.obj) (by first | exact fun e => e | (rw [C.cpp]; omega))).1
  cpp := (A.old _ (C.hs.wf.lt (C.obj))).trans (C.cpp)
  val := (C.val).step A C.hs.wf (by first | exact fun e => e | omega)
  lev := v1
  why := (C.why).step A C.hs.wf (by first | exact fun e => e | omega)
  wat := (C.wat).step A C.hs.wf (by first | exact fun e => e | omega)
  row := fun j hj hx => by obtain ⟨u, h3, h4⟩ := C.row j hj hx; exact ⟨u, h3, (h4).step A C.hs.wf (by first | exact fun e => e | omega)⟩
  trl := (C.trl).step A C.hs.wf (by first | exact fun e => e | omega)
  ends := (C.ends).step A C.hs.wf (by first | exact fun e => e | omega)
  sco := (C.sco).step A C.hs.wf (by first | exact fun e => e | omega)
  lea := (C.lea).step A C.hs.wf (by first | exact fun e => e | omega)
  lear := C.lear
  clp := C.clp
  cll := C.cll
  cob := fun k hk => ⟨(A.get C.hs.wf ((C.cob k hk).1) (by first | exact fun e => e | (rw [(C.cob k hk).2]; omega))).1, (A.old _ (C.hs.wf.lt ((C.cob k hk).1))).trans ((C.cob k hk).2)⟩
  cli := fun k hk => (C.cli k hk).step A C.hs.wf (by first | exact fun e => e | omega)
  yok := C.yok
  sml := C.sml
  many := C.many
theorem AtX.setWhy (C : AtX G h col n V S vals x) (A : Step (fun c => c = 23) col h col1 h1) (hs1 : HS G h1 col1) {l : List (Option Nat)} (v1 : Vec col1 23 h1 149 1 V.yv (n + 1) (l.map (whyV V.cp))) (hy : ∀ w ∈ l, ∀ k, w = some k → k < S.s.cls.length) : AtX G h1 col1 n V { S with why := l } vals x where
  hs := hs1
  obj := (A.get C.hs.wf (C.obj) (by first | exact fun e => e | (rw [C.cpp]; omega))).1
  cpp := (A.old _ (C.hs.wf.lt (C.obj))).trans (C.cpp)
  val := (C.val).step A C.hs.wf (by first | exact fun e => e | omega)
  lev := (C.lev).step A C.hs.wf (by first | exact fun e => e | omega)
  why := v1
  wat := (C.wat).step A C.hs.wf (by first | exact fun e => e | omega)
  row := fun j hj hx => by obtain ⟨u, h3, h4⟩ := C.row j hj hx; exact ⟨u, h3, (h4).step A C.hs.wf (by first | exact fun e => e | omega)⟩
  trl := (C.trl).step A C.hs.wf (by first | exact fun e => e | omega)
  ends := (C.ends).step A C.hs.wf (by first | exact fun e => e | omega)
  sco := (C.sco).step A C.hs.wf (by first | exact fun e => e | omega)
  lea := (C.lea).step A C.hs.wf (by first | exact fun e => e | omega)
  lear := C.lear
  clp := C.clp
  cll := C.cll
  cob := fun k hk => ⟨(A.get C.hs.wf ((C.cob k hk).1) (by first | exact fun e => e | (rw [(C.cob k hk).2]; omega))).1, (A.old _ (C.hs.wf.lt ((C.cob k hk).1))).trans ((C.cob k hk).2)⟩
  cli := fun k hk => (C.cli k hk).step A C.hs.wf (by first | exact fun e => e | omega)
  yok := hy
  sml := C.sml
  many := C.many
theorem AtX.setTr (C : AtX G h col n V S vals x) (A : Step (fun c => c = 25) col h col1 h1) {tr : List Int} {tv : AV} (v1 : Vec col1 25 h1 3 1 tv tr.length (tr.map (AV.int .i64)))
    (B : Step (fun c => c = 20) col1 h1 col2 h2) (hs2 : HS G h2 col2) (o2 : h2.t.get V.p = some (.cells (objV n { V with tv := tv } S) 121 false)) : AtX G h2 col2 n { V with tv := tv } { S with s := { S.s with tr := tr } } vals x where
  hs := hs2
  obj := o2
  cpp := (B.old _ (Nat.lt_of_lt_of_le (C.hs.wf.lt (C.obj)) A.nx)).trans ((A.old _ (C.hs.wf.lt (C.obj))).trans (C.cpp))
  val := ((C.val).step A C.hs.wf (by first | exact fun e => e | omega)).step B A.wf (by first | exact fun e => e | omega)
  lev := ((C.lev).step A C.hs.wf (by first | exact fun e => e | omega)).step B A.wf (by first | exact fun e => e | omega)
  why := ((C.why).step A C.hs.wf (by first | exact fun e => e | omega)).step B A.wf (by first | exact fun e => e | omega)
  wat := ((C.wat).step A C.hs.wf (by first | exact fun e => e | omega)).step B A.wf (by first | exact fun e => e | omega)
  row := fun j hj hx => by obtain ⟨u, h3, h4⟩ := C.row j hj hx; exact ⟨u, h3, ((h4).step A C.hs.wf (by first | exact fun e => e | omega)).step B A.wf (by first | exact fun e => e | omega)⟩
  trl := v1.step B A.wf (by omega)
  ends := ((C.ends).step A C.hs.wf (by first | exact fun e => e | omega)).step B A.wf (by first | exact fun e => e | omega)
  sco := ((C.sco).step A C.hs.wf (by first | exact fun e => e | omega)).step B A.wf (by first | exact fun e => e | omega)
  lea := ((C.lea).step A C.hs.wf (by first | exact fun e => e | omega)).step B A.wf (by first | exact fun e => e | omega)
  lear := C.lear
  clp := C.clp
  cll := C.cll
  cob := fun k hk => ⟨(B.get A.wf ((A.get C.hs.wf ((C.cob k hk).1) (by first | exact fun e => e | (rw [(C.cob k hk).2]; omega))).1) (by first | exact fun e => e | (rw [(A.get C.hs.wf ((C.cob k hk).1) (by first | exact fun e => e | (rw [(C.cob k hk).2]; omega))).2, (C.cob k hk).2]; omega))).1, (B.old _ (Nat.lt_of_lt_of_le (C.hs.wf.lt ((C.cob k hk).1)) A.nx)).trans ((A.old _ (C.hs.wf.lt ((C.cob k hk).1))).trans ((C.cob k hk).2))⟩
  cli := fun k hk => ((C.cli k hk).step A C.hs.wf (by first | exact fun e => e | omega)).step B A.wf (by first | exact fun e => e | omega)
  yok := C.yok
  sml := C.sml
  many := C.many
/-- The head's place. -/
theorem AtX.setHead (C : AtX G h col n V S vals x) (A : Step (fun c => c = 20) col h col1 h1) (hs1 : HS G h1 col1) {k : Nat} (o1 : h1.t.get V.p = some (.cells (objV n V { S with s := { S.s with head := k } }) 121 false)) : AtX G h1 col1 n V { S with s := { S.s with head := k } } vals x where
  hs := hs1
  obj := o1
  cpp := (A.old _ (C.hs.wf.lt (C.obj))).trans (C.cpp)
  val := (C.val).step A C.hs.wf (by first | exact fun e => e | omega)
  lev := (C.lev).step A C.hs.wf (by first | exact fun e => e | omega)
  why := (C.why).step A C.hs.wf (by first | exact fun e => e | omega)
  wat := (C.wat).step A C.hs.wf (by first | exact fun e => e | omega)
  row := fun j hj hx => by obtain ⟨u, h3, h4⟩ := C.row j hj hx; exact ⟨u, h3, (h4).step A C.hs.wf (by first | exact fun e => e | omega)⟩
  trl := (C.trl).step A C.hs.wf (by first | exact fun e => e | omega)
  ends := (C.ends).step A C.hs.wf (by first | exact fun e => e | omega)
  sco := (C.sco).step A C.hs.wf (by first | exact fun e => e | omega)
  lea := (C.lea).step A C.hs.wf (by first | exact fun e => e | omega)
  lear := C.lear
  clp := C.clp
  cll := C.cll
  cob := fun k hk => ⟨(A.get C.hs.wf ((C.cob k hk).1) (by first | exact fun e => e | (rw [(C.cob k hk).2]; omega))).1, (A.old _ (C.hs.wf.lt ((C.cob k hk).1))).trans ((C.cob k hk).2)⟩
  cli := fun k hk => (C.cli k hk).step A C.hs.wf (by first | exact fun e => e | omega)
  yok := C.yok
  sml := C.sml
  many := C.many
theorem AtX.setBroken (C : AtX G h col n V S vals x) (A : Step (fun c => c = 20) col h col1 h1) (hs1 : HS G h1 col1) {b : Bool} (o1 : h1.t.get V.p = some (.cells (objV n V { S with broken := b }) 121 false)) : AtX G h1 col1 n V { S with broken := b } vals x where
  hs := hs1
  obj := o1
  cpp := (A.old _ (C.hs.wf.lt (C.obj))).trans (C.cpp)
  val := (C.val).step A C.hs.wf (by first | exact fun e => e | omega)
  lev := (C.lev).step A C.hs.wf (by first | exact fun e => e | omega)
  why := (C.why).step A C.hs.wf (by first | exact fun e => e | omega)
  wat := (C.wat).step A C.hs.wf (by first | exact fun e => e | omega)
  row := fun j hj hx => by obtain ⟨u, h3, h4⟩ := C.row j hj hx; exact ⟨u, h3, (h4).step A C.hs.wf (by first | exact fun e => e | omega)⟩
  trl := (C.trl).step A C.hs.wf (by first | exact fun e => e | omega)
  ends := (C.ends).step A C.hs.wf (by first | exact fun e => e | omega)
  sco := (C.sco).step A C.hs.wf (by first | exact fun e => e | omega)
  lea := (C.lea).step A C.hs.wf (by first | exact fun e => e | omega)
  lear := C.lear
  clp := C.clp
  cll := C.cll
  cob := fun k hk => ⟨(A.get C.hs.wf ((C.cob k hk).1) (by first | exact fun e => e | (rw [(C.cob k hk).2]; omega))).1, (A.old _ (C.hs.wf.lt ((C.cob k hk).1))).trans ((C.cob k hk).2)⟩
  cli := fun k hk => (C.cli k hk).step A C.hs.wf (by first | exact fun e => e | omega)
  yok := C.yok
  sml := C.sml
  many := C.many
/-- A clause's literals. -/
theorem c_set (S : Ws) {k : Nat} (hk : k < S.cls.length) (l : List Int) (m : Nat) : (S.cls.set k l).getD m [] = if m = k then l else S.c m := by
  rw [List.getD_eq_getElem?_getD, List.getElem?_set]
  by_cases e : k = m
  · subst e; rw [if_pos rfl, if_pos hk, if_pos rfl]; rfl
  · rw [if_neg e, if_neg (fun e' => e e'.symm), Ws.c, List.getD_eq_getElem?_getD]
theorem AtX.setCl (C : AtX G h col n V S vals x) {k : Nat} (hk : k < S.s.cls.length) {l : List Int} (hl : l.length = (S.s.c k).length) (A : Step (fun c => c = 43 + 2 * n + 2 * k) col h col1 h1) (hs1 : HS G h1 col1) (v1 : Vec col1 (43 + 2 * n + 2 * k) h1 3 1 (V.cl.getD k .nilPtr) (S.s.c k).length (l.map (AV.int .i64))) :
    AtX G h1 col1 n V { S with s := { S.s with cls := S.s.cls.set k l } } vals x := by
  have hlen : (S.s.cls.set k l).length = S.s.cls.length := List.length_set ..
  have hcli : ∀ m, m < (S.s.cls.set k l).length → Vec col1 (43 + 2 * n + 2 * m) h1 3 1 (V.cl.getD m .nilPtr) ((S.s.cls.set k l).getD m []).length (((S.s.cls.set k l).getD m []).map (AV.int .i64)) := fun m hm => by
    rw [hlen] at hm
    rw [c_set S.s hk l m]
    by_cases e' : m = k
    · subst e'; rw [if_pos rfl, hl]; exact v1
    · rw [if_neg e']; exact (C.cli m hm).step A C.hs.wf (by omega)
  have hcob : ∀ m, m < (S.s.cls.set k l).length → h1.t.get (V.cp.getD m 0) = some (.cells [V.cl.getD m .nilPtr] 158 false) ∧ col1 (V.cp.getD m 0) = 42 + 2 * n + 2 * m := fun m hm => by
    rw [hlen] at hm
    exact ⟨(A.get C.hs.wf (C.cob m hm).1 (by rw [(C.cob m hm).2]; omega)).1, (A.old _ (C.hs.wf.lt (C.cob m hm).1)).trans (C.cob m hm).2⟩
  exact {
    hs := hs1
    obj := (A.get C.hs.wf (C.obj) (by first | exact fun e => e | (rw [C.cpp]; omega))).1
    cpp := (A.old _ (C.hs.wf.lt (C.obj))).trans (C.cpp)
    val := (C.val).step A C.hs.wf (by first | exact fun e => e | omega)
    lev := (C.lev).step A C.hs.wf (by first | exact fun e => e | omega)
    why := (C.why).step A C.hs.wf (by first | exact fun e => e | omega)
    wat := (C.wat).step A C.hs.wf (by first | exact fun e => e | omega)
    row := fun j hj hx => by obtain ⟨u, h3, h4⟩ := C.row j hj hx; exact ⟨u, h3, (h4).step A C.hs.wf (by first | exact fun e => e | omega)⟩
    trl := (C.trl).step A C.hs.wf (by first | exact fun e => e | omega)
    ends := (C.ends).step A C.hs.wf (by first | exact fun e => e | omega)
    sco := (C.sco).step A C.hs.wf (by first | exact fun e => e | omega)
    lea := (C.lea).step A C.hs.wf (by first | exact fun e => e | omega)
    lear := C.lear
    clp := C.clp.trans hlen.symm
    cll := C.cll.trans hlen.symm
    cob := hcob
    cli := hcli
    yok := fun w hw m e => Nat.lt_of_lt_of_eq (C.yok w hw m e) hlen.symm
    sml := C.sml
    many := hlen.symm ▸ C.many
  }
/-- A row of watchers that is turned. -/
theorem AtX.turn (C : AtX G h col n V S vals (2 * n + 2)) (x : Nat) : AtX G h col n V S vals x := { C with row := fun j hj _ => C.row j hj (by omega) }
theorem AtX.back {vs : List (List Nat)} (C : AtX G h col n V S vals x) (he : ∀ j, j ≠ x → vs.getD j [] = S.s.row j) {u : AV} (hu : V.rw[x]? = some u) (hv : Vec col (40 + x) h 149 1 u (vs.getD x []).length ((vs.getD x []).map (ptrV V.cp))) : AtX G h col n V { S with s := { S.s with wat := vs } } vals (2 * n + 2) := by
  have hrow : ∀ j, j < 2 * n + 2 → j ≠ 2 * n + 2 → ∃ u, V.rw[j]? = some u ∧ Vec col (40 + j) h 149 1 u (vs.getD j []).length ((vs.getD j []).map (ptrV V.cp)) := fun j hj _ => by
    by_cases e : j = x
    · subst e; exact ⟨u, hu, hv⟩
    · have hOB := C.row j hj e
      obtain ⟨w, h3, h4⟩ := hOB
      rw [he j e]; exact ⟨w, h3, h4⟩
  exact { C with row := hrow }
/-- Another row than the one that is turned. -/
theorem AtX.setRow (C : AtX G h col n V S vals x) {j : Nat} (hj : j < 2 * n + 2) {us : List Nat} (hlen : S.s.wat.length = 2 * n + 2) {u : AV} (A : Step (fun c => c = 40 + j) col h col1 h1) (v1 : Vec col1 (40 + j) h1 149 1 u us.length (us.map (ptrV V.cp)))
    (B : Step (fun c => c = 24) col1 h1 col2 h2) (hs2 : HS G h2 col2) (v2 : Vec col2 24 h2 118 1 V.wv (2 * n + 2) (V.rw.set j u)) : AtX G h2 col2 n { V with rw := V.rw.set j u } { S with s := { S.s with wat := S.s.wat.set j us } } vals x := by
  have hrl : V.rw.length = 2 * n + 2 := by have := C.wat.count; omega
  have hrow : ∀ i, i < 2 * n + 2 → i ≠ x → ∃ w, (V.rw.set j u)[i]? = some w ∧ Vec col2 (40 + i) h2 149 1 w ((S.s.wat.set j us).getD i []).length (((S.s.wat.set j us).getD i []).map (ptrV V.cp)) := fun i hi hix => by
    rw [List.getElem?_set, List.getD_eq_getElem?_getD, List.getElem?_set]
    by_cases e : j = i
    · subst e; rw [if_pos rfl, if_pos (by omega), if_pos rfl, if_pos (by omega)]; exact ⟨u, rfl, v1.step B A.wf (by omega)⟩
    · rw [if_neg e, if_neg e, ← List.getD_eq_getElem?_getD]
      have hOB := C.row i hi hix
      obtain ⟨w, h3, h4⟩ := hOB
      exact ⟨w, h3, (h4.step A C.hs.wf (by omega)).step B A.wf (by omega)⟩
  exact {
    hs := hs2
    obj := (B.get A.wf ((A.get C.hs.wf (C.obj) (by first | exact fun e => e | (rw [C.cpp]; omega))).1) (by first | exact fun e => e | (rw [(A.get C.hs.wf (C.obj) (by first | exact fun e => e | (rw [C.cpp]; omega))).2, C.cpp]; omega))).1
    cpp := (B.old _ (Nat.lt_of_lt_of_le (C.hs.wf.lt (C.obj)) A.nx)).trans ((A.old _ (C.hs.wf.lt (C.obj))).trans (C.cpp))
    val := ((C.val).step A C.hs.wf (by first | exact fun e => e | omega)).step B A.wf (by first | exact fun e => e | omega)
    lev := ((C.lev).step A C.hs.wf (by first | exact fun e => e | omega)).step B A.wf (by first | exact fun e => e | omega)
    why := ((C.why).step A C.hs.wf (by first | exact fun e => e | omega)).step B A.wf (by first | exact fun e => e | omega)
    wat := v2
    row := hrow
    trl := ((C.trl).step A C.hs.wf (by first | exact fun e => e | omega)).step B A.wf (by first | exact fun e => e | omega)
    ends := ((C.ends).step A C.hs.wf (by first | exact fun e => e | omega)).step B A.wf (by first | exact fun e => e | omega)
    sco := ((C.sco).step A C.hs.wf (by first | exact fun e => e | omega)).step B A.wf (by first | exact fun e => e | omega)
    lea := ((C.lea).step A C.hs.wf (by first | exact fun e => e | omega)).step B A.wf (by first | exact fun e => e | omega)
    lear := C.lear
    clp := C.clp
    cll := C.cll
    cob := fun k hk => ⟨(B.get A.wf ((A.get C.hs.wf ((C.cob k hk).1) (by first | exact fun e => e | (rw [(C.cob k hk).2]; omega))).1) (by first | exact fun e => e | (rw [(A.get C.hs.wf ((C.cob k hk).1) (by first | exact fun e => e | (rw [(C.cob k hk).2]; omega))).2, (C.cob k hk).2]; omega))).1, (B.old _ (Nat.lt_of_lt_of_le (C.hs.wf.lt ((C.cob k hk).1)) A.nx)).trans ((A.old _ (C.hs.wf.lt ((C.cob k hk).1))).trans ((C.cob k hk).2))⟩
    cli := fun k hk => ((C.cli k hk).step A C.hs.wf (by first | exact fun e => e | omega)).step B A.wf (by first | exact fun e => e | omega)
    yok := C.yok
    sml := C.sml
    many := C.many
  }
/-- What is read may be told more of. -/
theorem AtX.more (C : AtX G h col n V S vals x) (A : Step (fun _ => False) col h col h1) (hs1 : HS G' h1 col) (hl : G.le G') : AtX G' h1 col n V S vals x where
  hs := hs1
  obj := (A.get C.hs.wf (C.obj) (by first | exact fun e => e | (rw [C.cpp]; omega))).1
  cpp := (A.old _ (C.hs.wf.lt (C.obj))).trans (C.cpp)
  val := (C.val).step A C.hs.wf (by first | exact fun e => e | omega)
  lev := (C.lev).step A C.hs.wf (by first | exact fun e => e | omega)
  why := (C.why).step A C.hs.wf (by first | exact fun e => e | omega)
  wat := (C.wat).step A C.hs.wf (by first | exact fun e => e | omega)
  row := fun j hj hx => by obtain ⟨u, h3, h4⟩ := C.row j hj hx; exact ⟨u, h3, (h4).step A C.hs.wf (by first | exact fun e => e | omega)⟩
  trl := (C.trl).step A C.hs.wf (by first | exact fun e => e | omega)
  ends := (C.ends).step A C.hs.wf (by first | exact fun e => e | omega)
  sco := (C.sco).step A C.hs.wf (by first | exact fun e => e | omega)
  lea := (C.lea).step A C.hs.wf (by first | exact fun e => e | omega)
  lear := fun i hi => by obtain ⟨a, h3, h4⟩ := C.lear i hi; exact ⟨a, h3, RowOf.mono hl h4⟩
  clp := C.clp
  cll := C.cll
  cob := fun k hk => ⟨(A.get C.hs.wf ((C.cob k hk).1) (by first | exact fun e => e | (rw [(C.cob k hk).2]; omega))).1, (A.old _ (C.hs.wf.lt ((C.cob k hk).1))).trans ((C.cob k hk).2)⟩
  cli := fun k hk => (C.cli k hk).step A C.hs.wf (by first | exact fun e => e | omega)
  yok := C.yok
  sml := C.sml
  many := C.many
/-- And less. -/
theorem AtX.less (C : AtX G h col n V S vals x) (hl : G'.le G) (ha : ∀ i, i < S.learnt.length → ∃ a, V.rn[i]? = some a ∧ IntRow G' a (S.learnt.getD i [])) : AtX G' h col n V S vals x := { C with hs := C.hs.down hl, lear := ha }
end
end Sa
end Pf
end Go.Proofs.YtfjloafebkjadaaGreatDoor
