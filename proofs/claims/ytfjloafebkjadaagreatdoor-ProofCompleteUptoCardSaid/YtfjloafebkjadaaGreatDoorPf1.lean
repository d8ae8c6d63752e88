/- The propagation: where it lies, what a literal is, how one is taken. -/
import Derived.Test.YtfjloafebkjadaaGreatDoorPf0
namespace Go.Proofs.YtfjloafebkjadaaGreatDoor
namespace Pf
open Go Go.AI Go.Proofs
variable {gt : Tree (List AV)}
/-- A literal's place. -/
def ix (l : Int) : Int := if l < 0 then -2 * l + 1 else 2 * l
theorem index_spec {h : AH} (l : Int) (hl : -1000000 ≤ l ∧ l ≤ 1000000) : EvF (TT gt) X 89 [.int .i64 l] h (fun r h' => h' = h ∧ r = .int .i64 (ix l)) := by
  refine EvF.enter rfl rfl rfl ?_
  repeat (first | refine EvO.plain rfl rfl rfl rfl rfl rfl ?_ | refine EvC.seq ?_ | refine EvC.region rfl ?_ | refine EvO.nil ?_ | refine at_normal ?_)
  refine EvC.decide rfl (fun hc => ?_) (fun hc => ?_)
  · repeat (first | refine EvO.plain rfl rfl rfl rfl rfl rfl ?_ | refine EvC.seq ?_ | refine EvC.region rfl ?_ | refine EvO.nil ?_ | refine at_normal ?_ | refine EvC.ret ?_ | refine at_ret ?_ | refine EvO.cons rfl rfl rfl (EvP.add64 rfl rfl (by omega) ?_) | refine EvO.cons rfl rfl rfl (EvP.mul64 rfl rfl (by omega) ?_))
    (refine ret_is (v := .int .i64 (-2 * l + 1)) rfl rfl ?_)
    exact ⟨rfl, by rw [ix, if_pos hc]⟩
  · repeat (first | refine EvO.plain rfl rfl rfl rfl rfl rfl ?_ | refine EvC.seq ?_ | refine EvC.region rfl ?_ | refine EvO.nil ?_ | refine at_normal ?_ | refine EvC.skip ?_ | refine EvC.ret ?_ | refine EvO.cons rfl rfl rfl (EvP.mul64 rfl rfl (by omega) ?_))
    (refine ret_is (v := .int .i64 (2 * l)) rfl rfl ?_)
    exact ⟨rfl, by rw [ix, if_neg hc]⟩
/-- The state of a propagation. -/
structure Ch where
  all : List (List Int)
  trail : List Int
  why : List Int
  uses : List (List Int)
/-- What a literal is, by what was taken. -/
def ofT (tr : List Int) (l : Int) : Int := if l ∈ tr then 1 else if -l ∈ tr then -1 else 0
def valT (n : Nat) (tr : List Int) : List AV := (List.range (n + 1)).map fun i : Nat => AV.int .i8 (ofT tr i)
/-- Where it lies. -/
structure Lay where
  p : Nat
  av : AV
  vv : AV
  wv : AV
  tv : AV
  uv : AV
  ra : List AV
  ru : List AV
  /-- Objects of others, with their colours. -/
  fo : List (Nat × AObj × Nat)
structure ChM (G h : AH) (col : Nat → Nat) (n : Nat) (V : Lay) (S : Ch) (vals : List AV) : Prop where
  hs : HS G h col
  obj : h.t.get V.p = some (.cells [V.av, V.vv, V.wv, V.tv, V.uv] 109 false)
  cp : col V.p = 1
  all : Vec col 2 h 35 1 V.av S.all.length V.ra
  alls : ∀ i, i < S.all.length → ∃ a, V.ra[i]? = some a ∧ IntRow G a (S.all.getD i [])
  val : Vec col 3 h 141 1 V.vv (n + 1) vals
  why : Vec col 4 h 3 1 V.wv (n + 1) (S.why.map (AV.int .i64))
  trail : Vec col 5 h 3 1 V.tv S.trail.length (S.trail.map (AV.int .i64))
  uses : Vec col 6 h 35 1 V.uv (2 * n + 2) V.ru
  use : ∀ j, j < 2 * n + 2 → ∃ u, V.ru[j]? = some u ∧ Vec col (7 + j) h 3 1 u (S.uses.getD j []).length ((S.uses.getD j []).map (AV.int .i64))
  sml : n ≤ 1000000
  fr : ∀ x ∈ V.fo, h.t.get x.1 = some x.2.1 ∧ col x.1 = x.2.2 ∧ 2 * n + 9 ≤ x.2.2
theorem ChM.frs {G h h1 : AH} {col col1 : Nat → Nat} {n : Nat} {V : Lay} {S : Ch} {vals : List AV} {R : Nat → Prop} (C : ChM G h col n V S vals) (A : Step R col h col1 h1) (hR : ∀ c, 2 * n + 9 ≤ c → ¬ R c) : ∀ x ∈ V.fo, h1.t.get x.1 = some x.2.1 ∧ col1 x.1 = x.2.2 ∧ 2 * n + 9 ≤ x.2.2 := fun x hx => by
  have hOB := C.fr x hx
  obtain ⟨h2, h3, h4⟩ := hOB
  have h5 := A.get C.hs.wf h2 (by rw [h3]; exact hR _ h4)
  exact ⟨h5.1, h5.2.trans h3, h4⟩
abbrev ChAt (G h : AH) (col : Nat → Nat) (n : Nat) (V : Lay) (S : Ch) : Prop := ChM G h col n V S (valT n S.trail)
theorem ChM.setVal {G h h1 : AH} {col col1 : Nat → Nat} {n : Nat} {V : Lay} {S : Ch} {vals vals' : List AV} (C : ChM G h col n V S vals) (A : Step (fun x => x = 3) col h col1 h1) (hs1 : HS G h1 col1) (v1 : Vec col1 3 h1 141 1 V.vv (n + 1) vals') : ChM G h1 col1 n V S vals' where
  hs := hs1
  obj := (A.get C.hs.wf C.obj (by rw [C.cp]; decide)).1
  cp := (A.get C.hs.wf C.obj (by rw [C.cp]; decide)).2.trans C.cp
  all := C.all.step A C.hs.wf (by decide)
  alls := C.alls
  val := v1
  why := C.why.step A C.hs.wf (by decide)
  trail := C.trail.step A C.hs.wf (by decide)
  uses := C.uses.step A C.hs.wf (by decide)
  use := fun j hj => by
    have hOB := C.use j hj
    obtain ⟨u, h3, h4⟩ := hOB
    exact ⟨u, h3, h4.step A C.hs.wf (by omega)⟩
  sml := C.sml
  fr := C.frs A (fun c h e => by omega)
theorem ChM.setWhy {G h h1 : AH} {col col1 : Nat → Nat} {n : Nat} {V : Lay} {S : Ch} {vals : List AV} (C : ChM G h col n V S vals) (A : Step (fun x => x = 4) col h col1 h1) (hs1 : HS G h1 col1) {w : List Int} (v1 : Vec col1 4 h1 3 1 V.wv (n + 1) (w.map (AV.int .i64))) : ChM G h1 col1 n V { S with why := w } vals where
  hs := hs1
  obj := (A.get C.hs.wf C.obj (by rw [C.cp]; decide)).1
  cp := (A.get C.hs.wf C.obj (by rw [C.cp]; decide)).2.trans C.cp
  all := C.all.step A C.hs.wf (by decide)
  alls := C.alls
  val := C.val.step A C.hs.wf (by decide)
  why := v1
  trail := C.trail.step A C.hs.wf (by decide)
  uses := C.uses.step A C.hs.wf (by decide)
  use := fun j hj => by
    have hOB := C.use j hj
    obtain ⟨u, h3, h4⟩ := hOB
    exact ⟨u, h3, h4.step A C.hs.wf (by omega)⟩
  sml := C.sml
  fr := C.frs A (fun c h e => by omega)
/-- Another trail, and then its field. -/
theorem ChM.setTrail {G h h1 h2 : AH} {col col1 col2 : Nat → Nat} {n : Nat} {V : Lay} {S : Ch} {vals : List AV} (C : ChM G h col n V S vals) (A : Step (fun x => x = 5) col h col1 h1) {tr : List Int} {tv : AV} (v1 : Vec col1 5 h1 3 1 tv tr.length (tr.map (AV.int .i64)))
    (B : Step (fun x => x = 1) col1 h1 col2 h2) (hs2 : HS G h2 col2) (o2 : h2.t.get V.p = some (.cells [V.av, V.vv, V.wv, tv, V.uv] 109 false)) : ChM G h2 col2 n { V with tv := tv } { S with trail := tr } vals where
  hs := hs2
  obj := o2
  cp := by
    have h3 := A.get C.hs.wf C.obj (by rw [C.cp]; decide)
    exact (B.old V.p (A.wf.lt h3.1)).trans (h3.2.trans C.cp)
  all := (C.all.step A C.hs.wf (by decide)).step B A.wf (by decide)
  alls := C.alls
  val := (C.val.step A C.hs.wf (by decide)).step B A.wf (by decide)
  why := (C.why.step A C.hs.wf (by decide)).step B A.wf (by decide)
  trail := v1.step B A.wf (by decide)
  uses := (C.uses.step A C.hs.wf (by decide)).step B A.wf (by decide)
  use := fun j hj => by
    have hOB := C.use j hj
    obtain ⟨u, h3, h4⟩ := hOB
    exact ⟨u, h3, (h4.step A C.hs.wf (by omega)).step B A.wf (by omega)⟩
  sml := C.sml
  fr := fun x hx => by
    have hOB := C.frs A (fun c h e => by omega) x hx
    obtain ⟨k1, k2, k3⟩ := hOB
    have k4 := B.get A.wf k1 (by rw [k2]; intro e; omega)
    exact ⟨k4.1, k4.2.trans k2, k3⟩
/-- What is read may be told more of. -/
theorem ChM.more {G G' h h1 : AH} {col : Nat → Nat} {n : Nat} {V : Lay} {S : Ch} {vals : List AV} (C : ChM G h col n V S vals) (A : Step (fun _ => False) col h col h1) (hs1 : HS G' h1 col) (hl : G.le G') : ChM G' h1 col n V S vals where
  hs := hs1
  obj := (A.get C.hs.wf C.obj (fun e => e)).1
  cp := C.cp
  all := C.all.step A C.hs.wf (fun e => e)
  alls := fun i hi => by
    have hOB := C.alls i hi
    obtain ⟨a, h3, h4⟩ := hOB
    exact ⟨a, h3, RowOf.mono hl h4⟩
  val := C.val.step A C.hs.wf (fun e => e)
  why := C.why.step A C.hs.wf (fun e => e)
  trail := C.trail.step A C.hs.wf (fun e => e)
  uses := C.uses.step A C.hs.wf (fun e => e)
  use := fun j hj => by
    have hOB := C.use j hj
    obtain ⟨u, h3, h4⟩ := hOB
    exact ⟨u, h3, h4.step A C.hs.wf (fun e => e)⟩
  sml := C.sml
  fr := C.frs A (fun _ _ e => e)
/-- And less. -/
theorem ChM.less {G G' h : AH} {col : Nat → Nat} {n : Nat} {V : Lay} {S : Ch} {vals : List AV} (C : ChM G h col n V S vals) (hl : G'.le G) (ha : ∀ i, i < S.all.length → ∃ a, V.ra[i]? = some a ∧ IntRow G' a (S.all.getD i [])) : ChM G' h col n V S vals := { C with hs := C.hs.down hl, alls := ha }
theorem ChM.fld {G h : AH} {col : Nat → Nat} {n : Nat} {V : Lay} {S : Ch} {vals : List AV} (C : ChM G h col n V S vals) {t : TypeId} {i : TInfo} {off : Nat} {v : AV} (hi : (TT gt).tt.get t = some i) (ha : i.isAgg = false) (hv : lget [V.av, V.vv, V.wv, V.tv, V.uv] off = some v) : aload (TT gt) h t (.ptr V.p off) = some v := load1 C.obj hi ha hv
theorem valT_at {n : Nat} {tr : List Int} {i : Nat} (hi : i < n + 1) : (valT n tr)[i]? = some (.int .i8 (ofT tr i)) := by
  simp [valT, hi]
theorem ofT_neg {tr : List Int} (hc : ∀ x, x ∈ tr → -x ∉ tr) {l : Int} : -ofT tr (-l) = ofT tr l := by
  unfold ofT
  rw [Int.neg_neg]
  by_cases h1 : l ∈ tr
  · have h2 := hc l h1
    simp [h1, h2]
  · by_cases h2 : -l ∈ tr <;> simp [h1, h2]
theorem ofT_rng (tr : List Int) (l : Int) : ofT tr l = 1 ∨ ofT tr l = -1 ∨ ofT tr l = 0 := by
  unfold ofT; split
  · simp
  · split <;> simp
theorem neg8 (tr : List Int) (l : Int) : some (AV.int .i8 (IntKind.i8.wrap (0 - ofT tr l))) = some (.int .i8 (-ofT tr l)) := by
  have hOB := ofT_rng tr l
  rcases hOB with h | h | h <;> rw [h] <;> rfl
theorem isT {p q : Bool} (h : p = q) : AV.bool p = .bool q := by rw [h]
theorem bne_false {a b : Int} (h : a = b) : (a != b) = false := by simp [h]
theorem bne_true {a b : Int} (h : a ≠ b) : (a != b) = true := by simp [h]
theorem beq_false {a b : Int} (h : a ≠ b) : (a == b) = false := by simp [h]
theorem beq_true {a b : Int} (h : a = b) : (a == b) = true := by simp [h]
theorem of_spec {G h : AH} {col : Nat → Nat} {n : Nat} {V : Lay} {S : Ch} (C : ChAt G h col n V S) (l : Int) (hl : ok n l) (hc' : ∀ x, x ∈ S.trail → -x ∉ S.trail) :
    EvF (TT gt) X 123 [.ptr V.p 0, .int .i64 l] h (fun r h' => h' = h ∧ r = .int .i8 (ofT S.trail l)) := by
  have hs := C.sml
  obtain ⟨h0, h1, h2⟩ := hl
  have f1 := C.fld (gt := gt) (t := 107) (off := 1) rfl rfl rfl
  refine EvF.enter rfl rfl rfl ?_
  repeat (first | refine EvO.plain rfl rfl rfl rfl rfl rfl ?_ | refine EvC.seq ?_ | refine EvC.region rfl ?_ | refine EvO.nil ?_ | refine at_normal ?_)
  refine EvC.decide rfl (fun hc => ?_) (fun hc => ?_)
  · have hOB := C.val.at1 (T := TT gt) (t := 107) (k := .i64) (i := -l) rfl rfl rfl rfl (by omega) (by omega)
    obtain ⟨p, u, a1, a2, a3⟩ := hOB
    rw [valT_at (by omega)] at a3
    cases a3
    repeat (first | refine EvO.plain rfl rfl rfl rfl rfl rfl ?_ | refine EvO.plain rfl rfl rfl rfl rfl (by assumption) ?_ | refine EvC.seq ?_ | refine EvC.region rfl ?_ | refine EvO.cons rfl rfl rfl (EvP.neg64 rfl (by omega) ?_))
    (refine EvO.cons rfl rfl rfl (EvP.quiet rfl (neg8 _ _) ?_))
    repeat (first | refine EvO.plain rfl rfl rfl rfl rfl rfl ?_ | refine EvO.nil ?_ | refine at_normal ?_ | refine EvC.ret ?_ | refine at_ret ?_)
    (refine ret_is (v := .int .i8 (-ofT S.trail (-l).toNat)) rfl rfl ?_)
    refine ⟨rfl, ?_⟩
    rw [Int.toNat_of_nonneg (by omega), ofT_neg hc']
  · have hOB := C.val.at1 (T := TT gt) (t := 107) (k := .i64) (i := l) rfl rfl rfl rfl (by omega) (by omega)
    obtain ⟨p, u, a1, a2, a3⟩ := hOB
    rw [valT_at (by omega)] at a3
    cases a3
    repeat (first | refine EvO.plain rfl rfl rfl rfl rfl rfl ?_ | refine EvO.plain rfl rfl rfl rfl rfl (by assumption) ?_ | refine EvC.seq ?_ | refine EvC.region rfl ?_ | refine EvO.nil ?_ | refine at_normal ?_ | refine EvC.skip ?_ | refine EvC.ret ?_)
    (refine ret_is (v := .int .i8 (ofT S.trail l.toNat)) rfl rfl ?_)
    refine ⟨rfl, ?_⟩
    rw [Int.toNat_of_nonneg (by omega)]
theorem valT_push {n : Nat} {tr : List Int} {l : Int} (hl : ok n l) (hf : ofT tr l = 0) : valT n (tr ++ [l]) = (valT n tr).set (max l (-l)).toNat (.int .i8 (if l < 0 then -1 else 1)) := by
  obtain ⟨h0, h1, h2⟩ := hl
  have hn : l ∉ tr ∧ -l ∉ tr := by
    unfold ofT at hf
    split at hf
    · cases hf
    · split at hf
      · cases hf
      · exact ⟨by assumption, by assumption⟩
  apply List.ext_getElem?
  intro i
  rw [List.getElem?_set]
  by_cases hi : i < n + 1
  · rw [valT_at hi]
    by_cases e : (max l (-l)).toNat = i
    · rw [if_pos e, if_pos (by simp [valT]; omega)]
      congr 2
      by_cases hneg : l < 0
      · have : (i : Int) = -l := by omega
        rw [if_pos hneg, this]
        have h3 : ¬ (-l = l) := by omega
        simp [ofT, hn, h3]
      · have : (i : Int) = l := by omega
        rw [if_neg hneg, this]
        simp [ofT]
    · rw [if_neg e, valT_at hi]
      congr 2
      have h3 : ¬ ((i : Int) = l) := by omega
      have h4 : ¬ (-(i : Int) = l) := by omega
      simp [ofT, h3, h4]
  · have : ∀ t, (valT n t)[i]? = none := fun t => by rw [List.getElem?_eq_none]; simp [valT]; omega
    rw [this, this]
    split
    · rw [if_neg (by simp [valT]; omega)]
    · rfl
/-- Takes a literal. -/
theorem take_spec {G h : AH} {col : Nat → Nat} {n : Nat} {V : Lay} {S : Ch} (C : ChAt G h col n V S) (l : Int) (w : Int) (hl : ok n l) (hc' : ∀ x, x ∈ S.trail → -x ∉ S.trail) (hlen : S.trail.length ≤ 2000000) :
    EvF (TT gt) X 90 [.ptr V.p 0, .int .i64 l, .int .i64 w] h (fun r h' => (ofT S.trail l ≠ 0 ∧ h' = h ∧ r = .bool (decide (ofT S.trail l > 0))) ∨
      (ofT S.trail l = 0 ∧ r = .bool true ∧ ∃ col' tv, ChAt G h' col' n { V with tv := tv } { S with trail := S.trail ++ [l], why := S.why.set (max l (-l)).toNat w })) := by
  have hs := C.sml
  have hl' := hl
  obtain ⟨h0, h1, h2⟩ := hl'
  refine EvF.enter rfl rfl rfl ?_
  repeat (first | refine EvO.plain rfl rfl rfl rfl rfl rfl ?_ | refine EvC.seq ?_ | refine EvC.region rfl ?_ | refine EvO.nil ?_ | refine at_normal ?_)
  (refine EvO.cons rfl rfl rfl (EvP.callF rfl rfl rfl rfl (EvF.mono (of_spec C l hl hc') ?_)))
  rintro _ _ hn ⟨rfl, rfl⟩
  repeat (first | refine EvO.plain rfl rfl rfl rfl rfl rfl ?_ | refine EvO.nil ?_ | refine at_normal ?_)
  by_cases h3 : ofT S.trail l = 0
  · refine EvC.cond (t := false) (isT (bne_false h3)) (fun e => nomatch e) (fun _ => ?_)
    have f1 := C.fld (gt := gt) (t := 107) (off := 1) rfl rfl rfl
    have hOB := C.val.at1 (T := TT gt) (t := 107) (k := .i64) (i := max l (-l)) rfl rfl rfl rfl (by omega) (by omega)
    obtain ⟨p, u, a1, a2, a3⟩ := hOB
    repeat (first | refine EvO.plain rfl rfl rfl rfl rfl rfl ?_ | refine EvO.plain rfl rfl rfl rfl rfl (by assumption) ?_ | refine EvC.seq ?_ | refine EvC.region rfl ?_ | refine EvO.nil ?_ | refine at_normal ?_ | refine EvC.skip ?_ | refine EvO.cons rfl rfl rfl (EvP.neg64 rfl (by omega) ?_) | refine EvO.cons rfl rfl rfl (EvP.max rfl rfl rfl rfl ?_))
    refine EvO.cons0 rfl rfl (EvP.setV (T := TT gt) (t := 107) C.hs C.val (by decide) rfl rfl rfl (by omega) (by omega) a1 rfl rfl rfl rfl (fun h1 A1 S1 V1 _ => ?_))
    have C1 := C.setVal A1 S1 V1
    clear a2 a3 f1
    have g1 := C1.fld (gt := gt) (t := 107) (off := 1) rfl rfl rfl
    repeat (first | refine EvO.plain rfl rfl rfl rfl rfl rfl ?_ | refine EvC.seq ?_ | refine EvC.region rfl ?_ | refine EvO.nil ?_ | refine at_normal ?_)
    refine EvC.join (fun σ h2 => ∃ E, ChM G h2 col n V S (valT n (S.trail ++ [l])) ∧ σ = upds [(0, .ptr V.p 0), (1, .int .i64 l), (2, .int .i64 w), (7, .int .i64 (max l (-l)))] E) ?_ ?_
    · refine EvC.decide rfl (fun hneg => ?_) (fun hneg => ?_)
      · have hOB := C1.val.at1 (T := TT gt) (t := 107) (k := .i64) (i := max l (-l)) rfl rfl rfl rfl (by omega) (by omega)
        obtain ⟨q, u', b1, b2, b3⟩ := hOB
        repeat (first | refine EvO.plain rfl rfl rfl rfl rfl rfl ?_ | refine EvO.plain rfl rfl rfl rfl rfl (by assumption) ?_ | refine EvC.region rfl ?_)
        refine EvO.cons0 rfl rfl (EvP.setV (T := TT gt) (t := 107) S1 C1.val (by decide) rfl rfl rfl (by omega) (by omega) b1 rfl rfl rfl rfl (fun h2 A2 S2 V2 _ => ?_))
        have C2 := C1.setVal A2 S2 V2
        repeat (first | refine EvO.nil ?_ | refine jo_normal ?_)
        exact ⟨_, by rw [valT_push hl h3, if_pos hneg]; rw [List.set_set] at C2; exact C2, hold ⟨rfl, rfl, rfl, rfl, trivial⟩⟩
      · repeat (first | refine EvC.skip ?_ | refine jo_normal ?_)
        exact ⟨_, by rw [valT_push hl h3, if_neg hneg]; exact C1, hold ⟨rfl, rfl, rfl, rfl, trivial⟩⟩
    · clear g1 a1 C1 V1 A1
      rintro _ h2 ⟨E, C2, rfl⟩
      have g2 := C2.fld (gt := gt) (t := 35) (off := 2) rfl rfl rfl
      have hOB := C2.why.at1 (T := TT gt) (t := 35) (k := .i64) (i := max l (-l)) rfl rfl rfl rfl (by omega) (by omega)
      obtain ⟨q, u', b1, b2, b3⟩ := hOB
      clear b2 b3
      repeat (first | refine EvO.plain rfl rfl rfl rfl rfl rfl ?_ | refine EvO.plain rfl rfl rfl rfl rfl (by assumption) ?_ | refine EvC.seq ?_ | refine EvC.region rfl ?_ | refine at_normal ?_)
      refine EvO.cons0 rfl rfl (EvP.setV (T := TT gt) (t := 35) (u := .int .i64 w) C2.hs C2.why (by decide) rfl rfl rfl (by omega) (by omega) b1 rfl rfl rfl rfl (fun m3 A3 S3 V3 _ => ?_))
      rw [← List.map_set] at V3
      have C3 := C2.setWhy A3 S3 V3
      clear g2 b1
      have g3 := C3.fld (gt := gt) (t := 35) (off := 3) rfl rfl rfl
      repeat (first | refine EvO.plain rfl rfl rfl rfl rfl rfl ?_ | refine EvO.plain rfl rfl rfl rfl rfl (by assumption) ?_ | refine EvC.seq ?_ | refine EvC.region rfl ?_ | refine EvO.nil ?_ | refine at_normal ?_)
      (refine EvO.cons rfl rfl rfl (EvP.newR (b := .cells [.int .i64 l] 3 false) (mk := .slice 1 1 true) C3.hs rfl rfl (fun h4 id A4 S4 hle o4 _ _ => ?_)))
      have C4 := C3.more A4 S4 hle
      refine EvO.cons rfl rfl rfl (EvP.appendC C4.hs C4.trail (by decide) rfl rfl rfl rfl rfl rfl rfl rfl rfl (by decide) rfl rfl (afirst_all o4 rfl) rfl (by decide) rfl (by show (S.trail.length + 1) * 8 ≤ 70368744177664; omega) (by show S.trail.length + 1 ≤ 1099511627776; omega) (fun tv h5 col5 A5 S5 V5 => ?_))
      repeat (refine EvO.plain rfl rfl rfl rfl rfl rfl ?_)
      refine EvO.cons0 rfl rfl (EvP.store1 (u := tv) S5 1 (A5.get C4.hs.wf C4.obj (by rw [C4.cp]; decide)).1 ((A5.get C4.hs.wf C4.obj (by rw [C4.cp]; decide)).2.trans C4.cp) (by decide) rfl rfl rfl rfl V5.sc (by show 3 < 5; decide) (fun h6 A6 S6 o6 _ _ => ?_))
      have C6 := C4.setTrail (tr := S.trail ++ [l]) (tv := tv) A5 (by simpa using V5) A6 S6 o6
      repeat (first | refine EvO.plain rfl rfl rfl rfl rfl rfl ?_ | refine EvC.seq ?_ | refine EvC.region rfl ?_ | refine EvO.nil ?_ | refine at_normal ?_ | refine EvC.ret ?_)
      (refine ret_is (v := .bool true) rfl rfl ?_)
      refine .inr ⟨h3, rfl, _, tv, C6.less hle C3.alls⟩
  · refine EvC.cond (t := true) (isT (bne_true h3)) (fun _ => ?_) (fun e => nomatch e)
    repeat (first | refine EvO.plain rfl rfl rfl rfl rfl rfl ?_ | refine EvC.seq ?_ | refine EvC.region rfl ?_)
    (refine EvO.cons rfl rfl rfl (EvP.callF rfl rfl rfl rfl (EvF.mono (of_spec C l hl hc') ?_)))
    rintro _ _ hn ⟨rfl, rfl⟩
    repeat (first | refine EvO.plain rfl rfl rfl rfl rfl rfl ?_ | refine EvO.nil ?_ | refine at_normal ?_ | refine EvC.ret ?_ | refine at_ret ?_)
    (refine ret_is (v := .bool (decide (ofT S.trail l > 0))) rfl rfl ?_)
    exact .inl ⟨h3, rfl, rfl⟩
end Pf
end Go.Proofs.YtfjloafebkjadaaGreatDoor
