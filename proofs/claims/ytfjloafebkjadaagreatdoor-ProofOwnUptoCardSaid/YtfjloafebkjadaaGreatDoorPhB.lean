/- Rows beside a propagation; clauses that say the same. -/
import Derived.Test.YtfjloafebkjadaaGreatDoorPf6
import Derived.Test.YtfjloafebkjadaaGreatDoorPgM
import Derived.Test.YtfjloafebkjadaaGreatDoorPgG
import Derived.Test.YtfjloafebkjadaaGreatDoorPgC
import Derived.Test.YtfjloafebkjadaaGreatDoorPf7
namespace Go.Proofs.YtfjloafebkjadaaGreatDoor
namespace Pf
open Go Go.AI Go.Proofs
variable {gt : Tree (List AV)}
/-- A row of one's own by its object. -/
theorem vec_entry {col : Nat → Nat} {c e sz m : Nat} {h : AH} {v : AV} {cs : List AV} (V : Vec col c h e sz v m cs) :
    ∃ l : List (Nat × AObj × Nat), (∀ x ∈ l, h.t.get x.1 = some x.2.1 ∧ col x.1 = x.2.2 ∧ x.2.2 = c) ∧ ∀ (h1 : AH) (col1 : Nat → Nat), (∀ x ∈ l, h1.t.get x.1 = some x.2.1 ∧ col1 x.1 = x.2.2) → Vec col1 c h1 e sz v m cs := by
  cases V with
  | nil => exact ⟨[], fun x hx => (nomatch hx), fun _ _ _ => .nil⟩
  | @mk id _ cap ex _ tail hg hc hn hx =>
    refine ⟨[(id, .cells (cs ++ tail) e false, c)], fun x hx' => ?_, fun h1 col1 hl => ?_⟩
    · rw [List.mem_singleton.1 hx']; exact ⟨hg, hc, rfl⟩
    · have := hl _ (List.mem_singleton.2 rfl)
      exact .mk this.1 this.2 hn hx
theorem ChM.setFo {G h : AH} {col : Nat → Nat} {n : Nat} {V : Lay} {S : Ch} {vals : List AV} (C : ChM G h col n V S vals) {fo : List (Nat × AObj × Nat)} (hf : ∀ x ∈ fo, h.t.get x.1 = some x.2.1 ∧ col x.1 = x.2.2 ∧ 2 * n + 9 ≤ x.2.2) : ChM G h col n { V with fo := fo } S vals where
  hs := C.hs
  obj := C.obj
  cp := C.cp
  all := C.all
  alls := C.alls
  val := C.val
  why := C.why
  trail := C.trail
  uses := C.uses
  use := C.use
  sml := C.sml
  fr := hf
/-- A propagation with its clauses, and two rows of the caller's beside it. -/
structure EX (G h : AH) (col : Nat → Nat) (n : Nat) (V : Lay) (S : Ch) (atv : AV) (ats : List Int) (outv : AV) (o : Nat) (cells : List AV) : Prop where
  C : ChAt G h col n V S
  W : WFc n S
  U : S.uses.length = 2 * n + 2
  B : Bd S
  t1 : ∀ x ∈ S.trail, ok n x
  t2 : S.trail.length ≤ n
  at_ : Vec col (2 * n + 9) h 3 1 atv ats.length (ats.map (AV.int .i64))
  out : Vec col (2 * n + 10) h 43 3 outv o cells
theorem ex_add {G h : AH} {col : Nat → Nat} {n : Nat} {V : Lay} {S : Ch} {atv outv : AV} {ats : List Int} {o : Nat} {cells : List AV} (E : EX G h col n V S atv ats outv o cells) {v : AV} {l : List Int} (row : IntRow G v l) (hl : ∀ x ∈ l, ok n x) (hb : total S.all + l.length ≤ 2 ^ 36) (hm : S.all.length < 2 ^ 30) :
    EvF (TT gt) X 58 [.ptr V.p 0, v] h (fun _ h' => ∃ col' V' S', EX G h' col' n V' S' atv ats outv o cells ∧ V'.p = V.p ∧ S'.all = S.all ++ [l] ∧ S'.trail = S.trail ∧ S'.why = S.why) := by
  have hOB := vec_entry E.at_
  obtain ⟨l1, a1, a2⟩ := hOB
  have hOB := vec_entry E.out
  obtain ⟨l2, b1, b2⟩ := hOB
  have C := E.C.setFo (fo := l1 ++ l2) (fun x hx => by
    have hOB := List.mem_append.1 hx
    rcases hOB with h' | h'
    · exact ⟨(a1 x h').1, (a1 x h').2.1, by rw [(a1 x h').2.2]; omega⟩
    · exact ⟨(b1 x h').1, (b1 x h').2.1, by rw [(b1 x h').2.2]; omega⟩)
  have B := E.B
  refine EvF.mono (add_spec C E.U row hl (fun j => by have := B j; omega) (by omega)) ?_
  rintro r h' _ ⟨col', av, ra, ru, C'⟩
  refine ⟨col', _, _, ⟨C', E.W.add E.U E.B hl hb hm, ?_, fun j => ?_, E.t1, E.t2, a2 _ _ fun x hx => ?_, b2 _ _ fun x hx => ?_⟩, rfl, rfl, rfl, rfl⟩
  · show (addUse S.all.length l S.uses).length = _
    rw [addUse_len]; exact E.U
  · show ((addUse S.all.length l S.uses).getD j []).length ≤ total (S.all ++ [l])
    rw [total_snoc]
    have := addUse_bound (k := S.all.length) l S.uses E.U hl j
    have := B j
    omega
  · have := C'.fr x (List.mem_append_left _ hx); exact ⟨this.1, this.2.1⟩
  · have := C'.fr x (List.mem_append_right _ hx); exact ⟨this.1, this.2.1⟩
theorem ex_clash {G h : AH} {col : Nat → Nat} {n : Nat} {V : Lay} {S : Ch} {atv outv : AV} {ats : List Int} {o : Nat} {cells : List AV} (E : EX G h col n V S atv ats outv o cells) {tk : AV} {taken : List Int} (row : IntRow G tk taken) (htk : ∀ x ∈ taken, ok n x) (hb : taken.length ≤ 2 ^ 36) :
    EvF (TT gt) X 59 [.ptr V.p 0, tk] h (fun r h' => ∃ k col' V' S', r = .int .i64 k ∧ EX G h' col' n V' S' atv ats outv o cells ∧ V'.p = V.p ∧ S'.all = S.all ∧ (k = -1 ↔ ¬ Clash S.all taken) ∧ S'.trail.Nodup ∧ Why n S.all taken S'.trail S'.why ∧ (k = -2 → ∃ x ∈ taken, -x ∈ taken) ∧ (k ≠ -1 → k ≠ -2 → ∃ j : Nat, k = j ∧ j < S.all.length ∧ ∀ y ∈ S.all.getD j [], -y ∈ S'.trail)) := by
  have hOB := vec_entry E.at_
  obtain ⟨l1, a1, a2⟩ := hOB
  have hOB := vec_entry E.out
  obtain ⟨l2, b1, b2⟩ := hOB
  have C := E.C.setFo (fo := l1 ++ l2) (fun x hx => by
    have hOB := List.mem_append.1 hx
    rcases hOB with h' | h'
    · exact ⟨(a1 x h').1, (a1 x h').2.1, by rw [(a1 x h').2.2]; omega⟩
    · exact ⟨(b1 x h').1, (b1 x h').2.1, by rw [(b1 x h').2.2]; omega⟩)
  refine EvF.mono (clash_specW C E.W E.t1 E.t2 row htk (by omega)) ?_
  rintro r h' _ ⟨k, col', tv, tr', why', rfl, hk, C', g, y, z1, z2⟩
  refine ⟨k, col', _, _, rfl, ⟨C', ⟨E.W.oks, E.W.short, E.W.many, E.W.use1, E.W.use2, E.W.ulen⟩, E.U, E.B, g.oks, g.len, a2 _ _ fun x hx => ?_, b2 _ _ fun x hx => ?_⟩, rfl, rfl, hk, g.nodup, y, z1, z2⟩
  · have := C'.fr x (List.mem_append_left _ hx); exact ⟨this.1, this.2.1⟩
  · have := C'.fr x (List.mem_append_right _ hx); exact ⟨this.1, this.2.1⟩
/-- More is read, and other objects have come. -/
theorem EX.more {G G' h h1 : AH} {col : Nat → Nat} {n : Nat} {V : Lay} {S : Ch} {atv outv : AV} {ats : List Int} {o : Nat} {cells : List AV} (E : EX G h col n V S atv ats outv o cells) (A : Step (fun _ => False) col h col h1) (hs1 : HS G' h1 col) (hl : G.le G') : EX G' h1 col n V S atv ats outv o cells :=
  ⟨E.C.more A hs1 hl, E.W, E.U, E.B, E.t1, E.t2, E.at_.step A E.C.hs.wf (fun e => e), E.out.step A E.C.hs.wf (fun e => e)⟩
/-- The caller's rows grow. -/
theorem ChM.own {G h h1 : AH} {col col1 : Nat → Nat} {n : Nat} {V : Lay} {S : Ch} {vals : List AV} {R : Nat → Prop} (C : ChM G h col n V S vals) (A : Step R col h col1 h1) (hR : ∀ c, R c → 2 * n + 9 ≤ c) (hs1 : HS G h1 col1) : ChM G h1 col1 n { V with fo := [] } S vals where
  hs := hs1
  obj := (A.get C.hs.wf C.obj (by rw [C.cp]; intro e; have := hR _ e; omega)).1
  cp := (A.get C.hs.wf C.obj (by rw [C.cp]; intro e; have := hR _ e; omega)).2.trans C.cp
  all := C.all.step A C.hs.wf (by intro e; have := hR _ e; omega)
  alls := C.alls
  val := C.val.step A C.hs.wf (by intro e; have := hR _ e; omega)
  why := C.why.step A C.hs.wf (by intro e; have := hR _ e; omega)
  trail := C.trail.step A C.hs.wf (by intro e; have := hR _ e; omega)
  uses := C.uses.step A C.hs.wf (by intro e; have := hR _ e; omega)
  use := fun j hj => by
    have hOB := C.use j hj
    obtain ⟨u, h3, h4⟩ := hOB
    exact ⟨u, h3, h4.step A C.hs.wf (by intro e; have := hR _ e; omega)⟩
  sml := C.sml
  fr := fun x hx => nomatch hx
theorem EX.setAt {G h h1 : AH} {col col1 : Nat → Nat} {n : Nat} {V : Lay} {S : Ch} {atv outv atv' : AV} {ats ats' : List Int} {o : Nat} {cells : List AV} (E : EX G h col n V S atv ats outv o cells) (A : Step (fun x => x = 2 * n + 9) col h col1 h1) (hs1 : HS G h1 col1) (v1 : Vec col1 (2 * n + 9) h1 3 1 atv' ats'.length (ats'.map (AV.int .i64))) : EX G h1 col1 n { V with fo := [] } S atv' ats' outv o cells :=
  ⟨E.C.own A (fun c e => by omega) hs1, E.W, E.U, E.B, E.t1, E.t2, v1, E.out.step A E.C.hs.wf (by omega)⟩
theorem EX.setOut {G h h1 : AH} {col col1 : Nat → Nat} {n : Nat} {V : Lay} {S : Ch} {atv outv outv' : AV} {ats : List Int} {o o' : Nat} {cells cells' : List AV} (E : EX G h col n V S atv ats outv o cells) (A : Step (fun x => x = 2 * n + 10) col h col1 h1) (hs1 : HS G h1 col1) (v1 : Vec col1 (2 * n + 10) h1 43 3 outv' o' cells') : EX G h1 col1 n { V with fo := [] } S atv ats outv' o' cells' :=
  ⟨E.C.own A (fun c e => by omega) hs1, E.W, E.U, E.B, E.t1, E.t2, E.at_.step A E.C.hs.wf (by omega), v1⟩
/-- Another object, of a colour of its own, has come or turned. -/
theorem EX.other {G h h1 : AH} {col col1 : Nat → Nat} {n : Nat} {V : Lay} {S : Ch} {atv outv : AV} {ats : List Int} {o : Nat} {cells : List AV} (E : EX G h col n V S atv ats outv o cells) (A : Step (fun x => x = 2 * n + 11) col h col1 h1) (hs1 : HS G h1 col1) : EX G h1 col1 n { V with fo := [] } S atv ats outv o cells :=
  ⟨E.C.own A (fun c e => by omega) hs1, E.W, E.U, E.B, E.t1, E.t2, E.at_.step A E.C.hs.wf (by omega), E.out.step A E.C.hs.wf (by omega)⟩
theorem EX.setAt' {G h h1 : AH} {col col1 : Nat → Nat} {n : Nat} {V : Lay} {S : Ch} {atv outv atv' : AV} {ats ats' : List Int} {o : Nat} {cells : List AV} (E : EX G h col n V S atv ats outv o cells) (A : Step (fun x => x = 2 * n + 9) col h col1 h1) (hs1 : HS G h1 col1) (v1 : Vec col1 (2 * n + 9) h1 3 1 atv' ats'.length (ats'.map (AV.int .i64))) : ∃ V', V'.p = V.p ∧ EX G h1 col1 n V' S atv' ats' outv o cells := ⟨{ V with fo := [] }, rfl, E.setAt A hs1 v1⟩
theorem EX.setOut' {G h h1 : AH} {col col1 : Nat → Nat} {n : Nat} {V : Lay} {S : Ch} {atv outv outv' : AV} {ats : List Int} {o o' : Nat} {cells cells' : List AV} (E : EX G h col n V S atv ats outv o cells) (A : Step (fun x => x = 2 * n + 10) col h col1 h1) (hs1 : HS G h1 col1) (v1 : Vec col1 (2 * n + 10) h1 43 3 outv' o' cells') : ∃ V', V'.p = V.p ∧ EX G h1 col1 n V' S atv ats outv' o' cells' := ⟨{ V with fo := [] }, rfl, E.setOut A hs1 v1⟩
theorem EX.other' {G h h1 : AH} {col col1 : Nat → Nat} {n : Nat} {V : Lay} {S : Ch} {atv outv : AV} {ats : List Int} {o : Nat} {cells : List AV} (E : EX G h col n V S atv ats outv o cells) (A : Step (fun x => x = 2 * n + 11) col h col1 h1) (hs1 : HS G h1 col1) : ∃ V', V'.p = V.p ∧ EX G h1 col1 n V' S atv ats outv o cells := ⟨{ V with fo := [] }, rfl, E.other A hs1⟩
end Pf
end Go.Proofs.YtfjloafebkjadaaGreatDoor
namespace Go.Proofs.YtfjloafebkjadaaGreatDoor
namespace Pf
open Go Go.AI Go.Proofs
/-- Stronger clauses clash too; one with a variable of both signs is not wanted. -/
theorem der_sub {A all : List (List Int)} {taken : List Int} (h : ∀ c ∈ A, (∃ z ∈ c, -z ∈ c) ∨ ∃ d ∈ all, ∀ y ∈ d, y ∈ c) (h0 : ∀ c ∈ A, (0 : Int) ∉ c) {x : Int} (hd : Der A taken x) : Der all taken x ∨ Clash all taken := by
  induction hd with
  | tak h => exact .inl (.tak h)
  | @unit x c hc hx _ ih =>
    by_cases hC : Clash all taken
    · exact .inr hC
    · have ih : ∀ y ∈ c, y ≠ x → Der all taken (-y) := fun y hy hne => (ih y hy hne).elim id (fun e => absurd e hC)
      have hx0 : x ≠ 0 := fun e => h0 c hc (e ▸ hx)
      have hOB := h c hc
      rcases hOB with ⟨z, z1, z2⟩ | ⟨d, d1, d2⟩
      · by_cases e1 : z = x
        · have := ih (-z) z2 (by omega)
          rw [Int.neg_neg, e1] at this
          exact .inl this
        · by_cases e2 : -z = x
          · have := ih z z1 e1
            rw [e2] at this
            exact .inl this
          · have a := ih z z1 e1
            have b := ih (-z) z2 e2
            rw [Int.neg_neg] at b
            exact .inr (.inl ⟨z, b, a⟩)
      · by_cases e : x ∈ d
        · exact .inl (.unit d1 e fun y hy hne => ih y (d2 y hy) hne)
        · exact .inr (.inr ⟨d, d1, fun y hy => ih y (d2 y hy) (fun e' => e (e' ▸ hy))⟩)
theorem clash_sub {A all : List (List Int)} {taken : List Int} (h : ∀ c ∈ A, (∃ z ∈ c, -z ∈ c) ∨ ∃ d ∈ all, ∀ y ∈ d, y ∈ c) (h0 : ∀ c ∈ A, (0 : Int) ∉ c) (hc : Clash A taken) : Clash all taken := by
  by_cases hC : Clash all taken
  · exact hC
  · have dr : ∀ {x}, Der A taken x → Der all taken x := fun hd => (der_sub h h0 hd).elim id (fun e => absurd e hC)
    rcases hc with ⟨x, h1, h2⟩ | ⟨c, hc, h1⟩
    · exact .inl ⟨x, dr h1, dr h2⟩
    · have hOB := h c hc
      rcases hOB with ⟨z, z1, z2⟩ | ⟨d, d1, d2⟩
      · have a := dr (h1 z z1)
        have b := dr (h1 (-z) z2)
        rw [Int.neg_neg] at b
        exact .inl ⟨z, b, a⟩
      · exact .inr ⟨d, d1, fun y hy => dr (h1 y (d2 y hy))⟩
/-- What lines have made so far. -/
def Mk (L made : List (List Int)) (ls : List (Int × Int × Int)) : Prop := run L ls = some (L ++ made) ∧ made.length = ls.length
/-- A clause's number among those of the set and those that were made. -/
def NumOf (s : List (List Int)) (m : Int) (c : List Int) : Prop := ∃ k : Nat, m = k ∧ k < s.length ∧ s.getD k [] = c
theorem NumOf.more {s : List (List Int)} {m : Int} {c : List Int} (h : NumOf s m c) (R : List Int) : NumOf (s ++ [R]) m c := by
  obtain ⟨k, h1, h2, h3⟩ := h
  refine ⟨k, h1, by simp; omega, ?_⟩
  rw [List.getD_eq_getElem?_getD, List.getElem?_append_left h2, ← List.getD_eq_getElem?_getD]; exact h3
/-- The resolvent on a literal, its reason on the left where it is above 0. -/
def resAt (d c : List Int) (x : Int) : List Int := if x < 0 then resL c d (-x) else resL d c x
def lineAt (a m x : Int) : Int × Int × Int := if x < 0 then (m, a, -x) else (a, m, x)
theorem mem_res {A B : List Int} {v x : Int} : x ∈ resL A B v ↔ (x ∈ A ∧ x ≠ v) ∨ (x ∈ B ∧ x ≠ -v) := by
  unfold resL but
  rw [mem_ordL, List.mem_append, List.mem_filter, List.mem_filter, bne_iff_ne, bne_iff_ne]
theorem mem_resAt {d c : List Int} {x y : Int} : y ∈ resAt d c x ↔ (y ∈ d ∧ y ≠ x) ∨ (y ∈ c ∧ y ≠ -x) := by
  unfold resAt
  split
  · rw [mem_res, Int.neg_neg]; exact Or.comm
  · rw [mem_res]
theorem Mk.next {L made : List (List Int)} {ls : List (Int × Int × Int)} (h : Mk L made ls) {a m x : Int} {d c : List Int} (ha : NumOf (L ++ made) a d) (hm : NumOf (L ++ made) m c) (hx : x ≠ 0) (h1 : x ∈ d) (h2 : -x ∈ c) :
    Mk L (made ++ [resAt d c x]) (ls ++ [lineAt a m x]) ∧ NumOf (L ++ (made ++ [resAt d c x])) (L.length + ls.length) (resAt d c x) := by
  obtain ⟨g1, g2⟩ := h
  obtain ⟨ka, rfl, a1, a2⟩ := ha
  obtain ⟨km, rfl, m1, m2⟩ := hm
  have hok : lineOk (L ++ made) (lineAt ka km x) ∧ stepR (L ++ made) (lineAt ka km x) = L ++ (made ++ [resAt d c x]) := by
    unfold lineAt resAt stepR lineOk
    by_cases e : x < 0
    · simp only [if_pos e, Int.toNat_natCast]
      rw [a2, m2, Int.neg_neg]
      exact ⟨⟨⟨by omega, by omega⟩, ⟨by omega, by omega⟩, by omega, h2, h1⟩, by rw [List.append_assoc]⟩
    · simp only [if_neg e, Int.toNat_natCast]
      rw [a2, m2]
      exact ⟨⟨⟨by omega, by omega⟩, ⟨by omega, by omega⟩, by omega, h1, h2⟩, by rw [List.append_assoc]⟩
  refine ⟨⟨?_, by simp [g2]⟩, (L ++ made).length, by simp; omega, by simp, ?_⟩
  · rw [run_append, g1]
    simp only [Option.bind_some, run, if_pos hok.1, hok.2]
  · rw [← List.append_assoc, List.getD_eq_getElem?_getD, List.getElem?_append_right (Nat.le_refl _)]; simp
theorem sortK_resAt (d c : List Int) (x : Int) : SortK (resAt d c x) := by
  unfold resAt; split <;> exact sortK_ordL _
end Pf
end Go.Proofs.YtfjloafebkjadaaGreatDoor
namespace Go.Proofs.YtfjloafebkjadaaGreatDoor
namespace Pf
open Go Go.AI Go.Proofs
variable {gt : Tree (List AV)}
def lineC (x : Int × Int × Int) : List AV := [.int .i64 x.1, .int .i64 x.2.1, .int .i64 x.2.2]
theorem lines_at : ∀ (ls : List (Int × Int × Int)) (i : Nat), i < ls.length → ((ls.flatMap lineC).drop (i * 3)).take 3 = lineC (ls.getD i ln0)
  | [], i, h => absurd h (Nat.not_lt_zero _)
  | x :: ls, 0, _ => by
    rw [Nat.zero_mul, List.drop_zero, List.flatMap_cons]
    rfl
  | x :: ls, i + 1, h => by
    have ih := lines_at ls i (by simpa using h)
    rw [List.flatMap_cons, show (i + 1) * 3 = (lineC x).length + i * 3 by show (i + 1) * 3 = 3 + i * 3; omega, ← List.drop_drop, List.drop_left]
    exact ih
theorem lines_row {h : AH} {v : AV} {ls : List (Int × Int × Int)} {col : Nat → Nat} {c : Nat} (V : Vec col c h 43 3 v ls.length (ls.flatMap lineC)) : LinesAt h v ls :=
  V.row.congr fun i hi => lines_at ls i hi
/-- The numbers of a propagation's clauses. -/
def AtOk (s all : List (List Int)) (ats : List Int) : Prop := ats.length = all.length ∧ ∀ j, j < all.length → NumOf s (ats.getD j 0) (all.getD j [])
theorem AtOk.more {s all : List (List Int)} {ats : List Int} (h : AtOk s all ats) (R : List Int) : AtOk (s ++ [R]) all ats := ⟨h.1, fun j hj => (h.2 j hj).more R⟩
theorem AtOk.push {s all : List (List Int)} {ats : List Int} (h : AtOk s all ats) {m : Int} {c : List Int} (hm : NumOf s m c) : AtOk s (all ++ [c]) (ats ++ [m]) := by
  refine ⟨by simp [h.1], fun j hj => ?_⟩
  rw [List.length_append] at hj
  rw [List.getD_eq_getElem?_getD, List.getD_eq_getElem?_getD]
  have hOB := Nat.lt_or_ge j all.length
  rcases hOB with h' | h'
  · rw [List.getElem?_append_left (by rw [h.1]; exact h'), List.getElem?_append_left h', ← List.getD_eq_getElem?_getD, ← List.getD_eq_getElem?_getD]
    exact h.2 j h'
  · have : j = all.length := by simp at hj; omega
    subst this
    rw [List.getElem?_append_right (by rw [h.1]; exact Nat.le_refl _), List.getElem?_append_right (Nat.le_refl _), h.1]
    simpa using hm
theorem vec_int_at {col : Nat → Nat} {c : Nat} {h : AH} {v : AV} {l : List Int} (V : Vec col c h 3 1 v l.length (l.map (AV.int .i64))) {i : Int} (h0 : 0 ≤ i) (hi : i < l.length) : ∃ p, aindexAddr (TT gt) 35 v (.int .i64 i) = some p ∧ aload (TT gt) h 3 p = some (.int .i64 (l.getD i.toNat 0)) := by
  have hOB := V.at1 (T := TT gt) (t := 35) (k := .i64) (i := i) rfl rfl rfl rfl h0 hi
  obtain ⟨p, u, a1, a2, a3⟩ := hOB
  refine ⟨p, a1, ?_⟩
  rw [List.getElem?_map, List.getElem?_eq_getElem (by omega)] at a3
  rw [List.getD_eq_getElem?_getD, List.getElem?_eq_getElem (by omega), a2, ← a3]; rfl
theorem build3 (a b c : Int) : abuildSlice (TT gt) 40 1 [(0, .agg [.int .i64 a, .int .i64 b, .int .i64 c])] = some (.cells [.int .i64 a, .int .i64 b, .int .i64 c] 43 false, .slice 1 1 true) := rfl
theorem buildL (a b c : Int) : abuild (TT gt) 43 [(0, .int .i64 a), (1, .int .i64 b), (2, .int .i64 c)] = some (.agg [.int .i64 a, .int .i64 b, .int .i64 c]) := rfl
/-- A clause of the propagation, as it is read. -/
theorem ex_row {G h : AH} {col : Nat → Nat} {n : Nat} {V : Lay} {S : Ch} {atv outv : AV} {ats : List Int} {o : Nat} {cells : List AV} (E : EX G h col n V S atv ats outv o cells) {w p : Nat} (hw : w < S.all.length) (hp : V.p = p) :
    ∃ av pd ad, aload (TT gt) h 22 (.ptr p 0) = some av ∧ aindexAddr (TT gt) 22 av (.int .i64 w) = some pd ∧ aload (TT gt) h 35 pd = some ad ∧ IntRow G ad (S.all.getD w []) := by
  subst hp
  have hOB := E.C.all.at1 (T := TT gt) (t := 22) (k := .i64) (i := w) rfl rfl rfl rfl (by omega) (by omega)
  obtain ⟨pd, ud, d1, d2, d3⟩ := hOB
  have hOB := E.C.alls w hw
  obtain ⟨ad, d4, rd⟩ := hOB
  rw [Int.toNat_natCast, d4] at d3
  cases d3
  exact ⟨V.av, pd, _, E.C.fld (gt := gt) (t := 22) (off := 0) rfl rfl rfl, d1, d2, rd⟩
/-- What Expand answers. -/
def ExpandSays (n : Int) (L P : List (List Int)) (r : AV) (h : AH) : Prop :=
  (¬ (valid n L ∧ ∀ i, i < P.length → ∀ x ∈ P.getD i [], ok n x) ∧ r = .tuple [.nilSlice, .int .i64 2]) ∨
  ((valid n L ∧ ∀ i, i < P.length → ∀ x ∈ P.getD i [], ok n x) ∧ ¬ Refutes L P ∧ r = .tuple [.nilSlice, .int .i64 43]) ∨
  ((valid n L ∧ ∀ i, i < P.length → ∀ x ∈ P.getD i [], ok n x) ∧ Refutes L P ∧ (∃ i, i < L.length ∧ L.getD i [] = []) ∧ r = .tuple [.nilSlice, .int .i64 0]) ∨
  ((valid n L ∧ ∀ i, i < P.length → ∀ x ∈ P.getD i [], ok n x) ∧ Refutes L P ∧ (∀ i, i < L.length → L.getD i [] ≠ []) ∧ ∃ lv ls made, r = .tuple [lv, .int .i64 0] ∧ LinesAt h lv ls ∧ Mk L made ls ∧ 0 < ls.length ∧ ls.length ≤ 3000 ∧ made.getD (ls.length - 1) [] = [])
/-- Where Expand is between two steps. -/
structure XS (n : Nat) (L P : List (List Int)) (q : Nat) (all : List (List Int)) (ats : List Int) (made : List (List Int)) (ls : List (Int × Int × Int)) : Prop where
  mk_ : Mk L made ls
  at_ : AtOk (L ++ made) all ats
  sub : ∀ c ∈ L ++ P.take q, (∃ z ∈ c, -z ∈ c) ∨ ∃ d ∈ all, ∀ y ∈ d, y ∈ c
  ne : ∀ d ∈ all, d ≠ []
  oks : ∀ d ∈ all, ∀ y ∈ d, ok n y
  short : ∀ d ∈ all, d.length ≤ 1000
  few : all.length ≤ L.length + q
  small : total all ≤ total L + q * 1000
  lines : ls.length ≤ q * n
  steps : ∀ j, j < q → P.getD j [] ≠ []
/-- Where Expand is while it resolves: so many literals of the trail are left, of this clause, of this number. -/
structure XI (n : Nat) (L : List (List Int)) (all : List (List Int)) (ats : List Int) (tr taken : List Int) (i : Nat) (c : List Int) (m : Int) (made : List (List Int)) (ls : List (Int × Int × Int)) : Prop where
  mk_ : Mk L made ls
  at_ : AtOk (L ++ made) all ats
  num : NumOf (L ++ made) m c
  left : ∀ y ∈ c, -y ∈ tr.take i ∨ -y ∈ taken
  oks : ∀ y ∈ c, ok n y
  short : c.length ≤ 1000
  new : c ≠ [] ∨ (0 < ls.length ∧ m + 1 = L.length + ls.length)
theorem XI.skip {n : Nat} {L all : List (List Int)} {ats tr taken : List Int} {i : Nat} {c : List Int} {m : Int} {made : List (List Int)} {ls : List (Int × Int × Int)} (x : XI n L all ats tr taken (i + 1) c m made ls) (hi : i < tr.length) (h : tr.getD i 0 ∈ taken ∨ -tr.getD i 0 ∉ c) : XI n L all ats tr taken i c m made ls :=
  ⟨x.mk_, x.at_, x.num, fun y hy => by
    have hOB := x.left y hy
    rcases hOB with h' | h'
    · rw [take_next hi] at h'
      have hOB := List.mem_append.1 h'
      rcases hOB with h'' | h''
      · exact .inl h''
      · have e := List.mem_singleton.1 h''
        rcases h with h | h
        · exact .inr (by rw [e]; exact h)
        · exact absurd (by rw [← e, Int.neg_neg]; exact hy) h
    · exact .inr h', x.oks, x.short, x.new⟩
theorem XI.next {n : Nat} {L all : List (List Int)} {ats tr taken : List Int} {i : Nat} {c : List Int} {m : Int} {made : List (List Int)} {ls : List (Int × Int × Int)} (x : XI n L all ats tr taken (i + 1) c m made ls) (hi : i < tr.length) (hn : n ≤ 30) {w : Nat} (hw : w < all.length) (hoks : ∀ d ∈ all, ∀ y ∈ d, ok n y) (h0 : ok n (tr.getD i 0)) (h1 : tr.getD i 0 ∈ all.getD w []) (h2 : ∀ y ∈ all.getD w [], y ≠ tr.getD i 0 → -y ∈ tr.take i) (h3 : -tr.getD i 0 ∈ c) :
    XI n L all ats tr taken i (resAt (all.getD w []) c (tr.getD i 0)) (L.length + ls.length) (made ++ [resAt (all.getD w []) c (tr.getD i 0)]) (ls ++ [lineAt (ats.getD w 0) m (tr.getD i 0)]) := by
  have hOB := x.mk_.next (x.at_.2 w hw) x.num h0.1 h1 h3
  obtain ⟨k1, k2⟩ := hOB
  have hok : ∀ y ∈ resAt (all.getD w []) c (tr.getD i 0), ok n y := fun y hy => by
    have hOB := mem_resAt.1 hy
    rcases hOB with h | h
    · exact hoks _ (getDL_mem hw) y h.1
    · exact x.oks y h.1
  have hlen := sortK_ok (n := (n : Int)) (sortK_resAt (all.getD w []) c (tr.getD i 0)) (by omega) hok
  refine ⟨k1, by rw [← List.append_assoc]; exact x.at_.more _, k2, fun y hy => ?_, hok, by omega, .inr ⟨by simp, by simp; omega⟩⟩
  have hOB := mem_resAt.1 hy
  rcases hOB with h | h
  · exact .inl (h2 y h.1 h.2)
  · have hOB := x.left y h.1
    rcases hOB with h' | h'
    · rw [take_next hi] at h'
      have hOB := List.mem_append.1 h'
      rcases hOB with h'' | h''
      · exact .inl h''
      · have e := List.mem_singleton.1 h''
        exact absurd (by omega) h.2
    · exact .inr h'
theorem XS.next {n : Nat} {L P all : List (List Int)} {q : Nat} {ats : List Int} {made made' : List (List Int)} {ls ls' : List (Int × Int × Int)} (x : XS n L P q all ats made ls) (hq : q < P.length) {tr : List Int} {c : List Int} {m : Int} (y : XI n L all ats tr (neg (P.getD q [])) 0 c m made' ls') (hc : c ≠ []) (hl : ls'.length ≤ (q + 1) * n) : XS n L P (q + 1) (all ++ [c]) (ats ++ [m]) made' ls' where
  mk_ := y.mk_
  at_ := y.at_.push y.num
  sub := fun d hd => by
    have hs : P.take (q + 1) = P.take q ++ [P.getD q []] := by
      rw [List.take_add_one, List.getD_eq_getElem?_getD, List.getElem?_eq_getElem hq]; rfl
    rw [hs, ← List.append_assoc] at hd
    have hcs : ∀ z ∈ c, z ∈ P.getD q [] := fun z hz => by
      have hOB := y.left z hz
      rcases hOB with h | h
      · rw [List.take_zero] at h; cases h
      · have hOB := List.mem_map.1 h
        obtain ⟨u, hu, e⟩ := hOB
        have : u = z := by omega
        rw [← this]; exact hu
    have hOB := List.mem_append.1 hd
    rcases hOB with h | h
    · have hOB := x.sub d h
      rcases hOB with h' | ⟨e, h1, h2⟩
      · exact .inl h'
      · exact .inr ⟨e, List.mem_append_left _ h1, h2⟩
    · rw [List.mem_singleton.1 h]
      exact .inr ⟨c, List.mem_append_right _ (List.mem_singleton.2 rfl), hcs⟩
  ne := fun d hd => (List.mem_append.1 hd).elim (x.ne d) (fun h => by rw [List.mem_singleton.1 h]; exact hc)
  oks := fun d hd => (List.mem_append.1 hd).elim (x.oks d) (fun h => by rw [List.mem_singleton.1 h]; exact y.oks)
  short := fun d hd => (List.mem_append.1 hd).elim (x.short d) (fun h => by rw [List.mem_singleton.1 h]; exact y.short)
  few := by have := x.few; simp; omega
  small := by have := x.small; have := y.short; rw [total_snoc]; omega
  lines := hl
  steps := fun j hj e => by
    have hOB := Nat.lt_or_ge j q
    rcases hOB with h | h
    · exact x.steps j h e
    · have hOB : j = q := by omega
      obtain rfl := hOB
      have hOB := List.exists_mem_of_ne_nil c hc
      obtain ⟨z, hz⟩ := hOB
      have hOB := y.left z hz
      rcases hOB with h | h
      · rw [List.take_zero] at h; cases h
      · rw [e] at h; cases h
theorem XS.taut {n : Nat} {L P all : List (List Int)} {q : Nat} {ats : List Int} {made : List (List Int)} {ls : List (Int × Int × Int)} (x : XS n L P q all ats made ls) (hq : q < P.length) (h : ∃ z ∈ neg (P.getD q []), -z ∈ neg (P.getD q [])) : XS n L P (q + 1) all ats made ls where
  mk_ := x.mk_
  at_ := x.at_
  sub := fun d hd => by
    have hs : P.take (q + 1) = P.take q ++ [P.getD q []] := by
      rw [List.take_add_one, List.getD_eq_getElem?_getD, List.getElem?_eq_getElem hq]; rfl
    rw [hs, ← List.append_assoc] at hd
    have hOB := List.mem_append.1 hd
    rcases hOB with h' | h'
    · exact x.sub d h'
    · rw [List.mem_singleton.1 h']
      obtain ⟨z, h1, h2⟩ := h
      have hOB := List.mem_map.1 h1
      obtain ⟨u, hu, e1⟩ := hOB
      have hOB := List.mem_map.1 h2
      obtain ⟨u', hu', e2⟩ := hOB
      refine .inl ⟨u, hu, ?_⟩
      have : u' = -u := by omega
      rw [← this]; exact hu'
  ne := x.ne
  oks := x.oks
  short := x.short
  few := by have := x.few; omega
  small := Nat.le_trans x.small (Nat.add_le_add_left (Nat.mul_le_mul_right _ (Nat.le_succ q)) _)
  lines := Nat.le_trans x.lines (Nat.mul_le_mul_right _ (Nat.le_succ q))
  steps := fun j hj e => by
    have hOB := Nat.lt_or_ge j q
    rcases hOB with h' | h'
    · exact x.steps j h' e
    · have hOB : j = q := by omega
      obtain rfl := hOB
      obtain ⟨z, h1, _⟩ := h
      rw [e] at h1; cases h1
end Pf
end Go.Proofs.YtfjloafebkjadaaGreatDoor
