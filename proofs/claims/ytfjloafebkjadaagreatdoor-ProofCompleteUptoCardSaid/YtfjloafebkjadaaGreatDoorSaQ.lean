/- What a search knows, without a program. -/
import Derived.Test.YtfjloafebkjadaaGreatDoorSaL
/- What a search knows once the clauses are laid, and what it knows when units have spread; without a program. -/
namespace Go.Proofs.YtfjloafebkjadaaGreatDoor
namespace Pf
namespace Sa
theorem lay_c {S : Ws} {l : List Int} {k : Nat} (h : k < S.cls.length) : (S.lay l).c k = S.c k := getD_app h
theorem lay_c_new {S : Ws} {l : List Int} : (S.lay l).c S.cls.length = l := getD_new
theorem lay_c_no {S : Ws} {l : List Int} {k : Nat} (h : S.cls.length < k) : (S.lay l).c k = [] := by
  show (S.cls ++ [l]).getD k [] = []
  rw [List.getD_eq_getElem?_getD, List.getElem?_eq_none (by simp; omega)]; rfl
theorem lay_len {S : Ws} {l : List Int} : (S.lay l).cls.length = S.cls.length + 1 := by simp [Ws.lay]
theorem lay_row {n : Nat} {S : Ws} (W : WI n S) {l : List Int} (h0 : ok n (l.getD 0 0)) (h1 : ok n (l.getD 1 0)) (j : Nat) : (S.lay l).row j = (S.row j ++ if j = wi (l.getD 0 0) then [S.cls.length] else []) ++ if j = wi (l.getD 1 0) then [S.cls.length] else [] := by
  have a0 := wi_lt h0
  have a1 := wi_lt h1
  show (addW (addW S.wat (l.getD 0 0) S.cls.length) (l.getD 1 0) S.cls.length).getD j [] = _
  rw [addW_at (by rw [addW_len, W.len]; exact a1), addW_at (by rw [W.len]; exact a0)]
  unfold Ws.row
  split <;> split <;> simp
theorem WI.lay {n : Nat} {S : Ws} (W : WI n S) {l : List Int} (nd : l.Nodup) (h2 : 2 ≤ l.length) (ho : ∀ x ∈ l, ok n x) : WI n (S.lay l) := by
  have m0 : l.getD 0 0 ∈ l := mem_getD (by omega)
  have m1 : l.getD 1 0 ∈ l := mem_getD (by omega)
  have o0 := ho _ m0
  have o1 := ho _ m1
  have hne : wi (l.getD 0 0) ≠ wi (l.getD 1 0) := fun e => getD_ne nd (show 0 < l.length by omega) (show 1 < l.length by omega) (by omega) (wi_inj e o0.1 o1.1)
  have hr := fun j => lay_row W o0 o1 j
  have hc : ∀ k, k < S.cls.length → (S.lay l).c k = S.c k := fun k h => lay_c h
  have hno : ∀ j, S.cls.length ∉ S.row j := fun j h => by have := (W.wof j _ h).1; omega
  refine ⟨fun k x hx => ?_, fun k hk => ?_, fun k => ?_, ?_, fun j => ?_, fun k hk i hi => ?_, fun j k hk => ?_⟩
  · have hOB := Nat.lt_trichotomy k S.cls.length
    rcases hOB with h | h | h
    · rw [hc k h] at hx; exact W.oks k x hx
    · rw [h, lay_c_new] at hx; exact ho x hx
    · rw [lay_c_no h] at hx; cases hx
  · rw [lay_len] at hk
    have hOB := Nat.lt_or_ge k S.cls.length
    rcases hOB with h | h
    · rw [hc k h]; exact W.two k h
    · have hOB : k = S.cls.length := by omega
      obtain rfl := hOB
      rw [lay_c_new]; exact h2
  · have hOB := Nat.lt_trichotomy k S.cls.length
    rcases hOB with h | h | h
    · rw [hc k h]; exact W.nod k
    · rw [h, lay_c_new]; exact nd
    · rw [lay_c_no h]; exact List.nodup_nil
  · show (addW _ _ _).length = _
    rw [addW_len, addW_len]; exact W.len
  · rw [hr]
    have h := W.rnod j
    have h1 : (S.row j ++ [S.cls.length]).Nodup := by
      rw [List.nodup_append]
      refine ⟨h, by simp, fun a ha b hb e => ?_⟩
      rw [List.mem_singleton.1 hb] at e
      exact hno j (e ▸ ha)
    split
    · rename_i e
      rw [if_neg (fun e' => hne (e.symm.trans e')), List.append_nil]; exact h1
    · rw [List.append_nil]; split
      · exact h1
      · rw [List.append_nil]; exact h
  · rw [lay_len] at hk
    rw [hr]
    have hOB := Nat.lt_or_ge k S.cls.length
    rcases hOB with h | h
    · have hw : (S.lay l).w k i = S.w k i := congrArg (fun z : List Int => z.getD i 0) (hc k h)
      rw [hw]
      exact List.mem_append_left _ (List.mem_append_left _ (W.win k h i hi))
    · have hOB : k = S.cls.length := by omega
      obtain rfl := hOB
      have hw : (S.lay l).w S.cls.length i = l.getD i 0 := congrArg (fun z : List Int => z.getD i 0) lay_c_new
      rw [hw]
      have hOB := two_lt hi
      rcases hOB with rfl | rfl
      · rw [if_pos rfl]; simp
      · rw [if_pos rfl]; simp
  · rw [hr] at hk
    rw [lay_len]
    have hold : k ∈ S.row j → k < S.cls.length + 1 ∧ ∃ i, i < 2 ∧ wi ((S.lay l).w k i) = j := fun h => by
      have hOB := W.wof j k h
      obtain ⟨h3, i, h4, h5⟩ := hOB
      have hw : (S.lay l).w k i = S.w k i := congrArg (fun z : List Int => z.getD i 0) (hc k h3)
      exact ⟨by omega, i, h4, by rw [hw]; exact h5⟩
    have hnew : ∀ i, i < 2 → k = S.cls.length → j = wi (l.getD i 0) → k < S.cls.length + 1 ∧ ∃ i, i < 2 ∧ wi ((S.lay l).w k i) = j := fun i hi e1 e2 => by
      subst e1
      have hw : (S.lay l).w S.cls.length i = l.getD i 0 := congrArg (fun z : List Int => z.getD i 0) lay_c_new
      exact ⟨by omega, i, hi, by rw [hw]; exact e2.symm⟩
    have hOB := List.mem_append.1 hk
    rcases hOB with h | h
    · have hOB := List.mem_append.1 h
      rcases hOB with h | h
      · exact hold h
      · split at h
        · exact hnew 0 (by omega) (List.mem_singleton.1 h) (by assumption)
        · cases h
    · split at h
      · exact hnew 1 (by omega) (List.mem_singleton.1 h) (by assumption)
      · cases h
theorem TI.len {n : Nat} {S : Ws} (T : TI n S) : S.tr.length ≤ n := by
  have h1 : (S.tr.map fun x => x.natAbs - 1).Nodup := by
    rw [List.Nodup, List.pairwise_map]
    refine List.Pairwise.imp_of_mem ?_ T.nodup
    intro a b ha hb hne e
    have h1 := T.oks a ha
    have h2 := T.oks b hb
    have h3 := h1.1
    have h4 := h2.1
    have h5 := h1.2
    have h6 := h2.2
    by_cases e1 : a = -b
    · exact T.cons b hb (e1 ▸ ha)
    · omega
  have h2 := nodup_len (m := List.range n) h1 fun y hy => by
    have hOB := List.mem_map.1 hy
    obtain ⟨x, hx, rfl⟩ := hOB
    have h3 := T.oks x hx
    have h4 := h3.1
    have h5 := h3.2.1
    have h6 := h3.2.2
    rw [List.mem_range]; omega
  simpa using h2
/-! Clauses as begin takes them -/
/-- The different literals of a clause. -/
def dd : List Int → List Int → List Int
  | acc, [] => acc
  | acc, x :: l => dd (if x ∈ acc then acc else acc ++ [x]) l
/-- A literal and its opposite. -/
def bo : List Int → List Int → Bool
  | _, [] => false
  | acc, x :: l => decide (-x ∈ acc) || bo (if x ∈ acc then acc else acc ++ [x]) l
theorem mem_dd : ∀ {l acc : List Int} {y : Int}, y ∈ dd acc l ↔ y ∈ acc ∨ y ∈ l
  | [], acc, y => by simp [dd]
  | x :: l, acc, y => by
    rw [dd, mem_dd]
    split
    · rename_i h
      constructor
      · rintro (h1 | h1)
        · exact .inl h1
        · exact .inr (List.mem_cons_of_mem _ h1)
      · rintro (h1 | h1)
        · exact .inl h1
        · have hOB := List.mem_cons.1 h1
          rcases hOB with rfl | h1
          · exact .inl h
          · exact .inr h1
    · simp [or_assoc]
theorem nodup_dd : ∀ {l acc : List Int}, acc.Nodup → (dd acc l).Nodup
  | [], _, h => h
  | x :: l, acc, h => by
    rw [dd]
    split
    · exact nodup_dd h
    · rename_i hx
      refine nodup_dd ?_
      rw [List.nodup_append]
      exact ⟨h, by simp, fun a ha b hb e => hx (by rw [← List.mem_singleton.1 hb, ← e]; exact ha)⟩
theorem dd_len : ∀ {l acc : List Int}, (dd acc l).length ≤ acc.length + l.length
  | [], acc => by simp [dd]
  | x :: l, acc => by
    rw [dd]
    refine Nat.le_trans dd_len ?_
    split <;> simp <;> omega
theorem bo_two : ∀ {l acc : List Int}, bo acc l = true → ∃ y, (y ∈ acc ∨ y ∈ l) ∧ (-y ∈ acc ∨ -y ∈ l)
  | [], acc, h => nomatch h
  | x :: l, acc, h => by
    rw [bo, Bool.or_eq_true, decide_eq_true_iff] at h
    rcases h with h | h
    · exact ⟨x, .inr (List.mem_cons_self ..), .inl h⟩
    · have hOB := bo_two h
      obtain ⟨y, h1, h2⟩ := hOB
      have key : ∀ z, (z ∈ (if x ∈ acc then acc else acc ++ [x]) ∨ z ∈ l) → z ∈ acc ∨ z ∈ x :: l := fun z hz => by
        rcases hz with hz | hz
        · split at hz
          · exact .inl hz
          · have hOB := List.mem_append.1 hz
            rcases hOB with hz | hz
            · exact .inl hz
            · exact .inr (by rw [List.mem_singleton.1 hz]; exact List.mem_cons_self ..)
        · exact .inr (List.mem_cons_of_mem _ hz)
      exact ⟨y, key y h1, key _ h2⟩
/-- A search of which nothing is laid. -/
def Sr.init (n : Nat) : Sr := { s := { cls := [], wat := List.replicate (2 * n + 2) [], tr := [], ends := [], head := 0 }, level := List.replicate (n + 1) 0, why := List.replicate (n + 1) none, score := List.replicate (n + 1) 0, bump := 1, learnt := [], work := 0, broken := false }
/-- How a search comes to be. -/
inductive Beg (n : Nat) : List (List Int) → Sr → Prop
  | nil : Beg n [] (Sr.init n)
  | taut {L : List (List Int)} {l : List Int} {S : Sr} {sc : List Int} (h : Beg n L S) (hb : bo [] l = true) (hs : ∀ z ∈ sc, 0 ≤ z ∧ z ≤ 2 ^ 40) : Beg n (L ++ [l]) { S with score := sc }
  | add {L : List (List Int)} {l : List Int} {S S' : Sr} {sc : List Int} (h : Beg n L S) (hb : bo [] l = false) (hs : ∀ z ∈ sc, 0 ≤ z ∧ z ≤ 2 ^ 40) (ha : Added { S with score := sc } (dd [] l) S') : Beg n (L ++ [l]) S'
theorem Der.mono {a b : List (List Int)} {t u : List Int} (h : ∀ c ∈ a, c ∈ b) (ht : ∀ x ∈ t, x ∈ u) {x : Int} (d : Der a t x) : Der b u x := by
  induction d with
  | tak h1 => exact .tak (ht _ h1)
  | unit hc hx _ ih => exact .unit (h _ hc) hx ih
theorem Clash.mono {a b : List (List Int)} {t u : List Int} (h : ∀ c ∈ a, c ∈ b) (ht : ∀ x ∈ t, x ∈ u) (d : Clash a t) : Clash b u := by
  rcases d with ⟨x, h1, h2⟩ | ⟨c, hc, h1⟩
  · exact .inl ⟨x, Der.mono h ht h1, Der.mono h ht h2⟩
  · exact .inr ⟨c, h c hc, fun y hy => Der.mono h ht (h1 y hy)⟩
/-- What a search that was begun knows. -/
structure BI (n : Nat) (L : List (List Int)) (S : Sr) : Prop where
  W : WI n S.s
  T : TI n S.s
  hd : S.s.head = 0
  en : S.s.ends = []
  cl : S.s.cls.length ≤ L.length
  sub : ∀ k, k < S.s.cls.length → ∃ l ∈ L, ∀ x, x ∈ S.s.c k ↔ x ∈ l
  der : ∀ x ∈ S.s.tr, Der L [] x
  brk : S.broken = true → Clash L []
  cov : S.broken = false → ∀ l ∈ L, (∃ x ∈ l, -x ∈ l) ∨ (∃ x ∈ l, x ∈ S.s.tr) ∨ ∃ k, k < S.s.cls.length ∧ ∀ x, x ∈ S.s.c k ↔ x ∈ l
theorem Beg.inv {n : Nat} {L : List (List Int)} {S : Sr} (B : Beg n L S) (ho : ∀ l ∈ L, ∀ x ∈ l, ok n x) : BI n L S := by
  induction B with
  | nil => 
    have hrow : ∀ j, ((Sr.init n).s).row j = [] := fun j => by
      show (List.replicate (2 * n + 2) []).getD j [] = []
      rw [List.getD_eq_getElem?_getD, List.getElem?_replicate]; split <;> rfl
    refine ⟨⟨fun k x hx => (nomatch hx), fun k hk => absurd hk (Nat.not_lt_zero _), fun k => List.nodup_nil, by simp [Sr.init], fun j => by rw [hrow]; exact List.nodup_nil, fun k hk => absurd hk (Nat.not_lt_zero _), fun j k hk => by rw [hrow] at hk; cases hk⟩, ⟨fun x hx => (nomatch hx), fun x hx => (nomatch hx), List.nodup_nil, Nat.le_refl _, fun e he => (nomatch he)⟩, rfl, rfl, Nat.le_refl _, fun k hk => absurd hk (Nat.not_lt_zero _), fun x hx => (nomatch hx), fun e => (nomatch e), fun _ l hl => (nomatch hl)⟩
  | @taut L l S sc h hb hs ih =>
    have I := ih fun l' hl' => ho l' (List.mem_append_left _ hl')
    refine ⟨I.W, I.T, I.hd, I.en, by have := I.cl; simp; omega, fun k hk => ?_, fun x hx => Der.mono (fun c hc => List.mem_append_left _ hc) (fun _ h => h) (I.der x hx), fun e => Clash.mono (fun c hc => List.mem_append_left _ hc) (fun _ h => h) (I.brk e), fun e l' hl' => ?_⟩
    · have hOB := I.sub k hk
      obtain ⟨l', h1, h2⟩ := hOB
      exact ⟨l', List.mem_append_left _ h1, h2⟩
    · have hOB := List.mem_append.1 hl'
      rcases hOB with h1 | h1
      · exact I.cov e l' h1
      · rw [List.mem_singleton.1 h1]
        have hOB := bo_two hb
        obtain ⟨y, h2, h3⟩ := hOB
        exact .inl ⟨y, h2.resolve_left (fun h => (nomatch h)), h3.resolve_left (fun h => (nomatch h))⟩
  | @add L l S S' sc h hb hs ha ih =>
    have I := ih fun l' hl' => ho l' (List.mem_append_left _ hl')
    have hol : ∀ x ∈ l, ok n x := ho l (List.mem_append_right _ (List.mem_singleton.2 rfl))
    have hm : ∀ x, x ∈ dd [] l ↔ x ∈ l := fun x => by rw [mem_dd]; simp
    have mL : ∀ c ∈ L, c ∈ L ++ [l] := fun c hc => List.mem_append_left _ hc
    have ml : l ∈ L ++ [l] := List.mem_append_right _ (List.mem_singleton.2 rfl)
    have hcl : L.length + 1 = (L ++ [l]).length := by simp
    have hd : ∀ x ∈ S.s.tr, Der (L ++ [l]) [] x := fun x hx => Der.mono mL (fun _ h => h) (I.der x hx)
    have hb' : S.broken = true → Clash (L ++ [l]) [] := fun e => Clash.mono mL (fun _ h => h) (I.brk e)
    have hsub : ∀ k, k < S.s.cls.length → ∃ l' ∈ L ++ [l], ∀ x, x ∈ S.s.c k ↔ x ∈ l' := fun k hk => by
      have hOB := I.sub k hk
      obtain ⟨l', h1, h2⟩ := hOB
      exact ⟨l', mL _ h1, h2⟩
    rcases ha with ⟨e, rfl⟩ | ⟨y, e, ⟨e1, rfl⟩ | ⟨e1, rfl⟩ | ⟨e1, rfl⟩⟩ | ⟨h2, rfl⟩
    · refine ⟨I.W, I.T, I.hd, I.en, by have := I.cl; show S.s.cls.length ≤ _; omega, hsub, hd, fun _ => .inr ⟨l, ml, fun x hx => ?_⟩, fun e => (nomatch e)⟩
      rw [← hm, e] at hx; cases hx
    · have e1 := ofT_neg1 e1
      refine ⟨I.W, I.T, I.hd, I.en, by have := I.cl; show S.s.cls.length ≤ _; omega, hsub, hd, fun _ => .inr ⟨l, ml, fun x hx => ?_⟩, fun e => (nomatch e)⟩
      rw [← hm, e] at hx
      rw [List.mem_singleton.1 hx]; exact hd _ e1
    · have e1' := ofT_zero.1 e1
      have hy : y ∈ l := by rw [← hm, e]; exact List.mem_singleton.2 rfl
      have hl' : ∀ x ∈ l, x = y := fun x hx => by rw [← hm, e] at hx; exact List.mem_singleton.1 hx
      refine ⟨I.W.push y, I.T.push (hol y hy) e1'.1 e1'.2, I.hd, I.en, by have := I.cl; show S.s.cls.length ≤ _; omega, hsub, fun x hx => ?_, hb', fun eb l' hl'' => ?_⟩
      · have hOB := List.mem_append.1 hx
        rcases hOB with h1 | h1
        · exact hd x h1
        · rw [List.mem_singleton.1 h1]
          exact .unit ml hy fun z hz hne => absurd (hl' z hz) hne
      · have hOB := List.mem_append.1 hl''
        rcases hOB with h1 | h1
        · have hOB := I.cov eb l' h1
          rcases hOB with h2 | ⟨x, h2, h3⟩ | h2
          · exact .inl h2
          · exact .inr (.inl ⟨x, h2, List.mem_append_left _ h3⟩)
          · exact .inr (.inr h2)
        · rw [List.mem_singleton.1 h1]
          exact .inr (.inl ⟨y, hy, List.mem_append_right _ (List.mem_singleton.2 rfl)⟩)
    · have e1' := ofT_one.1 e1
      have hy : y ∈ l := by rw [← hm, e]; exact List.mem_singleton.2 rfl
      refine ⟨I.W, I.T, I.hd, I.en, by have := I.cl; show S.s.cls.length ≤ _; omega, hsub, hd, hb', fun eb l' hl'' => ?_⟩
      have hOB := List.mem_append.1 hl''
      rcases hOB with h1 | h1
      · exact I.cov eb l' h1
      · rw [List.mem_singleton.1 h1]; exact .inr (.inl ⟨y, hy, e1'⟩)
    · have W' := I.W.lay (nodup_dd (l := l) List.nodup_nil) h2 fun x hx => hol x ((hm x).1 hx)
      have hlen : (S.s.lay (dd [] l)).cls.length = S.s.cls.length + 1 := lay_len
      refine ⟨W', ⟨I.T.oks, I.T.cons, I.T.nodup, I.T.hle, I.T.ends⟩, I.hd, I.en, by have := I.cl; show (S.s.lay (dd [] l)).cls.length ≤ _; omega, fun k hk => ?_, hd, hb', fun eb l' hl'' => ?_⟩
      · have hk : k < (S.s.lay (dd [] l)).cls.length := hk
        rw [hlen] at hk
        have hOB := Nat.lt_or_ge k S.s.cls.length
        rcases hOB with h1 | h1
        · have hOB := hsub k h1
          obtain ⟨l', h3, h4⟩ := hOB
          exact ⟨l', h3, fun x => by show x ∈ (S.s.lay (dd [] l)).c k ↔ _; rw [lay_c h1]; exact h4 x⟩
        · have hOB : k = S.s.cls.length := by omega
          obtain rfl := hOB
          exact ⟨l, ml, fun x => by show x ∈ (S.s.lay (dd [] l)).c S.s.cls.length ↔ _; rw [lay_c_new]; exact hm x⟩
      · have hOB := List.mem_append.1 hl''
        rcases hOB with h1 | h1
        · have hOB := I.cov eb l' h1
          rcases hOB with h2 | h2 | ⟨k, h2, h3⟩
          · exact .inl h2
          · exact .inr (.inl h2)
          · exact .inr (.inr ⟨k, by show k < (S.s.lay (dd [] l)).cls.length; omega, fun x => by show x ∈ (S.s.lay (dd [] l)).c k ↔ _; rw [lay_c h2]; exact h3 x⟩)
        · rw [List.mem_singleton.1 h1]
          exact .inr (.inr ⟨S.s.cls.length, by show S.s.cls.length < (S.s.lay (dd [] l)).cls.length; omega, fun x => by show x ∈ (S.s.lay (dd [] l)).c S.s.cls.length ↔ _; rw [lay_c_new]; exact hm x⟩)
/-- How units spread. -/
inductive Spr (n : Nat) : Sr → Sr → Prop
  | refl {S : Sr} : Spr n S S
  | sw {S S' : Sr} {k : Nat} (h : Spr n S S') (hk : k < S'.s.cls.length) : Spr n S { S' with s := S'.s.sw k 0 1 }
  | mv {S S' : Sr} {k i g : Nat} (h : Spr n S S') (hk : k < S'.s.cls.length) (hi : 2 ≤ i) (hl : i < (S'.s.c k).length) : Spr n S { S' with s := S'.s.mv k i g }
  | take {S S' : Sr} {k : Nat} {l : Int} (h : Spr n S S') (hk : k < S'.s.cls.length) (hl : l ∈ S'.s.c k) (ho : ok n l) (hf : ofT S'.s.tr l = 0) (hu : ∀ y ∈ S'.s.c k, y ≠ l → -y ∈ S'.s.tr) : Spr n S (S'.take l (some k))
  | adv {S S' : Sr} (h : Spr n S S') (hl : S'.s.head < S'.s.tr.length) : Spr n S { S' with s := S'.s.adv }
theorem Spr.trans {n : Nat} {S S' S'' : Sr} (h : Spr n S S') (h' : Spr n S' S'') : Spr n S S'' := by
  induction h' with
  | refl => exact h
  | sw _ hk ih => exact .sw ih hk
  | mv _ hk hi hl ih => exact .mv ih hk hi hl
  | take _ hk hl ho hf hu ih => exact .take ih hk hl ho hf hu
  | adv _ hl ih => exact .adv ih hl
/-- What does not turn. -/
structure Kept (S S' : Sr) : Prop where
  ends : S'.s.ends = S.s.ends
  len : S'.s.cls.length = S.s.cls.length
  mem : ∀ k x, x ∈ S'.s.c k ↔ x ∈ S.s.c k
  clen : ∀ k, (S'.s.c k).length = (S.s.c k).length
  brk : S'.broken = S.broken
  pre : ∃ t, S'.s.tr = S.s.tr ++ t
theorem Spr.kept {n : Nat} {S S' : Sr} (h : Spr n S S') (h2 : ∀ k, k < S.s.cls.length → 2 ≤ (S.s.c k).length) : Kept S S' := by
  induction h with
  | refl => exact ⟨rfl, rfl, fun _ _ => Iff.rfl, fun _ => rfl, rfl, [], by simp⟩
  | @sw S' k _ hk ih =>
    have h3 : 2 ≤ (S'.s.c k).length := by rw [ih.clen]; exact h2 k (ih.len ▸ hk)
    refine ⟨ih.ends, (sw_len ..).trans ih.len, fun m x => (sw_mem S'.s hk (by omega) (by omega) m x).trans (ih.mem m x), fun m => ?_, ih.brk, ih.pre⟩
    rw [← ih.clen]
    show ((S'.s.sw k 0 1).c m).length = _
    rw [sw_c S'.s hk]; split
    · rename_i e; rw [swap_len, e]
    · rfl
  | @mv S' k i g _ hk hi hl ih =>
    refine ⟨ih.ends, (mv_len ..).trans ih.len, fun m x => (mv_mem S'.s hk (by omega) hl m x).trans (ih.mem m x), fun m => ?_, ih.brk, ih.pre⟩
    rw [← ih.clen]
    show ((S'.s.mv k i g).c m).length = _
    rw [mv_c S'.s hk]; split
    · rename_i e; rw [swap_len, e]
    · rfl
  | @take S' k l _ hk hl ho hf hu ih =>
    refine ⟨ih.ends, ih.len, ih.mem, ih.clen, ih.brk, ?_⟩
    have hOB := ih.pre
    obtain ⟨t, e⟩ := hOB
    exact ⟨t ++ [l], by show S'.s.tr ++ [l] = _; rw [e, List.append_assoc]⟩
  | adv _ hl ih => exact ⟨ih.ends, ih.len, ih.mem, ih.clen, ih.brk, ih.pre⟩
theorem Spr.der {n : Nat} {S S' : Sr} (h : Spr n S S') (h2 : ∀ k, k < S.s.cls.length → 2 ≤ (S.s.c k).length) {L : List (List Int)} {ta : List Int} (hsub : ∀ k, k < S.s.cls.length → ∃ l ∈ L, ∀ x, x ∈ S.s.c k ↔ x ∈ l) (hd : ∀ x ∈ S.s.tr, Der L ta x) : ∀ x ∈ S'.s.tr, Der L ta x := by
  induction h with
  | refl => exact hd
  | sw _ hk ih => exact ih
  | mv _ hk hi hl ih => exact ih
  | @take S' k l h hk hl ho hf hu ih =>
    have K := h.kept h2
    intro x hx
    have hOB := List.mem_append.1 hx
    rcases hOB with h1 | h1
    · exact ih x h1
    · rw [List.mem_singleton.1 h1]
      have hOB := hsub k (K.len ▸ hk)
      obtain ⟨c, h3, h4⟩ := hOB
      have hm : ∀ y, y ∈ c ↔ y ∈ S'.s.c k := fun y => (h4 y).symm.trans (K.mem k y).symm
      exact .unit h3 ((hm l).2 hl) fun y hy hne => ih _ (hu y ((hm y).1 hy) hne)
  | adv _ hl ih => exact ih
end Sa
end Pf
end Go.Proofs.YtfjloafebkjadaaGreatDoor
