/- Rows whose kept part is written over their beginning. -/
import Derived.Test.YtfjloafebkjadaaGreatDoorSaQ
/- A row whose kept part is written over its beginning. -/
namespace Go.AI
theorem EvC.scope {T : Tab} {X : Oracle} {n : Nat} {σ : Nat → AV} {h : AH} {b : Code} {Q : AExit → (Nat → AV) → AH → Prop} (H : EvC T X n b σ h Q) : EvC T X n (.scope b) σ h Q := by
  obtain ⟨K, ex, e, h', h1, h2, h3⟩ := H
  refine ⟨K + 1, ex, e, h', fun env he k hk => ?_, h2, h3⟩
  have hOB := up hk
  obtain ⟨j, rfl, hj⟩ := hOB
  have hOB := h1 env he j (by omega)
  obtain ⟨env1, a1, a2⟩ := hOB
  exact ⟨env1, a1, by simp only [acode, a2]⟩
end Go.AI
namespace Go.Proofs.YtfjloafebkjadaaGreatDoor
namespace Pf
namespace Sa
open Go Go.AI Go.Proofs
/-- 'keep' is the beginning of 'old', in the same block. -/
inductive KAt (col : Nat → Nat) (c : Nat) (h : AH) (e : TypeId) : AV → AV → Nat → Nat → List AV → Prop
  | nil : KAt col c h e .nilSlice .nilSlice 0 0 []
  | mk {id m kl cap cap' : Nat} {ex : Bool} {cs tail : List AV} (hg : h.t.get id = some (.cells (cs ++ tail) e false)) (hc : col id = c) (hm : cs.length = m) (hk : kl ≤ m) (hx : ex = true → m ≤ cap ∧ (cs ++ tail).length = cap ∧ cap' = cap) : KAt col c h e (.slice id 0 m cap ex) (.slice id 0 kl cap' ex) m kl cs
section
variable {G h h1 : AH} {col col1 : Nat → Nat} {c : Nat} {e t : TypeId} {old keep : AV} {m kl : Nat} {cs : List AV} {T : Tab} {ei : TInfo} {R : Nat → Prop}
theorem KAt.len (K : KAt col c h e old keep m kl cs) : cs.length = m := by
  cases K with
  | nil => rfl
  | mk _ _ hm _ _ => exact hm
theorem KAt.le (K : KAt col c h e old keep m kl cs) : kl ≤ m := by
  cases K with
  | nil => exact Nat.le_refl _
  | mk _ _ _ hk _ => exact hk
theorem KAt.step (K : KAt col c h e old keep m kl cs) (A : Step R col h col1 h1) (hw : WF h) (hc : ¬ R c) : KAt col1 c h1 e old keep m kl cs := by
  cases K with
  | nil => exact .nil
  | mk hg hc' hm hk hx =>
    have hOB := A.get hw hg (by rw [hc']; exact hc)
    obtain ⟨h3, h4⟩ := hOB
    exact .mk h3 (h4.trans hc') hm hk hx
theorem KAt.row (K : KAt col c h e old keep m kl cs) : RowOf h 1 old m (fun i => [cs.getD i .undef]) := by
  cases K with
  | nil => exact .nil
  | @mk id _ _ cap cap' ex _ tail hg hc hm hk hx =>
    refine .mk (cs := cs ++ tail) (by unfold cellsOf; rw [hg]) fun i hi => ?_
    unfold sub
    rw [if_pos (by simp; omega)]
    have : i < (cs ++ tail).length := by simp; omega
    rw [show 0 + i * 1 = i by omega, List.take_one, List.head?_drop, List.getElem?_eq_getElem this, List.getElem_append_left (by omega), List.getD_eq_getElem?_getD, List.getElem?_eq_getElem (by omega)]; rfl
theorem KAt.vec (K : KAt col c h e old keep m kl cs) : Vec col c h e 1 keep kl (cs.take kl) := by
  cases K with
  | nil => exact .nil
  | @mk id _ _ cap cap' ex _ tail hg hc hm hk hx =>
    have e1 : cs ++ tail = cs.take kl ++ (cs.drop kl ++ tail) := by rw [← List.append_assoc, List.take_append_drop]
    refine .mk (tail := cs.drop kl ++ tail) (by rw [← e1]; exact hg) hc (by simp; omega) fun ex' => ?_
    have hOB := hx ex'
    obtain ⟨h3, h4, h5⟩ := hOB
    rw [← e1, h4, h5]; omega
theorem KAt.start {v : AV} (ht : descOf T t = .slice e) (he : T.tt.get e = some ei) (hs : ei.size = 1) (V : Vec col c h e 1 v m cs) : ∃ v', aslice T h t v none (some (.int .i64 0)) none = some v' ∧ KAt col c h e v v' m 0 cs := by
  have b : ∀ n c, bounds n c none (some (.int .i64 0)) none = some (0, 0, c) := fun n c => by
    show (match (if (0 : Int) ≤ 0 ∧ (0 : Int) ≤ (c : Int) then some ((0 : Int)).toNat else none) with | none => none | some h => some (0, h, c)) = _
    rw [if_pos (by omega)]; rfl
  cases V with
  | nil => exact ⟨.nilSlice, by simp only [aslice, ht, he, b], .nil⟩
  | @mk id _ cap ex _ tail hg hc hn hx =>
    cases ex with
    | true =>
      have hOB := hx rfl
      obtain ⟨h1, h2⟩ := hOB
      refine ⟨.slice id 0 0 cap true, ?_, .mk hg hc (by omega) (Nat.zero_le _) fun _ => ⟨h1, by omega, rfl⟩⟩
      simp only [aslice, ht, he, b, cut]
      simp
    | false =>
      refine ⟨.slice id 0 0 0 false, ?_, .mk hg hc (by omega) (Nat.zero_le _) fun e => nomatch e⟩
      have hz : szOf T e = 1 := by simp [szOf, he, hs]
      simp only [aslice, ht, he, ownOf, hg, hz, hs, b]
      simp
theorem KAt.push {xt e2 : TypeId} {x : AV} {new : List AV} {k : Nat} (ht : descOf T t = .slice e) (hxt : descOf T xt = .slice e2) (he : T.tt.get e = some ei) (hs : ei.size = 1) (hw : WF h) (hf : ∀ i, h.next ≤ i → col i = 0) (K : KAt col c h e old keep m kl cs) (hk : kl + k ≤ m) (h0 : 0 < m) (hx1 : alenOf x = some k) (hx2 : afirst h 1 k x = some new) (hnl : new.length = k) (hsc : new.all scalar = true) :
    ∃ keep' h1, aappend T h t xt keep x = some (keep', h1) ∧ Step (fun x => x = c) col h col h1 ∧ h.next ≤ h1.next ∧ KAt col c h1 e old keep' m (kl + k) (cs.take kl ++ new ++ cs.drop (kl + k)) := by
  cases K with
  | nil => omega
  | @mk id _ _ cap cap' ex _ tail hg hc hm hkl hx =>
    have hz : szOf T e = 1 := by simp [szOf, he, hs]
    by_cases hk0 : k = 0
    · subst hk0
      have hn0 : new = [] := List.eq_nil_of_length_eq_zero hnl
      subst hn0
      rw [Nat.add_zero, List.append_nil, List.take_append_drop]
      refine ⟨_, h, ?_, ⟨fun _ _ => rfl, fun i hi hc => absurd (hf i hi) hc, fun i hi => hf i hi, fun _ _ _ => rfl, Nat.le_refl _, hw⟩, Nat.le_refl _, .mk hg hc hm hkl hx⟩
      cases ex with
      | true =>
        have hOB := hx rfl
        obtain ⟨h3, h4, h5⟩ := hOB
        simp only [aappend, ht, hxt, he, hx1, hs, hx2]
        simp; omega
      | false =>
        simp only [aappend, ht, hxt, he, hx1, hs, hx2, ownOf, hg, hz]
        simp; omega
    · have e1 : cs ++ tail = cs.take kl ++ (cs.drop kl ++ tail) := by rw [← List.append_assoc, List.take_append_drop]
      have hset : lsetMany (cs ++ tail) kl new = (cs.take kl ++ new ++ cs.drop (kl + k)) ++ tail := by
        have := lsetMany_append (cs.take kl) (cs.drop kl ++ tail) new (by simp; omega)
        rw [List.length_take_of_le (by omega), ← e1, hnl] at this
        rw [this, List.drop_append_of_le_length (by simp; omega), List.drop_drop]
        simp
      have hput : put? h id (cs ++ tail) e (0 + kl * 1) new = some (h.upd id (.cells ((cs.take kl ++ new ++ cs.drop (kl + k)) ++ tail) e false)) := by
        unfold put?
        rw [Nat.zero_add, Nat.mul_one, hset, if_pos ⟨hsc, by simp; omega⟩]
      have hlen : ((cs.take kl ++ new ++ cs.drop (kl + k)) ++ tail).length = (cs ++ tail).length := by simp; omega
      refine ⟨.slice id 0 (kl + k) (if ex then cap' else 0) ex, h.upd id (.cells ((cs.take kl ++ new ++ cs.drop (kl + k)) ++ tail) e false), ?_, upd_step hw hf hg hc, Nat.le_refl _, .mk (get_upd ..) hc (by simp; omega) hk fun e => ?_⟩
      · cases ex with
        | true =>
          have hOB := hx rfl
          obtain ⟨h3, h4, h5⟩ := hOB
          simp only [aappend, ht, hxt, he, hx1, hs, hx2]
          rw [if_neg (by omega), if_neg hk0, if_pos (by omega)]
          simp only [ownOf, hg, hput]; rfl
        | false =>
          simp only [aappend, ht, hxt, he, hx1, hs, hx2, ownOf, hg, hz]
          rw [if_neg (by omega), if_neg hk0, if_neg (by simp), if_pos (by rw [List.length_append]; omega), hput]; rfl
      · have hOB := hx e
        obtain ⟨h3, h4, h5⟩ := hOB
        subst e
        exact ⟨h3, hlen.trans h4, h5⟩
/-- An append to what is kept. -/
theorem EvP.keepC {X : Oracle} {σ : Nat → AV} {cl : Call} {s y : Operand} {ts : List TypeId} {xt e2 : TypeId} {x : AV} {new : List AV} {k : Nat} {Q : AV → AH → Prop} (S : HS G h col) (c0 : c ≠ 0) (K : KAt col c h e old keep m kl cs) (hcl : cl.callee = .builtin .append) (hts : cl.argTypes.toList = t :: xt :: ts) (hargs : cl.args.toList = [s, y]) (hv : evf σ s = keep) (hy : evf σ y = x)
    (ht : descOf T t = .slice e) (hxt : descOf T xt = .slice e2) (he : T.tt.get e = some ei) (hs : ei.size = 1) (hk : kl + k ≤ m) (h0 : 0 < m) (hx1 : alenOf x = some k) (hx2 : afirst h 1 k x = some new) (hnl : new.length = k) (hsc : new.all scalar = true)
    (H : ∀ keep' h1, Step (fun x => x = c) col h col h1 → HS G h1 col → KAt col c h1 e old keep' m (kl + k) (cs.take kl ++ new ++ cs.drop (kl + k)) → Q keep' h1) : EvP T X (.call cl) σ h Q := by
  have hOB := K.push ht hxt he hs S.wf S.fresh hk h0 hx1 hx2 hnl hsc
  obtain ⟨v', h1, h2, h3, h5, h4⟩ := hOB
  refine EvP.eff (by simp only [kindOf, hcl]) ?_ h5 (H _ _ h3 (S.step h3 (fun e => c0 e.symm)) h4)
  simp only [feff, hcl, hts, hargs, hv, hy, h2, rb, Option.map_some]
theorem KAt.rest {k : Nat} (ht : descOf T t = .slice e) (he : T.tt.get e = some ei) (hs : ei.size = 1) (K : KAt col c h e old keep m kl cs) (hk : k ≤ m) (h0 : 0 < m) : ∃ v', aslice T h t old (some (.int .i64 k)) none none = some v' ∧ alenOf v' = some (m - k) ∧ afirst h 1 (m - k) v' = some (cs.drop k) := by
  cases K with
  | nil => omega
  | @mk id _ _ cap cap' ex _ tail hg hc hm hkl hx =>
    have b : ∀ c, m ≤ c → bounds m c (some (.int .i64 k)) none none = some (k, m, c) := fun c hc => by
      show (match (if (0 : Int) ≤ (k : Int) ∧ (k : Int) ≤ (m : Int) then some ((k : Int)).toNat else none) with | none => none | some l => some (l, m, c)) = _
      rw [if_pos (by omega)]; rfl
    have sb : sub (cs ++ tail) k (m - k) = some (cs.drop k) := by
      unfold sub
      rw [if_pos (by simp; omega), List.drop_append_of_le_length (by omega), List.take_append_of_le_length (by simp; omega), List.take_of_length_le (by simp; omega)]
    have ho : cellsOf h id = some (cs ++ tail) := by unfold cellsOf; rw [hg]
    cases ex with
    | true =>
      have hOB := hx rfl
      obtain ⟨h3, h4, h5⟩ := hOB
      refine ⟨.slice id (if cap = k then 0 else 0 + k * 1) (m - k) (cap - k) true, ?_, rfl, ?_⟩
      · simp only [aslice, ht, he, hs]
        rw [b _ h3]; rfl
      · simp only [afirst, ho]
        split
        · have hmk : m = k := by omega
          subst hmk
          unfold sub
          rw [if_pos (by simp)]
          rw [List.drop_of_length_le (show cs.length ≤ m by omega)]; simp
        · rw [show 0 + k * 1 = k by omega, Nat.mul_one]; exact sb
    | false =>
      have hz : szOf T e = 1 := by simp [szOf, he, hs]
      by_cases hend : k = (cs ++ tail).length ∧ 0 < k
      · refine ⟨.eslice, ?_, ?_, ?_⟩
        · simp only [aslice, ht, he, ownOf, hg, hz, hs]
          rw [if_neg (by omega), Nat.sub_zero, Nat.div_one, b _ (by simp; omega)]
          simp only
          rw [if_neg (by simp; omega), if_pos hend]
        · have : m = k := by have := hend.1; simp at this; omega
          simp [alenOf, this]
        · have : m = k := by have := hend.1; simp at this; omega
          simp only [afirst]
          rw [if_pos (by omega), List.drop_of_length_le (show cs.length ≤ k by omega)]
      · refine ⟨.slice id (0 + k * 1) (m - k) 0 false, ?_, rfl, ?_⟩
        · simp only [aslice, ht, he, ownOf, hg, hz, hs]
          rw [if_neg (by omega), Nat.sub_zero, Nat.div_one, b _ (by simp; omega)]
          simp only
          rw [if_neg (by simp; omega), if_neg hend]
        · simp only [afirst, ho]
          rw [show 0 + k * 1 = k by omega, Nat.mul_one]; exact sb
end
end Sa
end Pf
end Go.Proofs.YtfjloafebkjadaaGreatDoor
/- While a literal's row is gone through. -/
namespace Go.Proofs.YtfjloafebkjadaaGreatDoor
namespace Pf
namespace Sa
open Go Go.AI Go.Proofs
variable {gt : Tree (List AV)}
/-- Another list of rows, the same but for the one that is turned. -/
theorem AtX.other {G h : AH} {col : Nat → Nat} {n x : Nat} {V : Lay} {S : Sr} {vals : List AV} (C : AtX G h col n V S vals x) {vs : List (List Nat)} (he : ∀ j, j ≠ x → vs.getD j [] = S.s.row j) : AtX G h col n V { S with s := { S.s with wat := vs } } vals x := by
  have hrow : ∀ j, j < 2 * n + 2 → j ≠ x → ∃ u, V.rw[j]? = some u ∧ Vec col (40 + j) h 149 1 u (vs.getD j []).length ((vs.getD j []).map (ptrV V.cp)) := fun j hj hx => by
    rw [he j hx]; exact C.row j hj hx
  exact { C with row := hrow }
theorem keep_cells {cs : List AV} {f : Nat → AV} {keepL oldL : List Nat} {k : Nat} (c1 : cs.take keepL.length = keepL.map f) (c2 : cs.drop k = (oldL.drop k).map f) (hl : cs.length = oldL.length) (hle : keepL.length ≤ k) (hk : k < oldL.length) :
    (cs.take keepL.length ++ [f (oldL.getD k 0)] ++ cs.drop (keepL.length + 1)).take (keepL ++ [oldL.getD k 0]).length = (keepL ++ [oldL.getD k 0]).map f ∧ (cs.take keepL.length ++ [f (oldL.getD k 0)] ++ cs.drop (keepL.length + 1)).drop (k + 1) = (oldL.drop (k + 1)).map f := by
  have e1 : (cs.take keepL.length).length = keepL.length := by simp; omega
  have e2 : (cs.take keepL.length ++ [f (oldL.getD k 0)]).length = keepL.length + 1 := by rw [List.length_append, e1]; rfl
  constructor
  · rw [List.length_append, List.length_singleton, ← e2, List.take_left, c1, List.map_append]; rfl
  · rw [show k + 1 = (cs.take keepL.length ++ [f (oldL.getD k 0)]).length + (k - keepL.length) by rw [e2]; omega, ← List.drop_drop, List.drop_left, List.drop_drop, show keepL.length + 1 + (k - keepL.length) = k + 1 by omega, ← List.drop_drop, c2, ← List.map_drop, List.drop_drop, e2, show keepL.length + 1 + (k - keepL.length) = k + 1 by omega]
/-- Where a row is gone through: k of its clauses are done, those of 'keepL' stay. -/
structure Inn (G h0 h : AH) (col0 col : Nat → Nat) (n p : Nat) (cp : List Nat) (rn : List AV) (S0 S : Sr) (V : Lay) (gone : Int) (oldL : List Nat) (old keep : AV) (k : Nat) (keepL : List Nat) (cs : List AV) : Prop where
  A : Step (fun c => 20 ≤ c) col0 h0 col h
  C : AtX G h col n V S (valT n S.s.tr) (wi gone)
  vp : V.p = p
  vc : V.cp = cp
  vr : V.rn = rn
  K : KAt col (40 + wi gone) h 149 old keep oldL.length keepL.length cs
  rw : V.rw[wi gone]? = some old
  P : Spr n S0 S
  W : WI n S.s
  T : TI n S.s
  I : CI S.s
  gok : ok n gone
  hd : S.s.head < S.s.tr.length
  hg : S.s.tr.getD S.s.head 0 = -gone
  g : Gn S.s gone (oldL.drop k)
  row : S.s.row (wi gone) = keepL ++ oldL.drop k
  kle : keepL.length ≤ k
  kle2 : k ≤ oldL.length
  c1 : cs.take keepL.length = keepL.map (ptrV V.cp)
  c2 : cs.drop k = (oldL.drop k).map (ptrV V.cp)
section
variable {G h0 h h1 : AH} {col0 col col1 : Nat → Nat} {n p k : Nat} {cp : List Nat} {rn : List AV} {S0 S S1 : Sr} {V V1 : Lay} {gone : Int} {oldL keepL : List Nat} {old keep : AV} {cs : List AV}
theorem drop_cons {l : List Nat} {k : Nat} (hk : k < l.length) : l.drop k = l.getD k 0 :: l.drop (k + 1) := by
  rw [List.drop_eq_getElem_cons hk, List.getD_eq_getElem?_getD, List.getElem?_eq_getElem hk]; rfl
theorem Inn.facts (I : Inn G h0 h col0 col n p cp rn S0 S V gone oldL old keep k keepL cs) (hk : k < oldL.length) {kk : Nat} (hkk : oldL.getD k 0 = kk) : kk < S.s.cls.length ∧ (∃ i, i < 2 ∧ S.s.w kk i = gone) ∧ cs.getD k .undef = ptrV V.cp kk ∧ kk ∉ keepL := by
  subst hkk
  have e := drop_cons hk
  have hr := I.row
  rw [e] at hr
  have hm : oldL.getD k 0 ∈ S.s.row (wi gone) := by rw [hr]; simp
  have hOB := I.W.wof _ _ hm
  obtain ⟨h1, i, hi, h2⟩ := hOB
  refine ⟨h1, ⟨i, hi, wi_inj h2 (I.W.wok h1 hi).1 I.gok.1⟩, ?_, fun hm' => ?_⟩
  · have hc := I.c2
    rw [e, List.map_cons] at hc
    have : (cs.drop k)[0]? = some (ptrV V.cp (oldL.getD k 0)) := by rw [hc]; rfl
    rw [List.getElem?_drop] at this
    rw [List.getD_eq_getElem?_getD]
    rw [Nat.add_zero] at this
    rw [this]; rfl
  · have hn := I.W.rnod (wi gone)
    rw [hr, List.nodup_append] at hn
    exact hn.2.2 _ hm' _ (List.mem_cons_self ..) rfl
/-- The first two literals change places. -/
theorem Inn.sw (I : Inn G h0 h col0 col n p cp rn S0 S V gone oldL old keep k keepL cs) (hk : k < oldL.length) {kk : Nat} (hkk : oldL.getD k 0 = kk) (hc : kk < S.s.cls.length) (A : Step (fun c => c = 43 + 2 * n + 2 * kk) col h col1 h1) (C : AtX G h1 col1 n V { S with s := S.s.sw kk 0 1 } (valT n S.s.tr) (wi gone)) : Inn G h0 h1 col0 col1 n p cp rn S0 { S with s := S.s.sw kk 0 1 } V gone oldL old keep k keepL cs := by
  subst hkk
  have hg := wi_lt I.gok
  exact {
    A := I.A.trans (A.mono fun c e => by omega), C := C, vp := I.vp, vc := I.vc, vr := I.vr, K := I.K.step A I.C.hs.wf (by omega), rw := I.rw, P := .sw I.P hc, W := I.W.sw01 hc, T := ⟨I.T.oks, I.T.cons, I.T.nodup, I.T.hle, I.T.ends⟩, I := I.I.sw01 I.W hc, gok := I.gok, hd := I.hd, hg := I.hg
    g := I.g.sw01 I.W hc (by rw [drop_cons hk]; exact List.mem_cons_self ..), row := I.row, kle := I.kle, kle2 := I.kle2, c1 := I.c1, c2 := I.c2 }
/-- A row that is turned has no bearing on the rest. -/
theorem AtX.past {x : Nat} {vals : List AV} (C : AtX G h col n V S vals x) (hx : x < 2 * n + 2) (A : Step (fun c => c = 40 + x) col h col1 h1) (hs1 : HS G h1 col1) : AtX G h1 col1 n V S vals x where
  hs := hs1
  obj := (A.get C.hs.wf (C.obj) (by first | exact fun e => e | (rw [C.cpp]; omega))).1
  cpp := (A.old _ (C.hs.wf.lt (C.obj))).trans (C.cpp)
  val := (C.val).step A C.hs.wf (by first | exact fun e => e | omega)
  lev := (C.lev).step A C.hs.wf (by first | exact fun e => e | omega)
  why := (C.why).step A C.hs.wf (by first | exact fun e => e | omega)
  wat := (C.wat).step A C.hs.wf (by first | exact fun e => e | omega)
  row := fun j hj hx => by obtain ⟨u, h3, h4⟩ := C.row j hj hx; exact ⟨u, h3, (h4).step A C.hs.wf (by first | exact fun e => e | omega)⟩
  trl := (C.trl).step A C.hs.wf (by first | exact fun e => e | omega)
  ends := (C.ends).step A C.hs.wf (by first | exact fun e => e | omega)
  sco := (C.sco).step A C.hs.wf (by first | exact fun e => e | omega)
  lea := (C.lea).step A C.hs.wf (by first | exact fun e => e | omega)
  lear := C.lear
  clp := C.clp
  cll := C.cll
  cob := fun k hk => ⟨(A.get C.hs.wf ((C.cob k hk).1) (by first | exact fun e => e | (rw [(C.cob k hk).2]; omega))).1, (A.old _ (C.hs.wf.lt ((C.cob k hk).1))).trans ((C.cob k hk).2)⟩
  cli := fun k hk => (C.cli k hk).step A C.hs.wf (by first | exact fun e => e | omega)
  yok := C.yok
  sml := C.sml
  many := C.many
/-- A clause that stays: the other literal that it watches holds. -/
theorem Inn.stay (I : Inn G h0 h col0 col n p cp rn S0 S V gone oldL old keep k keepL cs) (hk : k < oldL.length) {kk : Nat} (hkk : oldL.getD k 0 = kk) {keep1 : AV} (A : Step (fun c => 20 ≤ c) col h col1 h1) (C : AtX G h1 col1 n V S (valT n S.s.tr) (wi gone)) (K : KAt col1 (40 + wi gone) h1 149 old keep1 oldL.length (keepL.length + 1) (cs.take keepL.length ++ [ptrV V.cp kk] ++ cs.drop (keepL.length + 1)))
    (hw : S.s.w kk 1 = gone) (hm : S.s.w kk 0 ∈ S.s.tr) : Inn G h0 h1 col0 col1 n p cp rn S0 S V gone oldL old keep1 (k + 1) (keepL ++ [kk]) (cs.take keepL.length ++ [ptrV V.cp kk] ++ cs.drop (keepL.length + 1)) := by
  subst hkk
  have hc := keep_cells I.c1 I.c2 I.K.len I.kle hk
  have hl : (keepL ++ [oldL.getD k 0]).length = keepL.length + 1 := by simp
  have e := drop_cons hk
  exact {
    A := I.A.trans A, C := C, vp := I.vp, vc := I.vc, vr := I.vr, K := hl.symm ▸ K, rw := I.rw, P := I.P, W := I.W, T := I.T, I := I.I, gok := I.gok, hd := I.hd, hg := I.hg
    g := Gn.keep I.W (e ▸ I.g) hw hm, row := by rw [I.row, e]; simp
    kle := by have := I.kle; omega
    kle2 := hk, c1 := hc.1, c2 := hc.2 }
/-- A clause that stays: the other literal is taken. -/
theorem Inn.unit (I : Inn G h0 h col0 col n p cp rn S0 S V gone oldL old keep k keepL cs) (hk : k < oldL.length) {kk : Nat} (hkk : oldL.getD k 0 = kk) {keep1 : AV} {tv : AV} (A : Step (fun c => 20 ≤ c) col h col1 h1) (C : AtX G h1 col1 n { V with tv := tv } (S.take (S.s.w kk 0) (some kk)) (valT n (S.s.tr ++ [S.s.w kk 0])) (wi gone)) (K : KAt col1 (40 + wi gone) h1 149 old keep1 oldL.length (keepL.length + 1) (cs.take keepL.length ++ [ptrV V.cp kk] ++ cs.drop (keepL.length + 1)))
    (hcl : kk < S.s.cls.length) (hw : S.s.w kk 1 = gone) (hf : ofT S.s.tr (S.s.w kk 0) = 0) (hu : ∀ y ∈ S.s.c kk, y ≠ S.s.w kk 0 → -y ∈ S.s.tr) : Inn G h0 h1 col0 col1 n p cp rn S0 (S.take (S.s.w kk 0) (some kk)) { V with tv := tv } gone oldL old keep1 (k + 1) (keepL ++ [kk]) (cs.take keepL.length ++ [ptrV V.cp kk] ++ cs.drop (keepL.length + 1)) := by
  subst hkk
  have hc := keep_cells I.c1 I.c2 I.K.len I.kle hk
  have hl : (keepL ++ [oldL.getD k 0]).length = keepL.length + 1 := by simp
  have e := drop_cons hk
  have hf' := ofT_zero.1 hf
  have ho := I.W.wok hcl (i := 0) (by omega)
  exact {
    A := I.A.trans A, C := C, vp := I.vp, vc := I.vc, vr := I.vr, K := hl.symm ▸ K, rw := I.rw, P := .take I.P hcl (I.W.mem hcl (by omega)) ho hf hu, W := I.W.push _, T := I.T.push ho hf'.1 hf'.2, I := I.I.push I.T _, gok := I.gok
    hd := by show S.s.head < (S.s.tr ++ [_]).length; have := I.hd; simp; omega
    hg := by show (S.s.tr ++ [_]).getD S.s.head 0 = _; rw [getD_app I.hd]; exact I.hg
    g := Gn.keep (I.W.push _) (Gn.push (e ▸ I.g) _) hw (List.mem_append_right _ (List.mem_singleton.2 rfl)), row := by show S.s.row _ = _; rw [I.row, e]; simp
    kle := by have := I.kle; omega
    kle2 := hk, c1 := hc.1, c2 := hc.2 }
/-- A clause that watches another literal from now on. -/
theorem Inn.moved (I : Inn G h0 h col0 col n p cp rn S0 S V gone oldL old keep k keepL cs) (hk : k < oldL.length) {kk : Nat} (hkk : oldL.getD k 0 = kk) {i : Nat} {rw1 : List AV} (A : Step (fun c => 20 ≤ c) col h col1 h1) (C : AtX G h1 col1 n { V with rw := rw1 } { S with s := S.s.mv kk i (wi gone) } (valT n S.s.tr) (wi gone)) (K : KAt col1 (40 + wi gone) h1 149 old keep oldL.length keepL.length cs) (hrw : rw1[wi gone]? = some old)
    (hcl : kk < S.s.cls.length) (hw : S.s.w kk 1 = gone) (hi : 2 ≤ i) (hl : i < (S.s.c kk).length) (hnew : -((S.s.c kk).getD i 0) ∉ S.s.tr) : Inn G h0 h1 col0 col1 n p cp rn S0 { S with s := S.s.mv kk i (wi gone) } { V with rw := rw1 } gone oldL old keep (k + 1) keepL cs := by
  subst hkk
  have e := drop_cons hk
  have hf := I.facts hk rfl
  have hgone : -(S.s.w (oldL.getD k 0) 1) ∈ S.s.tr := by
    rw [hw, ← I.hg]; exact mem_getD I.hd
  have hnlt : wi ((S.s.c (oldL.getD k 0)).getD i 0) < S.s.wat.length := by rw [I.W.len]; exact wi_lt (I.W.oks _ _ (mem_getD hl))
  have hne : wi ((S.s.c (oldL.getD k 0)).getD i 0) ≠ wi gone := fun e' => by
    have := wi_inj e' (I.W.oks _ _ (mem_getD hl)).1 I.gok.1
    exact getD_ne (I.W.nod _) hl (show 1 < _ by omega) (by omega) (this.trans hw.symm)
  exact {
    A := I.A.trans A, C := C, vp := I.vp, vc := I.vc, vr := I.vr, K := K, rw := hrw, P := .mv I.P hcl hi hl, W := I.W.mv hcl hi hl (by rw [hw]), T := ⟨I.T.oks, I.T.cons, I.T.nodup, I.T.hle, I.T.ends⟩, I := I.I.mv I.T hcl hi hl hgone hnew, gok := I.gok, hd := I.hd, hg := I.hg
    g := Gn.mv I.W (e ▸ I.g) hcl hi hl hw
    row := by
      show (S.s.mv _ i (wi gone)).row (wi gone) = _
      rw [mv_row S.s (by rw [I.W.len]; exact wi_lt I.gok) hnlt hne, if_neg (fun e' => hne e'.symm), if_pos rfl, I.row, e, List.erase_append_right _ hf.2.2.2]
      simp
    kle := by have := I.kle; omega
    kle2 := hk, c1 := I.c1
    c2 := by rw [show k + 1 = k + 1 from rfl, ← List.drop_drop, I.c2, ← List.map_drop, List.drop_drop] }
/-- The row is put back. -/
theorem close {h2 : AH} {col2 : Nat → Nat} {vals : List AV} {m : Nat} (C : AtX G h col n V S vals (wi gone)) (W : WI n S.s) (hg : ok n gone) {kl : Nat} (K : KAt col (40 + wi gone) h 149 old keep m kl cs) (hkl : kl = (S.s.row (wi gone)).length) (c1 : cs.take kl = (S.s.row (wi gone)).map (ptrV V.cp)) (B : Step (fun c => c = 24) col h col2 h2) (hs2 : HS G h2 col2) (v2 : Vec col2 24 h2 118 1 V.wv (2 * n + 2) (V.rw.set (wi gone) keep)) :
    AtX G h2 col2 n { V with rw := V.rw.set (wi gone) keep } S vals (2 * n + 2) := by
  have hgl := wi_lt hg
  have hrl : V.rw.length = 2 * n + 2 := by have := C.wat.count; omega
  have kv := K.vec
  rw [c1, hkl] at kv
  have D := C.setRow (j := wi gone) hgl W.len (us := S.s.row (wi gone)) (u := keep) (Step.refl C.hs) kv B hs2 v2
  exact D.back (vs := S.s.wat) (fun j hj => by
    show _ = (S.s.wat.set (wi gone) _).getD j []
    rw [List.getD_eq_getElem?_getD, List.getD_eq_getElem?_getD, List.getElem?_set, if_neg (fun e => hj e.symm)]) (u := keep) (by show (V.rw.set _ _)[_]? = _; rw [List.getElem?_set, if_pos rfl, if_pos (by omega)]) (kv.step B C.hs.wf (by omega))
end
end Sa
end Pf
end Go.Proofs.YtfjloafebkjadaaGreatDoor
