/- Pairs in any order; parts of rows of pairs. -/
import Derived.Test.YtohlmbbmeknfiaaQRules
/- Pairs in any order: what is due of them, what their sorting is; parts of rows of pairs, put together. -/
namespace Go.AI.Q
open Go.AI
/-- Keys that differ. -/
def Dk (l : List It) : Prop := ∀ i j, i < l.length → j < l.length → (at' l i).1 = (at' l j).1 → i = j
theorem in_mem {l : List It} {x : It} : In l x ↔ x ∈ l := by
  constructor
  · rintro ⟨i, hi, rfl⟩
    unfold at'
    rw [List.getD_eq_getElem?_getD, List.getElem?_eq_getElem hi]
    exact List.getElem_mem hi
  · intro h
    obtain ⟨i, hi, rfl⟩ := List.getElem_of_mem h
    exact ⟨i, hi, by unfold at'; rw [List.getD_eq_getElem?_getD, List.getElem?_eq_getElem hi]; rfl⟩
def dueL' (l : List It) : List (Int × AV) := l.foldl dueS []
theorem due_snoc {l : List It} {i : Nat} (hi : i < l.length) : dueL' (l.take (i + 1)) = dueS (dueL' (l.take i)) (at' l i) := by
  have e : l.take (i + 1) = l.take i ++ [at' l i] := by
    rw [List.take_add_one, List.getElem?_eq_getElem hi]
    unfold at'
    rw [List.getD_eq_getElem?_getD, List.getElem?_eq_getElem hi]; rfl
  unfold dueL'
  rw [e, List.foldl_append]; rfl
theorem due_take {l : List It} (K : Dk l) (k t : Int) : ∀ i, i ≤ l.length → (mget (dueL' (l.take i)) k = some (.int .i64 t) ↔ ∃ j, j < i ∧ at' l j = (k, t) ∧ okP (k, t)) := by
  intro i
  induction i with
  | zero =>
    intro _
    rw [List.take_zero]
    constructor
    · intro h; cases h
    · rintro ⟨j, h, _⟩; omega
  | succ i ih =>
    intro hi
    rw [due_snoc hi]
    unfold dueS
    have hold := ih (by omega)
    split
    · rename_i ok
      rw [mget_mput]
      by_cases e : (at' l i).1 = k
      · rw [if_pos e]
        constructor
        · intro h
          injection h with h
          injection h with _ h
          exact ⟨i, Nat.lt_succ_self _, Prod.ext e h, by rw [← e, ← h]; exact ok⟩
        · rintro ⟨j, h1, h2, _⟩
          have : j = i := K j i (by omega) hi (by rw [h2]; exact e.symm)
          subst this
          rw [h2]
      · rw [if_neg e, hold]
        constructor
        · rintro ⟨j, h1, h2⟩; exact ⟨j, by omega, h2⟩
        · rintro ⟨j, h1, h2, h3⟩
          rcases Nat.lt_or_ge j i with h' | h'
          · exact ⟨j, h', h2, h3⟩
          · have : j = i := by omega
            subst this
            rw [h2] at e; exact absurd rfl e
    · rename_i nok
      rw [hold]
      constructor
      · rintro ⟨j, h1, h2⟩; exact ⟨j, by omega, h2⟩
      · rintro ⟨j, h1, h2, h3⟩
        rcases Nat.lt_or_ge j i with h' | h'
        · exact ⟨j, h', h2, h3⟩
        · have : j = i := by omega
          subst this
          rw [h2] at nok; exact absurd h3 nok
theorem due_iff {l : List It} (K : Dk l) (k t : Int) : mget (dueL' l) k = some (.int .i64 t) ↔ In l (k, t) ∧ okP (k, t) := by
  have h := due_take K k t l.length (Nat.le_refl _)
  rw [List.take_length] at h
  rw [h]
  constructor
  · rintro ⟨j, h1, h2, h3⟩; exact ⟨⟨j, h1, h2⟩, h3⟩
  · rintro ⟨⟨j, h1, h2⟩, h3⟩; exact ⟨j, h1, h2, h3⟩
theorem lt_irrefl' (x : It) : ¬ lt x x := by unfold lt; omega
theorem sorted_unique : ∀ {a b : List It}, a.Pairwise lt → b.Pairwise lt → (∀ x, x ∈ a ↔ x ∈ b) → a = b
  | [], [], _, _, _ => rfl
  | [], y :: b, _, _, h => absurd ((h y).2 (List.mem_cons_self ..)) (by simp)
  | x :: a, [], _, _, h => absurd ((h x).1 (List.mem_cons_self ..)) (by simp)
  | x :: a, y :: b, ha, hb, h => by
    rw [List.pairwise_cons] at ha hb
    have hxy : x = y := by
      rcases List.mem_cons.1 ((h x).1 (List.mem_cons_self ..)) with e | e
      · exact e
      · rcases List.mem_cons.1 ((h y).2 (List.mem_cons_self ..)) with e2 | e2
        · exact e2.symm
        · have h1 := hb.1 x e
          have h2 := ha.1 y e2
          unfold lt at h1 h2; omega
    subst hxy
    rw [sorted_unique ha.2 hb.2 fun z => ?_]
    constructor
    · intro hz
      rcases List.mem_cons.1 ((h z).1 (List.mem_cons_of_mem _ hz)) with e | e
      · rw [e] at hz; exact absurd (ha.1 x hz) (lt_irrefl' x)
      · exact e
    · intro hz
      rcases List.mem_cons.1 ((h z).2 (List.mem_cons_of_mem _ hz)) with e | e
      · rw [e] at hz; exact absurd (hb.1 x hz) (lt_irrefl' x)
      · exact e
theorem kd_nodup {l : List It} (K : Kd l) : l.Nodup := by
  rw [List.nodup_iff_pairwise_ne, List.pairwise_iff_getElem]
  intro i j hi hj hij e
  have : i = j := K i j hi hj (by
    unfold at'
    rw [List.getD_eq_getElem?_getD, List.getD_eq_getElem?_getD, List.getElem?_eq_getElem hi, List.getElem?_eq_getElem hj, e])
  omega
theorem merge_lt {l : List It} (K : Kd l) {f : It → It → Bool} (hf : ∀ x y, f x y = true ↔ le x y) : (l.mergeSort f).Pairwise lt := by
  have h1 := List.pairwise_mergeSort (le := f) (fun a b c h1 h2 => (hf a c).2 (le_trans ((hf a b).1 h1) ((hf b c).1 h2))) (fun a b => by
    by_cases e : le a b
    · rw [(hf a b).2 e]; rfl
    · have : le b a := by unfold le lt at *; omega
      rw [(hf b a).2 this, Bool.or_true]) l
  have h2 : (l.mergeSort f).Nodup := (List.mergeSort_perm l f).nodup_iff.2 (kd_nodup K)
  rw [List.nodup_iff_pairwise_ne] at h2
  refine (h1.and h2).imp fun {a b} h => ?_
  have h3 := (hf a b).1 h.1
  have h4 : ¬ (a.1 = b.1 ∧ a.2 = b.2) := fun e => h.2 (Prod.ext e.1 e.2)
  unfold le lt at *
  omega
/-- Two heaps in which the same is due have the same list. -/
theorem merge_same {a b : List It} (Ka : Kd a) (Kb : Kd b) (h : ∀ x, In a x ↔ In b x) {f : It → It → Bool} (hf : ∀ x y, f x y = true ↔ le x y) : a.mergeSort f = b.mergeSort f :=
  sorted_unique (merge_lt Ka hf) (merge_lt Kb hf) fun x => by rw [List.mem_mergeSort, List.mem_mergeSort, ← in_mem, ← in_mem]; exact h x
variable {T : Tab} {X : Oracle} {G h h1 : AH} {col : Nat → Nat} {σ : Nat → AV} {c : Nat} {t e : TypeId} {ei : TInfo} {v : AV} {l : List It}
theorem vec_first {sz n : Nat} {cs : List AV} (V : Vec col c h e sz v n cs) : alenOf v = some n ∧ afirst h sz n v = some cs := by
  cases V with
  | nil => exact ⟨rfl, rfl⟩
  | @mk id _ cap ex _ tail hg hc hn hx =>
    refine ⟨rfl, ?_⟩
    simp only [afirst, cellsOf, hg, sub, Nat.zero_add, ← hn, List.drop_zero, List.take_left]
    rw [if_pos (by simp)]
theorem part_lo {k : Nat} (V : HV col c h e v l) (ht : descOf T t = .slice e) (he : T.tt.get e = some ei) (hs : ei.size = 2) (hk : k ≤ l.length) :
    ∃ v', aslice T h t v none (some (.int .i64 k)) none = some v' ∧ alenOf v' = some k ∧ afirst h 2 k v' = some (cellsH (l.take k)) := by
  obtain ⟨v', h1, h2⟩ := Vec.cut V ht he hs (by decide) hk
  have hl := cellsH_len l
  have e1 : (cellsH l).take (k * 2) = cellsH (l.take k) := by
    have hlt : (l.take k).length = k := by rw [List.length_take]; omega
    refine cells_of (by rw [List.length_take, hlt]; omega) fun i hi => ?_
    rw [hlt] at hi
    obtain ⟨g1, g2⟩ := cellsH_get l i (by omega)
    have e : at' (l.take k) i = at' l i := by
      show List.getD _ _ _ = List.getD _ _ _
      rw [List.getD_eq_getElem?_getD, List.getD_eq_getElem?_getD, List.getElem?_take, if_pos hi]
    rw [e, List.getElem?_take, if_pos (by omega), List.getElem?_take, if_pos (by omega)]
    exact ⟨g1, g2⟩
  rw [e1] at h2
  exact ⟨v', h1, vec_first h2⟩
theorem cellsH_drop {k : Nat} (hk : k ≤ l.length) : (cellsH l).drop (k * 2) = cellsH (l.drop k) := by
  have hl := cellsH_len l
  refine cells_of (by rw [List.length_drop, List.length_drop]; omega) fun i hi => ?_
  rw [List.length_drop] at hi
  obtain ⟨g1, g2⟩ := cellsH_get l (k + i) (by omega)
  have e : at' (l.drop k) i = at' l (k + i) := by
    show List.getD _ _ _ = List.getD _ _ _
    rw [List.getD_eq_getElem?_getD, List.getD_eq_getElem?_getD, List.getElem?_drop]
  rw [e, List.getElem?_drop, List.getElem?_drop, show k * 2 + i * 2 = (k + i) * 2 by omega, show k * 2 + (i * 2 + 1) = (k + i) * 2 + 1 by omega]
  exact ⟨g1, g2⟩
theorem part_hi {k : Nat} (V : HV col c h e v l) (ht : descOf T t = .slice e) (he : T.tt.get e = some ei) (hs : ei.size = 2) (hk : k ≤ l.length) :
    ∃ v', aslice T h t v (some (.int .i64 k)) none none = some v' ∧ alenOf v' = some (l.length - k) ∧ afirst h 2 (l.length - k) v' = some (cellsH (l.drop k)) := by
  have hl := cellsH_len l
  have b : ∀ c, bounds l.length c (some (.int .i64 k)) none none = some (k, l.length, c) := fun c => by
    show (match (if (0 : Int) ≤ (k : Int) ∧ (k : Int) ≤ (l.length : Int) then some ((k : Int)).toNat else none) with | none => none | some q => some (q, l.length, c)) = _
    rw [if_pos (by omega)]; rfl
  rcases Nat.eq_zero_or_pos l.length with h0 | h0
  · obtain rfl : l = [] := List.eq_nil_of_length_eq_zero h0
    obtain rfl : k = 0 := by simpa using hk
    have V' : Vec col c h e 2 v 0 [] := V
    cases V' with
    | nil => exact ⟨.nilSlice, by simp only [aslice, ht, he]; rfl, rfl, rfl⟩
    | @mk id _ cap ex _ tail hg hc hn hx =>
      have hg : h.t.get id = some (.cells tail e false) := hg
      have fin : ∀ cap' ex', alenOf (.slice id 0 0 cap' ex') = some 0 ∧ afirst h 2 0 (.slice id 0 0 cap' ex') = some (cellsH []) := fun cap' ex' => ⟨rfl, by
        simp only [afirst, cellsOf, hg, sub]; simp; rfl⟩
      cases ex with
      | true =>
        refine ⟨.slice id 0 0 cap true, ?_, fin _ _⟩
        simp only [aslice, ht, he]
        have := b cap
        simp only [List.length_nil] at this
        rw [this]; simp [Go.AI.cut]
      | false =>
        refine ⟨.slice id 0 0 0 false, ?_, fin _ _⟩
        have hsz : szOf T e = 2 := by simp [szOf, he, hs]
        simp only [aslice, ht, he, ownOf, hg, hsz, hs, Nat.sub_zero]
        have := b (tail.length / 2)
        simp only [List.length_nil] at this
        rw [if_neg (by omega), this]
        simp only
        rw [if_neg (by omega), if_neg (by omega)]
  · obtain ⟨id, cap, ex, tail, rfl, hg, hc, hn', hx⟩ := vec_split V h0
    have fin : ∀ o, o = k * 2 ∨ (k = l.length ∧ o = 0) → ∀ cap' ex', alenOf (.slice id o (l.length - k) cap' ex') = some (l.length - k) ∧ afirst h 2 (l.length - k) (.slice id o (l.length - k) cap' ex') = some (cellsH (l.drop k)) := fun o ho cap' ex' => ⟨rfl, by
      simp only [afirst, cellsOf, hg, sub]
      rcases ho with rfl | ⟨rfl, rfl⟩
      · rw [if_pos (by simp; omega), List.drop_append_of_le_length (by omega), List.take_append_of_le_length (by simp; omega), List.take_of_length_le (by simp; omega), cellsH_drop hk]
      · rw [Nat.sub_self, if_pos (by simp)]; simp [cellsH]⟩
    cases ex with
    | true =>
      obtain ⟨h1, h2⟩ := hx rfl
      refine ⟨.slice id (if cap = k then 0 else 0 + k * 2) (l.length - k) (cap - k) true, ?_, fin _ (by split <;> omega) _ _⟩
      simp only [aslice, ht, he]
      rw [b]; simp [Go.AI.cut, hs]
    | false =>
      have hsz : szOf T e = 2 := by simp [szOf, he, hs]
      have hq : l.length ≤ (cellsH l ++ tail).length / 2 := by simp; omega
      by_cases e1 : k = (cellsH l ++ tail).length / 2 ∧ 0 < k
      · refine ⟨.eslice, ?_, ?_⟩
        · simp only [aslice, ht, he, ownOf, hg, hsz, hs, Nat.sub_zero]
          rw [if_neg (by omega), b]
          simp only
          rw [if_neg (by omega), if_pos e1]
        · have : k = l.length := by omega
          rw [this, Nat.sub_self]
          exact ⟨rfl, by simp [afirst, cellsH]⟩
      · refine ⟨.slice id (k * 2) (l.length - k) 0 false, ?_, fin _ (.inl rfl) _ _⟩
        simp only [aslice, ht, he, ownOf, hg, hsz, hs, Nat.sub_zero]
        rw [if_neg (by omega), b]
        simp only
        rw [if_neg (by omega), if_neg e1, Nat.zero_add]
/-- An append of so many items, of none too. -/
theorem EvP.appendItems {cl : Call} {s y : Operand} {ts : List TypeId} {k : Nat} {x : AV} {new : List It} {xt e2 : TypeId} {Q : AV → AH → Prop} (S : HS G h col) (V : HV col c h e v l) (h0 : c ≠ 0) (hx : alenOf x = some k ∧ afirst h 2 k x = some (cellsH new)) (hnl : new.length = k)
    (hcl : cl.callee = .builtin .append) (hts : cl.argTypes.toList = t :: xt :: ts) (hargs : cl.args.toList = [s, y]) (hv : evf σ s = v) (hy : evf σ y = x)
    (ht : descOf T t = .slice e) (hxt : descOf T xt = .slice e2) (hei : T.tt.get e = some ei) (hsz : ei.size = 2) (hz : ei.zero.length = 2) (hb : (l.length + k) * ei.bytes ≤ maxBytes) (hq : l.length + k ≤ 2 ^ 40)
    (H : ∀ v' h1 col1, Step (fun x => x = c) col h col1 h1 → HS G h1 col1 → HV col1 c h1 e v' (l ++ new) → Q v' h1) : EvP T X (.call cl) σ h Q := by
  have hap2 : ∀ a b : List It, cellsH (a ++ b) = cellsH a ++ cellsH b := fun a b => by unfold cellsH; rw [List.flatMap_append]
  rcases Nat.eq_zero_or_pos k with rfl | hk
  · obtain rfl : new = [] := List.eq_nil_of_length_eq_zero hnl
    refine EvP.eff (v := v) (h' := h) (by simp only [kindOf, hcl]) ?_ (Nat.le_refl _) (H v h col (Step.refl S) S (by rw [List.append_nil]; exact V))
    have e0 : cellsH ([] : List It) = [] := rfl
    rw [e0] at hx
    have hap : aappend T h t xt v x = some (v, h) := by
      have V' : Vec col c h e 2 v l.length (cellsH l) := V
      generalize hN : l.length = N at V'
      generalize hC : cellsH l = C at V'
      cases V' with
      | nil => simp [aappend, ht, hxt, hei, hsz, hx.1, hx.2]
      | @mk id _ cap ex _ tail hg hc hn hxx =>
        cases ex with
        | true => simp [aappend, ht, hxt, hei, hsz, hx.1, hx.2, (hxx rfl).1]
        | false =>
          have hs : szOf T e = 2 := by simp [szOf, hei, hsz]
          simp [aappend, ht, hxt, hei, hsz, hx.1, hx.2, ownOf, hg, hs]
          omega
    simp only [feff, hcl, hts, hargs, hv, hy, hap, rb, Option.map_some]
  · refine EvP.appendC S V h0 hcl hts hargs hv hy ht hxt hei hsz (by decide) hz hx.1 hx.2 (by rw [cellsH_len, hnl]) hk (cellsH_all new) hb hq (fun v' h1 col1 A S1 V1 => H v' h1 col1 A S1 ?_)
    unfold HV
    rw [List.length_append, hnl, hap2]; exact V1
end Go.AI.Q
