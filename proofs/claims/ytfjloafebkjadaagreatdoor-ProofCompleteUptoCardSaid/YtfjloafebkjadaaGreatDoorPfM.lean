/- Propagation by units, without a program. -/
import Derived.Test.YtfjloafebkjadaaGreatDoorPf1
/- Propagation by units, without a program. -/
namespace Go.Proofs.YtfjloafebkjadaaGreatDoor
namespace Pf
/-- What follows by units from clauses and from what was taken. -/
inductive Der (all : List (List Int)) (taken : List Int) : Int → Prop
  | tak {x : Int} (h : x ∈ taken) : Der all taken x
  | unit {x : Int} {c : List Int} (hc : c ∈ all) (hx : x ∈ c) (h : ∀ y ∈ c, y ≠ x → Der all taken (-y)) : Der all taken x
def Clash (all : List (List Int)) (taken : List Int) : Prop := (∃ x, Der all taken x ∧ Der all taken (-x)) ∨ ∃ c ∈ all, ∀ y ∈ c, Der all taken (-y)
def settled (tr c : List Int) : Prop := (∃ z ∈ c, z ∈ tr) ∨ ∃ y ∈ c, ∃ z ∈ c, y ≠ z ∧ ofT tr y = 0 ∧ ofT tr z = 0
theorem ofT_zero {tr : List Int} {x : Int} : ofT tr x = 0 ↔ x ∉ tr ∧ -x ∉ tr := by
  unfold ofT
  by_cases h1 : x ∈ tr
  · simp [h1]
  · by_cases h2 : -x ∈ tr <;> simp [h1, h2]
theorem ofT_one {tr : List Int} {x : Int} : ofT tr x = 1 ↔ x ∈ tr := by
  unfold ofT
  by_cases h1 : x ∈ tr
  · simp [h1]
  · by_cases h2 : -x ∈ tr <;> simp [h1, h2]
theorem ofT_neg1 {tr : List Int} {x : Int} (h : ofT tr x = -1) : -x ∈ tr := by
  unfold ofT at h
  split at h
  · cases h
  · split at h
    · assumption
    · cases h
theorem settled_push {tr c : List Int} {x : Int} (h : settled tr c) (hx : -x ∉ c) : settled (tr ++ [x]) c := by
  rcases h with ⟨z, h1, h2⟩ | ⟨y, h1, z, h2, h3, h4, h5⟩
  · exact .inl ⟨z, h1, List.mem_append_left _ h2⟩
  · by_cases e1 : y = x
    · exact .inl ⟨y, h1, by simp [e1]⟩
    · by_cases e2 : z = x
      · exact .inl ⟨z, h2, by simp [e2]⟩
      · rw [ofT_zero] at h4 h5
        have n1 : -y ≠ x := fun e => hx (by rw [← e, Int.neg_neg]; exact h1)
        have n2 : -z ≠ x := fun e => hx (by rw [← e, Int.neg_neg]; exact h2)
        exact .inr ⟨y, h1, z, h2, h3, by rw [ofT_zero]; simp [h4, e1, n1], by rw [ofT_zero]; simp [h5, e2, n2]⟩
def lookG (tr : List Int) : Int → List Int → Int × Bool
  | left, [] => (left, left == 0)
  | left, l :: c => if ofT tr l = 1 then (0, false) else if ofT tr l = 0 then (if left ≠ 0 ∧ left ≠ l then (0, false) else lookG tr l c) else lookG tr left c
/-- What 'look' tells. -/
theorem look_law {tr : List Int} : ∀ (c : List Int) (left : Int), (0 : Int) ∉ c →
    (lookG tr left c = (0, false) ∧ ((∃ z ∈ c, z ∈ tr) ∨ (∃ y ∈ c, left ≠ 0 ∧ left ≠ y ∧ ofT tr y = 0) ∨ ∃ y ∈ c, ∃ z ∈ c, y ≠ z ∧ ofT tr y = 0 ∧ ofT tr z = 0)) ∨
    ∃ l, lookG tr left c = (l, l == 0) ∧ (left ≠ 0 → l = left) ∧ (l = left ∨ (l ∈ c ∧ ofT tr l = 0)) ∧ ∀ y ∈ c, -y ∈ tr ∨ (y = l ∧ ofT tr y = 0)
  | [], left, _ => .inr ⟨left, rfl, fun _ => rfl, .inl rfl, fun y hy => by cases hy⟩
  | x :: c, left, h0 => by
    have hx0 : x ≠ 0 := fun e => h0 (by simp [e])
    have h0' : (0 : Int) ∉ c := fun e => h0 (List.mem_cons_of_mem _ e)
    rw [lookG]
    by_cases h1 : ofT tr x = 1
    · rw [if_pos h1]; exact .inl ⟨rfl, .inl ⟨x, List.mem_cons_self .., ofT_one.1 h1⟩⟩
    · rw [if_neg h1]
      by_cases h2 : ofT tr x = 0
      · rw [if_pos h2]
        by_cases h3 : left ≠ 0 ∧ left ≠ x
        · rw [if_pos h3]; exact .inl ⟨rfl, .inr (.inl ⟨x, List.mem_cons_self .., h3.1, h3.2, h2⟩)⟩
        · rw [if_neg h3]
          rcases look_law (tr := tr) c x h0' with ⟨e, h4⟩ | ⟨l, e, h4, h5, h6⟩
          · refine .inl ⟨e, ?_⟩
            rcases h4 with ⟨z, h5, h6⟩ | ⟨y, h5, _, h7, h8⟩ | ⟨y, h5, z, h6, h7, h8, h9⟩
            · exact .inl ⟨z, List.mem_cons_of_mem _ h5, h6⟩
            · exact .inr (.inr ⟨x, List.mem_cons_self .., y, List.mem_cons_of_mem _ h5, h7, h2, h8⟩)
            · exact .inr (.inr ⟨y, List.mem_cons_of_mem _ h5, z, List.mem_cons_of_mem _ h6, h7, h8, h9⟩)
          · have hl : l = x := h4 hx0
            subst hl
            refine .inr ⟨l, e, fun hne => Classical.byContradiction fun hn => h3 ⟨hne, fun e => hn e.symm⟩, .inr ⟨List.mem_cons_self .., h2⟩, fun y hy => ?_⟩
            rcases List.mem_cons.1 hy with rfl | hy
            · exact .inr ⟨rfl, h2⟩
            · exact h6 y hy
      · rw [if_neg h2]
        have hm1 : ofT tr x = -1 := by rcases ofT_rng tr x with h | h | h <;> first | exact h | contradiction
        rcases look_law (tr := tr) c left h0' with ⟨e, h4⟩ | ⟨l, e, h4, h5, h6⟩
        · refine .inl ⟨e, ?_⟩
          rcases h4 with ⟨z, h5, h6⟩ | ⟨y, h5, h6, h7, h8⟩ | ⟨y, h5, z, h6, h7, h8, h9⟩
          · exact .inl ⟨z, List.mem_cons_of_mem _ h5, h6⟩
          · exact .inr (.inl ⟨y, List.mem_cons_of_mem _ h5, h6, h7, h8⟩)
          · exact .inr (.inr ⟨y, List.mem_cons_of_mem _ h5, z, List.mem_cons_of_mem _ h6, h7, h8, h9⟩)
        · refine .inr ⟨l, e, h4, ?_, fun y hy => ?_⟩
          · rcases h5 with h5 | ⟨h5, h7⟩
            · exact .inl h5
            · exact .inr ⟨List.mem_cons_of_mem _ h5, h7⟩
          · rcases List.mem_cons.1 hy with rfl | hy
            · exact .inl (ofT_neg1 hm1)
            · exact h6 y hy
/-- The three answers. -/
theorem look_three {tr c : List Int} (h0 : (0 : Int) ∉ c) : (lookG tr 0 c = (0, false) ∧ settled tr c) ∨ (lookG tr 0 c = (0, true) ∧ ∀ y ∈ c, -y ∈ tr) ∨
    ∃ l, l ≠ 0 ∧ lookG tr 0 c = (l, false) ∧ l ∈ c ∧ ofT tr l = 0 ∧ ∀ y ∈ c, y ≠ l → -y ∈ tr := by
  rcases look_law (tr := tr) c 0 h0 with ⟨e, h4⟩ | ⟨l, e, _, h5, h6⟩
  · refine .inl ⟨e, ?_⟩
    rcases h4 with h4 | ⟨y, _, h5, _⟩ | h4
    · exact .inl h4
    · exact absurd rfl h5
    · exact .inr h4
  · by_cases hl : l = 0
    · subst hl
      refine .inr (.inl ⟨e, fun y hy => ?_⟩)
      rcases h6 y hy with h | ⟨h, _⟩
      · exact h
      · subst h; exact absurd hy h0
    · refine .inr (.inr ⟨l, hl, by rw [e]; simp [hl], ?_, ?_, fun y hy hne => ?_⟩)
      · rcases h5 with h5 | h5
        · exact absurd h5 hl
        · exact h5.1
      · rcases h5 with h5 | h5
        · exact absurd h5 hl
        · exact h5.2
      · rcases h6 y hy with h | ⟨h, _⟩
        · exact h
        · exact absurd h hne
/-- What holds of a trail at any time. -/
structure Good (n : Nat) (all : List (List Int)) (taken tr : List Int) : Prop where
  oks : ∀ x ∈ tr, ok n x
  cons : ∀ x, x ∈ tr → -x ∉ tr
  nodup : tr.Nodup
  der : ∀ x ∈ tr, Der all taken x
theorem Good.push {n : Nat} {all : List (List Int)} {taken tr : List Int} (g : Good n all taken tr) {x : Int} (hx : ok n x) (hf : ofT tr x = 0) (hd : Der all taken x) : Good n all taken (tr ++ [x]) where
  oks := fun y hy => by
    rcases List.mem_append.1 hy with h | h
    · exact g.oks y h
    · rw [List.mem_singleton.1 h]; exact hx
  cons := fun y hy hn => by
    rw [ofT_zero] at hf
    simp only [List.mem_append, List.mem_singleton] at hy hn
    rcases hy with h | rfl
    · rcases hn with h' | h'
      · exact g.cons y h h'
      · exact hf.2 (by rw [← h', Int.neg_neg]; exact h)
    · rcases hn with h' | h'
      · exact hf.2 h'
      · have := hx.1; omega
  nodup := by
    rw [ofT_zero] at hf
    rw [List.nodup_append]
    exact ⟨g.nodup, by simp, fun a ha b hb => by rw [List.mem_singleton.1 hb]; intro e; exact hf.1 (e ▸ ha)⟩
  der := fun y hy => by
    rcases List.mem_append.1 hy with h | h
    · exact g.der y h
    · rw [List.mem_singleton.1 h]; exact hd
theorem nodup_len {α : Type} [BEq α] [LawfulBEq α] : ∀ {l m : List α}, l.Nodup → (∀ x ∈ l, x ∈ m) → l.length ≤ m.length
  | [], _, _, _ => by simp
  | x :: l, m, hn, hs => by
    have hx := hs x (List.mem_cons_self ..)
    rw [List.nodup_cons] at hn
    have := nodup_len (m := m.erase x) hn.2 fun y hy => by
      have : y ≠ x := fun e => hn.1 (e ▸ hy)
      exact (List.mem_erase_of_ne this).2 (hs y (List.mem_cons_of_mem _ hy))
    have h1 := List.length_erase_of_mem hx
    have : 0 < m.length := List.length_pos_of_mem hx
    simp only [List.length_cons]; omega
theorem Good.len {n : Nat} {all : List (List Int)} {taken tr : List Int} (g : Good n all taken tr) : tr.length ≤ n := by
  have h1 : (tr.map fun x => x.natAbs - 1).Nodup := by
    rw [List.Nodup, List.pairwise_map]
    refine List.Pairwise.imp_of_mem ?_ g.nodup
    intro a b ha hb hne e
    have h1 := g.oks a ha
    have h2 := g.oks b hb
    have h3 := h1.1
    have h4 := h2.1
    by_cases e1 : a = -b
    · exact g.cons b hb (e1 ▸ ha)
    · omega
  have h2 := nodup_len (m := List.range n) h1 fun y hy => by
    obtain ⟨x, hx, rfl⟩ := List.mem_map.1 hy
    have h3 := g.oks x hx
    have h4 := h3.1
    have h5 := h3.2.1
    have h6 := h3.2.2
    rw [List.mem_range]; omega
  simpa using h2
/-- Where nothing more follows. -/
theorem no_clash {n : Nat} {all : List (List Int)} {taken tr : List Int} (g : Good n all taken tr) (ht : ∀ x ∈ taken, x ∈ tr) (hs : ∀ c ∈ all, settled tr c) : ¬ Clash all taken := by
  have key : ∀ x, Der all taken x → x ∈ tr := by
    intro x hx
    induction hx with
    | tak h => exact ht _ h
    | @unit x c hc hx _ ih =>
      rcases hs c hc with ⟨z, h1, h2⟩ | ⟨y, h1, z, h2, h3, h4, h5⟩
      · by_cases e : z = x
        · rw [← e]; exact h2
        · exact absurd (ih z h1 e) (g.cons z h2)
      · rw [ofT_zero] at h4 h5
        by_cases e : y = x
        · exact absurd (ih z h2 (fun e' => h3 (e.trans e'.symm))) h5.2
        · exact absurd (ih y h1 e) h4.2
  rintro (⟨x, h1, h2⟩ | ⟨c, hc, h⟩)
  · exact g.cons x (key x h1) (key _ h2)
  · rcases hs c hc with ⟨z, h1, h2⟩ | ⟨y, h1, z, h2, h3, h4, h5⟩
    · exact g.cons z h2 (key _ (h z h1))
    · rw [ofT_zero] at h4
      exact h4.2 (key _ (h y h1))
end Pf
end Go.Proofs.YtfjloafebkjadaaGreatDoor
/- What the reference's propagation comes to, without a program. -/
namespace Go.Proofs.YtfjloafebkjadaaGreatDoor
namespace Pf
theorem no_clash' {all : List (List Int)} {taken tr : List Int} (hcons : ∀ x, x ∈ tr → -x ∉ tr) (ht : ∀ x ∈ taken, x ∈ tr) (hs : ∀ c ∈ all, settled tr c) : ¬ Clash all taken := by
  have key : ∀ x, Der all taken x → x ∈ tr := by
    intro x hx
    induction hx with
    | tak h => exact ht _ h
    | @unit x c hc hx _ ih =>
      rcases hs c hc with ⟨z, h1, h2⟩ | ⟨y, h1, z, h2, h3, h4, h5⟩
      · by_cases e : z = x
        · rw [← e]; exact h2
        · exact absurd (ih z h1 e) (hcons z h2)
      · rw [ofT_zero] at h4 h5
        by_cases e : y = x
        · exact absurd (ih z h2 (fun e' => h3 (e.trans e'.symm))) h5.2
        · exact absurd (ih y h1 e) h4.2
  rintro (⟨x, h1, h2⟩ | ⟨c, hc, h⟩)
  · exact hcons x (key x h1) (key _ h2)
  · rcases hs c hc with ⟨z, h1, h2⟩ | ⟨y, h1, z, h2, h3, h4, h5⟩
    · exact hcons z h2 (key _ (h z h1))
    · rw [ofT_zero] at h4
      exact h4.2 (key _ (h y h1))
/-- The reference's look at a clause. -/
def leftG (F : Int → Bool) : Int → List Int → Int × Bool × Bool
  | one, [] => (one, false, one == 0)
  | one, x :: l => if F x = true ∨ x = one then leftG F one l else if one ≠ 0 then (0, true, false) else leftG F x l
theorem left_law {F : Int → Bool} : ∀ (c : List Int) (one : Int), (0 : Int) ∉ c →
    (leftG F one c = (0, true, false) ∧ ((∃ y ∈ c, one ≠ 0 ∧ y ≠ one ∧ F y = false) ∨ ∃ y ∈ c, ∃ z ∈ c, y ≠ z ∧ F y = false ∧ F z = false)) ∨
    ∃ l, leftG F one c = (l, false, l == 0) ∧ (one ≠ 0 → l = one) ∧ (l = one ∨ (l ∈ c ∧ F l = false)) ∧ ∀ y ∈ c, F y = true ∨ y = l
  | [], one, _ => .inr ⟨one, rfl, fun _ => rfl, .inl rfl, fun y hy => by cases hy⟩
  | x :: c, one, h0 => by
    have hx0 : x ≠ 0 := fun e => h0 (by simp [e])
    have h0' : (0 : Int) ∉ c := fun e => h0 (List.mem_cons_of_mem _ e)
    rw [leftG]
    by_cases h1 : F x = true ∨ x = one
    · rw [if_pos h1]
      rcases left_law c one h0' with ⟨e, h4⟩ | ⟨l, e, h4, h5, h6⟩
      · refine .inl ⟨e, ?_⟩
        rcases h4 with ⟨y, h5, h6⟩ | ⟨y, h5, z, h6, h7⟩
        · exact .inl ⟨y, List.mem_cons_of_mem _ h5, h6⟩
        · exact .inr ⟨y, List.mem_cons_of_mem _ h5, z, List.mem_cons_of_mem _ h6, h7⟩
      · refine .inr ⟨l, e, h4, ?_, fun y hy => ?_⟩
        · rcases h5 with h5 | ⟨h5, h7⟩
          · exact .inl h5
          · exact .inr ⟨List.mem_cons_of_mem _ h5, h7⟩
        · rcases List.mem_cons.1 hy with rfl | hy
          · rcases h1 with h1 | h1
            · exact .inl h1
            · exact .inr (by rw [h4 (h1 ▸ hx0)]; exact h1)
          · exact h6 y hy
    · rw [if_neg h1]
      have hF : F x = false := by
        cases hf : F x with
        | true => exact absurd (.inl hf) h1
        | false => rfl
      have hne : x ≠ one := fun e => h1 (.inr e)
      by_cases h2 : one ≠ 0
      · rw [if_pos h2]; exact .inl ⟨rfl, .inl ⟨x, List.mem_cons_self .., h2, hne, hF⟩⟩
      · rw [if_neg h2]
        have h2 : one = 0 := Classical.byContradiction h2
        rcases left_law c x h0' with ⟨e, h4⟩ | ⟨l, e, h4, h5, h6⟩
        · refine .inl ⟨e, .inr ?_⟩
          rcases h4 with ⟨y, h5, _, h7, h8⟩ | ⟨y, h5, z, h6, h7⟩
          · exact ⟨y, List.mem_cons_of_mem _ h5, x, List.mem_cons_self .., h7, h8, hF⟩
          · exact ⟨y, List.mem_cons_of_mem _ h5, z, List.mem_cons_of_mem _ h6, h7⟩
        · have hl : l = x := h4 hx0
          subst hl
          refine .inr ⟨l, e, fun hne' => absurd h2 hne', .inr ⟨List.mem_cons_self .., hF⟩, fun y hy => ?_⟩
          rcases List.mem_cons.1 hy with rfl | hy
          · exact .inr rfl
          · exact h6 y hy
theorem left_three {F : Int → Bool} {c : List Int} (h0 : (0 : Int) ∉ c) : (leftG F 0 c = (0, true, false) ∧ ∃ y ∈ c, ∃ z ∈ c, y ≠ z ∧ F y = false ∧ F z = false) ∨ (leftG F 0 c = (0, false, true) ∧ ∀ y ∈ c, F y = true) ∨
    ∃ l, l ≠ 0 ∧ leftG F 0 c = (l, false, false) ∧ l ∈ c ∧ F l = false ∧ ∀ y ∈ c, y ≠ l → F y = true := by
  rcases left_law (F := F) c 0 h0 with ⟨e, h4⟩ | ⟨l, e, _, h5, h6⟩
  · refine .inl ⟨e, ?_⟩
    rcases h4 with ⟨y, _, h5, _⟩ | h4
    · exact absurd rfl h5
    · exact h4
  · by_cases hl : l = 0
    · subst hl
      refine .inr (.inl ⟨e, fun y hy => ?_⟩)
      rcases h6 y hy with h | h
      · exact h
      · subst h; exact absurd hy h0
    · refine .inr (.inr ⟨l, hl, by rw [e]; simp [hl], ?_, ?_, fun y hy hne => ?_⟩)
      · rcases h5 with h5 | h5
        · exact absurd h5 hl
        · exact h5.1
      · rcases h5 with h5 | h5
        · exact absurd h5 hl
        · exact h5.2
      · rcases h6 y hy with h | h
        · exact h
        · exact absurd h hne
/-- What is known of each variable: 0, it, or its opposite. -/
structure VOk (n : Nat) (all : List (List Int)) (taken val : List Int) : Prop where
  len : val.length = n + 1
  ent : ∀ v : Nat, v ≤ n → val.getD v 0 ≠ 0 → (val.getD v 0).natAbs = v
  der : ∀ x ∈ val, x ≠ 0 → Der all taken x
def tr (val : List Int) : List Int := val.filter (· != 0)
theorem mem_tr {n : Nat} {all : List (List Int)} {taken val : List Int} (V : VOk n all taken val) {x : Int} : x ∈ tr val ↔ x ≠ 0 ∧ val.getD x.natAbs 0 = x := by
  unfold tr
  rw [List.mem_filter]
  constructor
  · rintro ⟨h1, h2⟩
    have h2 : x ≠ 0 := by simpa using h2
    refine ⟨h2, ?_⟩
    obtain ⟨i, hi, e⟩ := List.getElem_of_mem h1
    have hg : val.getD i 0 = x := by rw [List.getD_eq_getElem?_getD, List.getElem?_eq_getElem hi]; exact e
    have := V.ent i (by rw [V.len] at hi; omega) (by rw [hg]; exact h2)
    rw [hg] at this
    rw [this]; exact hg
  · rintro ⟨h1, h2⟩
    refine ⟨?_, by simpa using h1⟩
    have := getD_mem' (l := val) (i := x.natAbs) (by rw [h2]; exact h1)
    rw [h2] at this; exact this
where
  getD_mem' : ∀ {l : List Int} {i : Nat}, l.getD i 0 ≠ 0 → l.getD i 0 ∈ l := fun {l i} h => by
    rw [List.getD_eq_getElem?_getD] at h ⊢
    rcases Nat.lt_or_ge i l.length with hl | hl
    · rw [List.getElem?_eq_getElem hl]; exact List.getElem_mem hl
    · rw [List.getElem?_eq_none hl] at h; exact absurd rfl h
end Pf
end Go.Proofs.YtfjloafebkjadaaGreatDoor
