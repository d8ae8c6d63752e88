/- What is left of a clause. -/
import Derived.Test.YtfjloafebkjadaaGreatDoorPfM
/- What the reference's propagation comes to, without a program. -/
namespace Go.Proofs.YtfjloafebkjadaaGreatDoor
namespace Pf
theorem no_clash' {all : List (List Int)} {taken tr : List Int} (hcons : ∀ x, x ∈ tr → -x ∉ tr) (ht : ∀ x ∈ taken, x ∈ tr) (hs : ∀ c ∈ all, settled tr c) : ¬ Clash all taken := by
  have key : ∀ x, Der all taken x → x ∈ tr := by
    intro x hx
    induction hx with
    | tak h => exact ht _ h
    | @unit x c hc hx _ ih =>
      rcases hs c hc with ⟨z, h1, h2⟩ | ⟨y, h1, z, h2, h3, h4, h5⟩
      · by_cases e : z = x
        · rw [← e]; exact h2
        · exact absurd (ih z h1 e) (hcons z h2)
      · rw [ofT_zero] at h4 h5
        by_cases e : y = x
        · exact absurd (ih z h2 (fun e' => h3 (e.trans e'.symm))) h5.2
        · exact absurd (ih y h1 e) h4.2
  rintro (⟨x, h1, h2⟩ | ⟨c, hc, h⟩)
  · exact hcons x (key x h1) (key _ h2)
  · rcases hs c hc with ⟨z, h1, h2⟩ | ⟨y, h1, z, h2, h3, h4, h5⟩
    · exact hcons z h2 (key _ (h z h1))
    · rw [ofT_zero] at h4
      exact h4.2 (key _ (h y h1))
/-- The reference's look at a clause. -/
def leftG (F : Int → Bool) : Int → List Int → Int × Bool × Bool
  | one, [] => (one, false, one == 0)
  | one, x :: l => if F x = true ∨ x = one then leftG F one l else if one ≠ 0 then (0, true, false) else leftG F x l
theorem left_law {F : Int → Bool} : ∀ (c : List Int) (one : Int), (0 : Int) ∉ c →
    (leftG F one c = (0, true, false) ∧ ((∃ y ∈ c, one ≠ 0 ∧ y ≠ one ∧ F y = false) ∨ ∃ y ∈ c, ∃ z ∈ c, y ≠ z ∧ F y = false ∧ F z = false)) ∨
    ∃ l, leftG F one c = (l, false, l == 0) ∧ (one ≠ 0 → l = one) ∧ (l = one ∨ (l ∈ c ∧ F l = false)) ∧ ∀ y ∈ c, F y = true ∨ y = l
  | [], one, _ => .inr ⟨one, rfl, fun _ => rfl, .inl rfl, fun y hy => by cases hy⟩
  | x :: c, one, h0 => by
    have hx0 : x ≠ 0 := fun e => h0 (by simp [e])
    have h0' : (0 : Int) ∉ c := fun e => h0 (List.mem_cons_of_mem _ e)
    rw [leftG]
    by_cases h1 : F x = true ∨ x = one
    · rw [if_pos h1]
      rcases left_law c one h0' with ⟨e, h4⟩ | ⟨l, e, h4, h5, h6⟩
      · refine .inl ⟨e, ?_⟩
        rcases h4 with ⟨y, h5, h6⟩ | ⟨y, h5, z, h6, h7⟩
        · exact .inl ⟨y, List.mem_cons_of_mem _ h5, h6⟩
        · exact .inr ⟨y, List.mem_cons_of_mem _ h5, z, List.mem_cons_of_mem _ h6, h7⟩
      · refine .inr ⟨l, e, h4, ?_, fun y hy => ?_⟩
        · rcases h5 with h5 | ⟨h5, h7⟩
          · exact .inl h5
          · exact .inr ⟨List.mem_cons_of_mem _ h5, h7⟩
        · rcases List.mem_cons.1 hy with rfl | hy
          · rcases h1 with h1 | h1
            · exact .inl h1
            · exact .inr (by rw [h4 (h1 ▸ hx0)]; exact h1)
          · exact h6 y hy
    · rw [if_neg h1]
      have hF : F x = false := by
        cases hf : F x with
        | true => exact absurd (.inl hf) h1
        | false => rfl
      have hne : x ≠ one := fun e => h1 (.inr e)
      by_cases h2 : one ≠ 0
      · rw [if_pos h2]; exact .inl ⟨rfl, .inl ⟨x, List.mem_cons_self .., h2, hne, hF⟩⟩
      · rw [if_neg h2]
        have h2 : one = 0 := Classical.byContradiction h2
        rcases left_law c x h0' with ⟨e, h4⟩ | ⟨l, e, h4, h5, h6⟩
        · refine .inl ⟨e, .inr ?_⟩
          rcases h4 with ⟨y, h5, _, h7, h8⟩ | ⟨y, h5, z, h6, h7⟩
          · exact ⟨y, List.mem_cons_of_mem _ h5, x, List.mem_cons_self .., h7, h8, hF⟩
          · exact ⟨y, List.mem_cons_of_mem _ h5, z, List.mem_cons_of_mem _ h6, h7⟩
        · have hl : l = x := h4 hx0
          subst hl
          refine .inr ⟨l, e, fun hne' => absurd h2 hne', .inr ⟨List.mem_cons_self .., hF⟩, fun y hy => ?_⟩
          rcases List.mem_cons.1 hy with rfl | hy
          · exact .inr rfl
          · exact h6 y hy
theorem left_three {F : Int → Bool} {c : List Int} (h0 : (0 : Int) ∉ c) : (leftG F 0 c = (0, true, false) ∧ ∃ y ∈ c, ∃ z ∈ c, y ≠ z ∧ F y = false ∧ F z = false) ∨ (leftG F 0 c = (0, false, true) ∧ ∀ y ∈ c, F y = true) ∨
    ∃ l, l ≠ 0 ∧ leftG F 0 c = (l, false, false) ∧ l ∈ c ∧ F l = false ∧ ∀ y ∈ c, y ≠ l → F y = true := by
  rcases left_law (F := F) c 0 h0 with ⟨e, h4⟩ | ⟨l, e, _, h5, h6⟩
  · refine .inl ⟨e, ?_⟩
    rcases h4 with ⟨y, _, h5, _⟩ | h4
    · exact absurd rfl h5
    · exact h4
  · by_cases hl : l = 0
    · subst hl
      refine .inr (.inl ⟨e, fun y hy => ?_⟩)
      rcases h6 y hy with h | h
      · exact h
      · subst h; exact absurd hy h0
    · refine .inr (.inr ⟨l, hl, by rw [e]; simp [hl], ?_, ?_, fun y hy hne => ?_⟩)
      · rcases h5 with h5 | h5
        · exact absurd h5 hl
        · exact h5.1
      · rcases h5 with h5 | h5
        · exact absurd h5 hl
        · exact h5.2
      · rcases h6 y hy with h | h
        · exact h
        · exact absurd h hne
/-- What is known of each variable: 0, it, or its opposite. -/
structure VOk (n : Nat) (all : List (List Int)) (taken val : List Int) : Prop where
  len : val.length = n + 1
  ent : ∀ v : Nat, v ≤ n → val.getD v 0 ≠ 0 → (val.getD v 0).natAbs = v
  der : ∀ x ∈ val, x ≠ 0 → Der all taken x
def tr (val : List Int) : List Int := val.filter (· != 0)
theorem mem_tr {n : Nat} {all : List (List Int)} {taken val : List Int} (V : VOk n all taken val) {x : Int} : x ∈ tr val ↔ x ≠ 0 ∧ val.getD x.natAbs 0 = x := by
  unfold tr
  rw [List.mem_filter]
  constructor
  · rintro ⟨h1, h2⟩
    have h2 : x ≠ 0 := by simpa using h2
    refine ⟨h2, ?_⟩
    obtain ⟨i, hi, e⟩ := List.getElem_of_mem h1
    have hg : val.getD i 0 = x := by rw [List.getD_eq_getElem?_getD, List.getElem?_eq_getElem hi]; exact e
    have := V.ent i (by rw [V.len] at hi; omega) (by rw [hg]; exact h2)
    rw [hg] at this
    rw [this]; exact hg
  · rintro ⟨h1, h2⟩
    refine ⟨?_, by simpa using h1⟩
    have := getD_mem' (l := val) (i := x.natAbs) (by rw [h2]; exact h1)
    rw [h2] at this; exact this
where
  getD_mem' : ∀ {l : List Int} {i : Nat}, l.getD i 0 ≠ 0 → l.getD i 0 ∈ l := fun {l i} h => by
    rw [List.getD_eq_getElem?_getD] at h ⊢
    rcases Nat.lt_or_ge i l.length with hl | hl
    · rw [List.getElem?_eq_getElem hl]; exact List.getElem_mem hl
    · rw [List.getElem?_eq_none hl] at h; exact absurd rfl h
end Pf
end Go.Proofs.YtfjloafebkjadaaGreatDoor
