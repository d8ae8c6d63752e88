/- What follows by units holds in each model. -/
import Derived.Test.YtheiionmocfleaaDoorSaX
/- The law SatFollows. -/
namespace Go.Proofs.YtheiionmocfleaaDoor
namespace Pf
namespace Sa
open Go Go.AI Go.Proofs
variable {gt : Tree (List AV)}
theorem nz_emb (w : World) (v : Value) : NZ (embC w v) := by
  unfold embC
  split
  · split <;> trivial
  · trivial
  · rename_i h1
    split
    · rename_i len _ _
      cases len with
      | zero => exact (h1 rfl).elim
      | succ k => trivial
    · trivial
  · unfold toAV
    split <;> first | trivial | simp [NZ]
theorem holdsB_neg {m : List Bool} {x : Int} (hx : ok m.length x) : holdsB m (-x) = !holdsB m x := by
  obtain ⟨h0, h1, h2⟩ := hx
  have ha : absI (-x) = absI x := by unfold absI; split <;> split <;> omega
  unfold holdsB
  rw [ha]
  have hd : decide (-x > 0) = !decide (x > 0) := by
    by_cases h : x > 0
    · rw [decide_eq_true h, decide_eq_false (by omega)]; rfl
    · rw [decide_eq_false h, decide_eq_true (by omega)]; rfl
  rw [hd]
  cases m.getD (absI x - 1).toNat false <;> cases decide (x > 0) <;> rfl
theorem der_ok {n : Int} {L : List (List Int)} {ls : List Int} (hL : ∀ l ∈ L, ∀ x ∈ l, ok n x) (hl : ∀ x ∈ ls, ok n x) {x : Int} (d : Der L ls x) : ok n x := by
  cases d with
  | tak h => exact hl x h
  | unit hc hx _ => exact hL _ hc x hx
theorem ok_neg {n x : Int} (h : ok n x) : ok n (-x) := by
  obtain ⟨h0, h1, h2⟩ := h
  exact ⟨by omega, by omega, by omega⟩
/-- What follows holds in each model in which the literals hold. -/
theorem der_holds {m : List Bool} {L : List (List Int)} {ls : List Int} (hL : ∀ l ∈ L, ∀ x ∈ l, ok m.length x) (hl : ∀ x ∈ ls, ok m.length x) (hA : ∀ c ∈ L, ∃ z ∈ c, holdsB m z = true) (hh : ∀ x ∈ ls, holdsB m x = true) {x : Int} (d : Der L ls x) : holdsB m x = true := by
  induction d with
  | tak h => exact hh _ h
  | @unit x c hc hx hd ih =>
    have hOB := hA c hc
    obtain ⟨z, hz, hz2⟩ := hOB
    by_cases e : z = x
    · rw [← e]; exact hz2
    · have := ih z hz e
      rw [holdsB_neg (hL c hc z hz), hz2] at this
      cases this
theorem clash_holds {m : List Bool} {L : List (List Int)} {ls : List Int} (hL : ∀ l ∈ L, ∀ x ∈ l, ok m.length x) (hl : ∀ x ∈ ls, ok m.length x) (hA : ∀ c ∈ L, ∃ z ∈ c, holdsB m z = true) (hh : ∀ x ∈ ls, holdsB m x = true) : ¬ Clash L ls := by
  rintro (⟨x, h1, h2⟩ | ⟨c, hc, h⟩)
  · have := der_holds hL hl hA hh h2
    rw [holdsB_neg (der_ok hL hl h1), der_holds hL hl hA hh h1] at this
    cases this
  · have hOB := hA c hc
    obtain ⟨z, hz, hz2⟩ := hOB
    have := der_holds hL hl hA hh (h z hz)
    rw [holdsB_neg (hL c hc z hz), hz2] at this
    cases this
theorem bools_cells (M : List Bool) (N : Nat) : (List.range (Nat.min M.length N)).map (fun i => AV.bool (M.getD i false)) ++ (List.replicate N (AV.bool false)).drop (Nat.min M.length N) = (M.take N ++ List.replicate (N - M.length) false).map AV.bool := by
  apply List.ext_getElem?
  intro i
  have hmin : Nat.min M.length N = min M.length N := rfl
  rw [hmin]
  have hOB := Nat.lt_or_ge i (min M.length N)
  rcases hOB with h1 | h1
  · rw [List.getElem?_append_left (by simpa using h1), List.getElem?_map, List.getElem?_range h1, List.getElem?_map, List.getElem?_append_left (by simp; omega), List.getElem?_take, if_pos (by omega)]
    show some (AV.bool (M.getD i false)) = Option.map AV.bool M[i]?
    rw [List.getD_eq_getElem?_getD, List.getElem?_eq_getElem (by omega)]
    rfl
  · rw [List.getElem?_append_right (by simpa using h1), List.getElem?_drop, List.getElem?_map, List.getElem?_append_right (by simp; omega)]
    simp only [List.length_map, List.length_range, List.length_take, List.getElem?_replicate]
    by_cases h2 : i < N
    · rw [if_pos (by omega), if_pos (by omega)]; rfl
    · rw [if_neg (by omega), if_neg (by omega)]; rfl
end Sa
end Pf
end Go.Proofs.YtheiionmocfleaaDoor
