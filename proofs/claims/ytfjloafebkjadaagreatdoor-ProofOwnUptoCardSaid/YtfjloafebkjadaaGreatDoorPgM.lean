/- The order of literals, without a program. -/
import Derived.Test.YtfjloafebkjadaaGreatDoorPgB
namespace Go.Proofs.YtfjloafebkjadaaGreatDoor
namespace Pf
open Go Go.AI Go.Proofs
/-- Where a literal stands in the order. -/
def key (x : Int) : Nat := 2 * x.natAbs + if x > 0 then 1 else 0
theorem key_inj {x y : Int} (h : key x = key y) : x = y := by
  unfold key at h; split at h <;> split at h <;> omega
theorem cfZ_key (x y : Int) : cfZ x y < 0 ↔ key x < key y := by
  unfold cfZ key; split <;> split <;> split <;> omega
/-- In order, each once. -/
def SortK (l : List Int) : Prop := l.Pairwise (fun x y => key x < key y)
theorem sortK_eq : ∀ {a b : List Int}, SortK a → SortK b → (∀ x, x ∈ a ↔ x ∈ b) → a = b
  | [], [], _, _, _ => rfl
  | [], y :: b, _, _, h => absurd ((h y).2 (List.mem_cons_self ..)) (by simp)
  | x :: a, [], _, _, h => absurd ((h x).1 (List.mem_cons_self ..)) (by simp)
  | x :: a, y :: b, ha, hb, h => by
    have hOB := List.pairwise_cons.1 ha
    obtain ⟨a1, a2⟩ := hOB
    have hOB := List.pairwise_cons.1 hb
    obtain ⟨b1, b2⟩ := hOB
    have e : x = y := by
      have hOB := List.mem_cons.1 ((h x).1 (List.mem_cons_self ..))
      rcases hOB with e | hx
      · exact e
      · have hOB := List.mem_cons.1 ((h y).2 (List.mem_cons_self ..))
        rcases hOB with e | hy
        · exact e.symm
        · have := a1 y hy; have := b1 x hx; omega
    subst e
    congr 1
    refine sortK_eq a2 b2 fun z => ⟨fun hz => ?_, fun hz => ?_⟩
    · have hOB := List.mem_cons.1 ((h z).1 (List.mem_cons_of_mem _ hz))
      rcases hOB with e | h'
      · have := a1 z hz; rw [e] at this; omega
      · exact h'
    · have hOB := List.mem_cons.1 ((h z).2 (List.mem_cons_of_mem _ hz))
      rcases hOB with e | h'
      · have := b1 z hz; rw [e] at this; omega
      · exact h'
theorem sortK_len : ∀ {l : List Int} {m : Nat}, SortK l → (∀ x ∈ l, key x < m) → l.length ≤ m := by
  have gen : ∀ (l : List Int) (k m : Nat), SortK l → (∀ x ∈ l, k ≤ key x ∧ key x < m) → l.length + k ≤ m ∨ l = [] := by
    intro l
    induction l with
    | nil => intro k m _ _; exact .inr rfl
    | cons x l ih =>
      intro k m hs hb
      have hOB := List.pairwise_cons.1 hs
      obtain ⟨a1, a2⟩ := hOB
      have hx := hb x (List.mem_cons_self ..)
      have hOB := ih (key x + 1) m a2 (fun y hy => ⟨a1 y hy, (hb y (List.mem_cons_of_mem _ hy)).2⟩)
      rcases hOB with h | h
      · left; simp only [List.length_cons]; omega
      · left; subst h; simp; omega
  intro l m hs hb
  have hOB := gen l 0 m hs (fun x hx => ⟨Nat.zero_le _, hb x hx⟩)
  rcases hOB with h | h
  · omega
  · subst h; simp
theorem sortK_ok {l : List Int} {n : Int} (hs : SortK l) (h0 : 0 ≤ n) (hb : ∀ x ∈ l, ok n x) : l.length ≤ 2 * n.toNat + 2 := by
  refine sortK_len hs fun x hx => ?_
  have := hb x hx
  unfold ok at this
  unfold key; split <;> omega
theorem sortK_append {a : List Int} {x : Int} (ha : SortK a) (h : ∀ y ∈ a, key y < key x) : SortK (a ++ [x]) :=
  List.pairwise_append.2 ⟨ha, List.pairwise_singleton .., fun y hy z hz => by rw [List.mem_singleton.1 hz]; exact h y hy⟩
theorem sorted_le {l : List Int} : (l.mergeSort (leOf cfZ)).Pairwise (fun x y => key x ≤ key y) := by
  have h := List.pairwise_mergeSort (le := leOf cfZ) (fun a b c h1 h2 => by
    unfold leOf at *
    simp only [Bool.not_eq_true', decide_eq_false_iff_not, cfZ_key] at *
    omega) (fun a b => by
    unfold leOf
    simp only [Bool.or_eq_true, Bool.not_eq_true', decide_eq_false_iff_not, cfZ_key]
    omega) l
  refine h.imp fun {a b} hab => ?_
  unfold leOf at hab
  simp only [Bool.not_eq_true', decide_eq_false_iff_not, cfZ_key] at hab
  omega
theorem comp_last (l : List Int) : ∀ k, 1 ≤ k → k ≤ l.length → l.getD (k - 1) 0 ∈ comp l k := fun k h1 h2 => by
  refine (mem_comp l _ k h2).2 ?_
  have hOB : ∃ i, k = i + 1 := ⟨k - 1, by omega⟩
  obtain ⟨i, rfl⟩ := hOB
  rw [take_next (by omega)]; simp
theorem comp_sorted (l : List Int) (hl : l.Pairwise (fun x y => key x ≤ key y)) : ∀ k, k ≤ l.length → SortK (comp l k)
  | 0, _ => .nil
  | 1, _ => List.pairwise_singleton ..
  | k + 2, h => by
    have ih := comp_sorted l hl (k + 1) (by omega)
    by_cases e : l.getD (k + 1) 0 = l.getD k 0
    · rw [comp_eq l (k := k + 1) (by omega) e]; exact ih
    · rw [comp_ne l (k := k + 1) (by omega) e]
      have hget : ∀ i j, i < j → j < l.length → key (l.getD i 0) ≤ key (l.getD j 0) := fun i j hij hj => by
        have := List.pairwise_iff_getElem.1 hl i j (by omega) hj hij
        rwa [List.getD_eq_getElem?_getD, List.getD_eq_getElem?_getD, List.getElem?_eq_getElem (by omega), List.getElem?_eq_getElem hj]
      have hle := hget k (k + 1) (by omega) (by omega)
      have hlt : key (l.getD k 0) < key (l.getD (k + 1) 0) := by
        have hOB := Nat.lt_or_eq_of_le hle
        rcases hOB with h' | h'
        · exact h'
        · exact absurd (key_inj h').symm e
      refine sortK_append ih fun y hy => ?_
      have hy := (mem_comp l y (k + 1) (by omega)).1 hy
      have hOB := List.getElem_of_mem hy
      obtain ⟨i, hi, rfl⟩ := hOB
      simp only [List.length_take] at hi
      have h3 := hget i k
      have h4 : (l.take (k + 1))[i] = l.getD i 0 := by
        rw [List.getElem_take, List.getD_eq_getElem?_getD, List.getElem?_eq_getElem (by omega)]; rfl
      rw [h4]
      have hOB := Nat.lt_or_ge i k
      rcases hOB with h5 | h5
      · have := h3 h5 (by omega); omega
      · have hOB : i = k := by omega
        obtain rfl := hOB
        exact hlt
theorem sortK_ordL (l : List Int) : SortK (ordL l) := comp_sorted _ sorted_le _ (Nat.le_refl _)
theorem sortK_resL (A B : List Int) (v : Int) : SortK (resL A B v) := sortK_ordL _
end Pf
end Go.Proofs.YtfjloafebkjadaaGreatDoor
