/- Sorting pairs by a comparison of one's own. -/
import Derived.Test.YtohlmbbmeknfiaaAISort
import Derived.Test.YtohlmbbmeknfiaaQRules
import Derived.Shelf.GgSortFunc.InsertionK
/- Sorting rows of pairs of whole numbers by a comparison of one's own, for the abstract machine. -/
namespace Go.AI.Q
open Go.AI
open Go.RowKit (Below)
open Go.Sort (Holds putRow putCells mapBlock onCells grow flatK putRowK HoldsK)
instance : Inhabited It := ⟨z⟩
def encK (x : It) : List Value := [.int .i64 x.1, .int .i64 x.2]
def items : List AV → Option (List It)
  | [] => some []
  | .int .i64 a :: .int .i64 b :: t => match items t with | some l => some ((a, b) :: l) | none => none
  | _ :: _ => none
theorem items_of : ∀ l : List It, items (cellsH l) = some l
  | [] => rfl
  | (a, b) :: l => by
    have := items_of l
    show items (.int .i64 a :: .int .i64 b :: cellsH l) = _
    simp [items, this]
theorem items_eq : ∀ {cs : List AV} {l : List It}, items cs = some l → cs = cellsH l
  | [], l, h => by simp [items] at h; subst h; rfl
  | [v], l, h => by
    unfold items at h
    split at h
    · rename_i e; cases e
    · rename_i e; cases e
    · cases h
  | u :: v :: t, l, h => by
    unfold items at h
    split at h
    · rename_i e; cases e
    · rename_i a b t' e
      cases e
      split at h
      · rename_i l' h1
        cases h
        show _ = .int .i64 a :: .int .i64 b :: cellsH l'
        rw [items_eq h1]
      · cases h
    · cases h
def le2 (cf : It → It → Int) (x y : It) : Bool := !decide (cf y x < 0)
/-- 'fs' sorts by the comparison 'fc', which answers 'cf'. -/
structure SorterK (P : Program) (fs fc : FuncId) (cf : It → It → Int) : Prop where
  no : ∀ (p : Option Addr) (cap : Nat) (fv : Value) (w : World), Calls P fs #[.slice p 0 cap, fv] w fun e w' => e = .returned (.tuple #[]) ∧ w' = w
  row : ∀ (blk off cap : Nat) (d : Array It) (w : World), HoldsK encK 2 w blk off d → blk < w.heap.size → d.size < 4611686018427387904 →
    Calls P fs #[.slice (some ⟨blk, off, none⟩) d.size cap, .func (.func fc) #[] #[]] w fun e w' => e = .returned (.tuple #[]) ∧ ∃ n os, w' = Go.Proofs.sortWorldK encK 2 w blk off n (d.toList.mergeSort (le2 cf)).toArray os
def sort2X (fs fc : FuncId) (cf : It → It → Int) (next : Oracle) : Oracle := fun f args h => match Nat.beq f fs with
  | false => next f args h
  | true => match args with
    | [.nilSlice, .func _ _] => some (.tuple [], h)
    | [.slice id off len _ _, .func g []] => match h.t.get id with
      | some (.cells cs e false) => match sub cs off (len * 2) with
        | some r => match items r with
          | some l => if g = fc ∧ l.length < 4611686018427387904 then some (.tuple [], h.upd id (.cells (lsetMany cs off (cellsH (l.mergeSort (le2 cf)))) e false)) else none
          | none => none
        | none => none
      | _ => none
    | _ => none
theorem cell_flat (l : List It) {t : Nat} (ht : t < l.length * 2) : ∃ u, (cellsH l)[t]? = some (.int .i64 u) ∧ (flatK encK 2 l.toArray)[t]! = .int .i64 u := by
  have hg := cellsH_get l (t / 2) (by omega)
  have hf := Go.Sort.get_flatK encK 2 l.toArray t (by simpa using ht)
  have hq : l.toArray[t / 2]! = at' l (t / 2) := by
    rw [getElem!_pos l.toArray (t / 2) (by simp; omega)]
    unfold at'
    rw [List.getD_eq_getElem?_getD, List.getElem?_eq_getElem (by omega)]; rfl
  rw [hq] at hf
  have : t = t / 2 * 2 ∨ t = t / 2 * 2 + 1 := by omega
  rcases this with e | e
  · refine ⟨_, by rw [e]; exact hg.1, ?_⟩
    rw [hf, show t % 2 = 0 by omega]; rfl
  · refine ⟨_, by rw [e]; exact hg.2, ?_⟩
    rw [hf, show t % 2 = 1 by omega]; rfl
theorem sort2X_ok {P : Program} {T : Tab} {fs fc : FuncId} {cf : It → It → Int} {next : Oracle} {w0 : World} (hS : SorterK P fs fc cf) (hn : OracleOk P T next w0) : OracleOk P T (sort2X fs fc cf next) w0 := by
  intro f x args args' h h' v γ w hf hx hw hl
  unfold sort2X at hx
  split at hx
  · exact hn f x args args' h h' v γ w hf hx hw hl
  · rename_i hb
    obtain rfl := Nat.eq_of_beq_eq_true hb
    split at hx
    · cases hx
      cases hl with
      | cons a t =>
        cases a
        cases t with
        | cons b t =>
          cases t
          cases b
          exact (hS.no _ _ _ w).mono fun e w' ⟨h1, h2⟩ => ⟨_, γ, h1, Ext.refl _ _, Nat.le_refl _, by rw [h2]; exact hw, .tuple .nil⟩
    · rename_i id off len cx ex g
      split at hx
      · rename_i cs e ho
        split at hx
        · rename_i r hr
          split at hx
          · rename_i l hz
            split at hx
            · rename_i hc
              obtain ⟨rfl, hlt⟩ := hc
              cases hx
              have hargs : ∃ b s K z cap, γ id = some (b, s, K, z) ∧ args' = [.slice (some ⟨b, s + off, none⟩) len cap, .func (.func g) #[] #[]] := by
                cases hl with
                | cons a t =>
                  cases t with
                  | cons b t =>
                    cases t
                    cases b with
                    | func hcs =>
                      cases hcs
                      cases a with
                      | slice hg => exact ⟨_, _, _, _, _, hg, rfl⟩
                      | grown hg _ _ => exact ⟨_, _, _, _, _, hg, rfl⟩
              obtain ⟨b, s, K, z, cap, hid, rfl⟩ := hargs
              have hown : ownOf h id = some (cs, e) := by unfold ownOf; rw [ho]
              obtain ⟨ho', hz1, hB, c, e', fz, h1, h2, h3, h4, h5⟩ := obj_own hw hown hid
              have hty := obj_type hw ho' hid
              obtain rfl := hty.2.2.same h1
              obtain rfl := items_eq hz
              obtain ⟨s1, s2, s3⟩ := sub_some hr
              have hlen : l.length = len := by have := cellsH_len l; omega
              have hcell : ∀ t, t < l.length * 2 → c[s + off + t]? = some ((flatK encK 2 l.toArray)[t]!) := by
                intro t ht
                obtain ⟨u, u1, u2⟩ := cell_flat l ht
                have g1 : cs[off + t]? = some (AV.int .i64 u) := by
                  have : ((cs.drop off).take (len * 2))[t]? = some (AV.int .i64 u) := by rw [← s2]; exact u1
                  rw [List.getElem?_take_of_lt (by omega), List.getElem?_drop] at this
                  exact this
                obtain ⟨v', g2, g3⟩ := h2 _ _ g1
                cases g3
                rw [show s + off + t = s + (off + t) by omega, g2, u2]
              have hbl : b < w.heap.size := by
                rcases Nat.lt_or_ge b w.heap.size with hlt' | hge
                · exact hlt'
                · rw [Array.getElem?_eq_none hge] at h1; cases h1
              have hH : HoldsK encK 2 w b (s + off) l.toArray := by
                intro t ht
                have ht' : t < l.length * 2 := by simpa using ht
                refine ⟨?_, ?_⟩
                · simp only [World.cell?, h1]
                  exact hcell t ht'
                · have := h5 (s + off + t) (by omega) (by omega)
                  simp only [World.frozen?, h1]
                  simpa using this
              have hcon := hS.row b (s + off) cap l.toArray w hH hbl (by simp; omega)
              have e1 : l.toArray.size = len := by simpa using hlen
              rw [e1] at hcon
              refine hcon.mono fun e2 w' ⟨k1, n, os, k2⟩ => ⟨_, γ, k1, Ext.refl _ _, Nat.le_refl _, ?_, .tuple .nil⟩
              subst k2
              let D : List It := l.mergeSort (le2 cf)
              have Dlen : D.length = len := by simp [D, hlen]
              have hcl : (cellsH D).length = len * 2 := by rw [cellsH_len, Dlen]
              have hw1 : WRel T γ h w0 (Go.Sort.ahead w n) := hw.same rfl rfl rfl rfl
              have hb1 : (Go.Sort.ahead w n).heap[b]? = some (.cells c e' fz) := h1
              have hw2 : WRel T γ (h.upd id (.cells (lsetMany cs off (cellsH D)) e' false)) w0 (putRow _root_.id (Go.Sort.ahead w n) b (s + off) (flatK encK 2 D.toArray)) := by
                refine hw1.update hid ho' (by simp) hB (by simp) (fun k hk => putRow_other _root_.id _ b _ _ hk) rfl rfl rfl ?_
                rw [putRow_block _root_.id _ b _ _ hb1]
                refine ⟨⟨hz1, hty.2.1, ofType_cells⟩, _, _, fz, rfl, fun i v hi => ?_, ?_, by rw [lsetMany_length]; exact h4, fun _ => ⟨hB, h5⟩⟩
                · rw [lsetMany_get _ _ _ (by omega)] at hi
                  simp only [putCells, Array.getElem?_mapIdx]
                  have hsz : (flatK encK 2 D.toArray).size = len * 2 := by simp [Dlen]
                  rw [hsz]
                  split at hi
                  · rename_i hr1
                    have hi' : s + i < c.size := by omega
                    rw [Array.getElem?_eq_getElem hi', Option.map_some, if_pos (by omega)]
                    obtain ⟨u, u1, u2⟩ := cell_flat D (t := i - off) (by omega)
                    rw [show s + i - (s + off) = i - off by omega]
                    rw [u1] at hi
                    cases hi
                    exact ⟨_, rfl, by rw [u2]; exact .int _ _⟩
                  · rename_i hr1
                    obtain ⟨v', k1, k2⟩ := h2 _ _ hi
                    refine ⟨v', ?_, k2⟩
                    rw [k1, Option.map_some, if_neg (by omega)]
                · simp [putCells]; exact h3
              have hw3 := hw2.grow (w' := grow (putRow _root_.id (Go.Sort.ahead w n) b (s + off) (flatK encK 2 D.toArray)) os) ⟨rfl, rfl, rfl, by simp, fun k hk => Go.Sort.heap_grow_old _ _ hk⟩
              exact hw3
            · cases hx
          · cases hx
        · cases hx
      · cases hx
    · cases hx
end Go.AI.Q
