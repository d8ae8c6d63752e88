/- Sorting whole numbers by a comparison of one's own. -/
import Derived.Test.YtfjloafebkjadaaGreatDoorAIAuto
import Derived.Shelf.GgSortFunc.Insertion
/- Sorting whole numbers by a comparison of one's own: what the library's sort leaves, for the abstract machine. -/
namespace Go.AI
open Go.RowKit (Below)
open Go.Proofs (sortWorld)
open Go.Sort (Holds putRow putCells mapBlock onCells grow)
/-- A list of whole numbers, of a list of values. -/
def ints : List AV → Option (List Int)
  | [] => some []
  | .int .i64 z :: t => match ints t with | some zs => some (z :: zs) | none => none
  | _ :: _ => none
theorem ints_eq : ∀ {l : List AV} {zs : List Int}, ints l = some zs → l = zs.map (AV.int .i64)
  | [], zs, h => by simp [ints] at h; subst h; rfl
  | v :: t, zs, h => by
    unfold ints at h
    split at h
    · rename_i e; cases e
    · rename_i z t' e
      cases e
      split at h
      · rename_i zs' h1
        cases h
        simp [ints_eq h1]
      · cases h
    · cases h
theorem ints_map : ∀ (zs : List Int), ints (zs.map (AV.int .i64)) = some zs
  | [] => rfl
  | z :: t => by simp [ints, ints_map t]
/-- Whole numbers for which the comparison does not overflow. -/
abbrev Lit : Type := {z : Int // -1000000 ≤ z ∧ z ≤ 1000000}
instance : Inhabited Lit := ⟨⟨0, by omega⟩⟩
def encL (x : Lit) : Value := .int .i64 x.1
/-- What the comparison 'cf' makes of 'not after'. -/
def leOf (cf : Int → Int → Int) (x y : Int) : Bool := !decide (cf y x < 0)
/-- 'fs' sorts by the comparison 'fc', which answers 'cf'. -/
structure Sorter (P : Program) (fs fc : FuncId) (cf : Int → Int → Int) : Prop where
  no : ∀ (p : Option Addr) (cap : Nat) (fv : Value) (w : World), Calls P fs #[.slice p 0 cap, fv] w fun e w' => e = .returned (.tuple #[]) ∧ w' = w
  row : ∀ (blk off cap : Nat) (d : Array Lit) (w : World), Holds encL w blk off d → blk < w.heap.size → d.size < 4611686018427387904 →
    Calls P fs #[.slice (some ⟨blk, off, none⟩) d.size cap, .func (.func fc) #[] #[]] w fun e w' => e = .returned (.tuple #[]) ∧ ∃ n os, w' = sortWorld encL w blk off n (d.toList.mergeSort fun x y => leOf cf x.1 y.1).toArray os
/-- By the amount, then by the sign. -/
def cfZ (a b : Int) : Int := if max a (-a) - max b (-b) = 0 then a - b else max a (-a) - max b (-b)
def sortX (fs fc : FuncId) (cf : Int → Int → Int) (next : Oracle) : Oracle := fun f args h => match Nat.beq f fs with
  | false => next f args h
  | true => match args with
    | [.nilSlice, .func _ _] => some (.tuple [], h)
    | [.slice id off len _ _, .func g []] => match h.t.get id with
      | some (.cells cs e false) => match sub cs off len with
        | some r => match ints r with
          | some zs => if g = fc ∧ (∀ z ∈ zs, -1000000 ≤ z ∧ z ≤ 1000000) ∧ zs.length < 4611686018427387904 then some (.tuple [], h.upd id (.cells (lsetMany cs off ((zs.mergeSort (leOf cf)).map (AV.int .i64))) e false)) else none
          | none => none
        | none => none
      | _ => none
    | _ => none
theorem putRow_block {α : Type} [Inhabited α] (enc : α → Value) (w : World) (b o : Nat) (d : Array α) {c : Array Value} {e : TypeId} {fz : Nat × Nat} (h1 : w.heap[b]? = some (.cells c e fz)) : (putRow enc w b o d).heap[b]? = some (.cells (putCells enc o d c) e fz) := by
  simp [putRow, mapBlock, Array.getElem?_modify, h1, onCells]
theorem putRow_other {α : Type} [Inhabited α] (enc : α → Value) (w : World) (b o : Nat) (d : Array α) {k : Nat} (h1 : k ≠ b) : (putRow enc w b o d).heap[k]? = w.heap[k]? := by
  simp only [putRow, mapBlock, Array.getElem?_modify]
  rw [if_neg (by omega)]
theorem sortX_ok {P : Program} {T : Tab} {fs fc : FuncId} {cf : Int → Int → Int} {next : Oracle} {w0 : World} (hS : Sorter P fs fc cf) (hn : OracleOk P T next w0) : OracleOk P T (sortX fs fc cf next) w0 := by
  intro f x args args' h h' v γ w hf hx hw hl
  unfold sortX at hx
  split at hx
  · exact hn f x args args' h h' v γ w hf hx hw hl
  · rename_i hb
    obtain rfl := Nat.eq_of_beq_eq_true hb
    split at hx
    · cases hx
      cases hl with
      | cons a t =>
        cases a
        cases t with
        | cons b t =>
          cases t
          cases b
          exact (hS.no _ _ _ w).mono fun e w' ⟨h1, h2⟩ => ⟨_, γ, h1, Ext.refl _ _, Nat.le_refl _, by rw [h2]; exact hw, .tuple .nil⟩
    · rename_i id off len cx ex g
      split at hx
      · rename_i cs e ho
        split at hx
        · rename_i r hr
          split at hx
          · rename_i zs hz
            split at hx
            · rename_i hc
              obtain ⟨rfl, hall, hlt⟩ := hc
              cases hx
              have hargs : ∃ b s K z cap, γ id = some (b, s, K, z) ∧ args' = [.slice (some ⟨b, s + off, none⟩) len cap, .func (.func g) #[] #[]] := by
                cases hl with
                | cons a t =>
                  cases t with
                  | cons b t =>
                    cases t
                    cases b with
                    | func hcs =>
                      cases hcs
                      cases a with
                      | slice hg => exact ⟨_, _, _, _, _, hg, rfl⟩
                      | grown hg _ _ => exact ⟨_, _, _, _, _, hg, rfl⟩
              obtain ⟨b, s, K, z, cap, hid, rfl⟩ := hargs
              have hown : ownOf h id = some (cs, e) := by unfold ownOf; rw [ho]
              obtain ⟨ho', hz1, hB, c, e', fz, h1, h2, h3, h4, h5⟩ := obj_own hw hown hid
              have hty := obj_type hw ho' hid
              obtain rfl := hty.2.2.same h1
              obtain rfl := ints_eq hz
              obtain ⟨s1, s2, s3⟩ := sub_some hr
              have hlen : zs.length = len := by simpa using s3
              let d : List Lit := zs.pmap (fun z hz => (⟨z, hz⟩ : Lit)) hall
              have dval : d.map (fun x => x.1) = zs := by simp only [d, List.map_pmap]; simp
              have dlen : d.length = len := by rw [← hlen]; simp [d]
              have hcell : ∀ j, (hj : j < d.length) → c[s + off + j]? = some (encL d[j]) := by
                intro j hj
                have hjz : j < zs.length := by omega
                have g1 : cs[off + j]? = some (AV.int .i64 zs[j]) := by
                  have : ((cs.drop off).take len)[j]? = some (AV.int .i64 zs[j]) := by rw [← s2]; simp [hjz]
                  rw [List.getElem?_take_of_lt (by omega), List.getElem?_drop] at this
                  exact this
                obtain ⟨v', g2, g3⟩ := h2 _ _ g1
                cases g3
                rw [show s + off + j = s + (off + j) by omega, g2]
                simp [encL, d]
              have hbl : b < w.heap.size := by
                rcases Nat.lt_or_ge b w.heap.size with hlt' | hge
                · exact hlt'
                · rw [Array.getElem?_eq_none hge] at h1; cases h1
              have hH : Holds encL w b (s + off) d.toArray := by
                intro j hj
                have hj' : j < d.length := by simpa using hj
                have g4 : d.toArray[j]! = d[j] := by rw [getElem!_pos d.toArray j hj]; rfl
                refine ⟨?_, ?_⟩
                · rw [g4]
                  simp only [World.cell?, h1]
                  exact hcell j hj'
                · have := h5 (s + off + j) (by omega) (by omega)
                  simp only [World.frozen?, h1]
                  simpa using this
              have hcon := hS.row b (s + off) cap d.toArray w hH hbl (by simp; omega)
              have e1 : d.toArray.size = len := by simpa using dlen
              rw [e1] at hcon
              refine hcon.mono fun e2 w' ⟨k1, n, os, k2⟩ => ⟨_, γ, k1, Ext.refl _ _, Nat.le_refl _, ?_, .tuple .nil⟩
              subst k2
              let D : List Lit := d.mergeSort fun x y => leOf cf x.1 y.1
              have Dlen : D.length = len := by simp [D, dlen]
              have Dval : D.map (fun x => x.1) = zs.mergeSort (leOf cf) := by
                rw [← dval]
                exact List.map_mergeSort fun _ _ _ _ => rfl
              have hw1 : WRel T γ h w0 (Go.Sort.ahead w n) := hw.same rfl rfl rfl rfl
              have hb1 : (Go.Sort.ahead w n).heap[b]? = some (.cells c e' fz) := h1
              have hw2 : WRel T γ (h.upd id (.cells (lsetMany cs off ((zs.mergeSort (leOf cf)).map (AV.int .i64))) e' false)) w0 (putRow encL (Go.Sort.ahead w n) b (s + off) D.toArray) := by
                refine hw1.update hid ho' (by simp) hB (by simp) (fun k hk => putRow_other encL _ b _ _ hk) rfl rfl rfl ?_
                rw [putRow_block encL _ b _ _ hb1]
                refine ⟨⟨hz1, hty.2.1, ofType_cells⟩, _, _, fz, rfl, fun i v hi => ?_, ?_, by rw [lsetMany_length]; exact h4, fun _ => ⟨hB, h5⟩⟩
                · rw [lsetMany_get _ _ _ (by simp; omega)] at hi
                  simp only [putCells, Array.getElem?_mapIdx]
                  simp only [List.length_map, List.length_mergeSort] at hi
                  have hsz : D.toArray.size = len := by simpa using Dlen
                  rw [hsz]
                  split at hi
                  · rename_i hr1
                    have hi' : s + i < c.size := by omega
                    rw [Array.getElem?_eq_getElem hi', Option.map_some, if_pos (by omega)]
                    have hj : i - off < D.length := by omega
                    have g4 : D.toArray[s + i - (s + off)]! = D[i - off] := by
                      rw [show s + i - (s + off) = i - off by omega, getElem!_pos D.toArray _ (by simpa using hj)]; rfl
                    rw [g4, ← Dval] at *
                    refine ⟨_, rfl, ?_⟩
                    rw [List.map_map, List.getElem?_map, List.getElem?_eq_getElem hj] at hi
                    cases hi
                    exact .int _ _
                  · rename_i hr1
                    obtain ⟨v', k1, k2⟩ := h2 _ _ hi
                    refine ⟨v', ?_, k2⟩
                    rw [k1, Option.map_some, if_neg (by omega)]
                · simp [putCells]; exact h3
              have hw3 := hw2.grow (w' := grow (putRow encL (Go.Sort.ahead w n) b (s + off) D.toArray) os) ⟨rfl, rfl, rfl, by simp, fun k hk => Go.Sort.heap_grow_old _ _ hk⟩
              exact hw3
            · cases hx
          · cases hx
        · cases hx
      · cases hx
    · cases hx
theorem law_runsX {P : Program} (hm : P.follows .mixedOrders = true) {gt : Tree (List AV)} {X : Oracle} {f : FuncId} {args : List AV} {args' : List Value} {h : AH} {γ : Emb} {w : World} (hX : OracleOk P (mkTab P gt) X w)
    (hw : WRel (mkTab P gt) γ h w w) (hl : LRel γ args args') (H : EvF (mkTab P gt) X f args h (fun v _ => v = .bool true)) : Calls P f ⟨args'⟩ w (fun e w' => e = .returned (.bool true) ∧ Go.RowKit.Below w.heap.size w w') := by
  obtain ⟨K, v, h', h1, _, rfl⟩ := H
  refine (acall_sound (tabOk hm) hX (h1 K (Nat.le_refl _)) hw hl).mono fun e w' ⟨v', γ', e1, _, _, h4, h5⟩ => ?_
  cases h5
  exact ⟨e1, h4.below⟩
/-- A row of one's own is sorted in its place. -/
theorem sort_vec {T : Tab} {fs fc : FuncId} {cf : Int → Int → Int} {next : Oracle} {fn : AFunc} (hf : T.ft.get fs = some fn) {G h : AH} {col : Nat → Nat} {c e : Nat} (S : HS G h col) {v : AV} {l : List Int} (V : Vec col c h e 1 v l.length (l.map (AV.int .i64)))
    (hr : ∀ x ∈ l, -1000000 ≤ x ∧ x ≤ 1000000) (hn : l.length ≤ 2 ^ 40) :
    EvF T (sortX fs fc cf next) fs [v, .func fc []] h (fun r h' => r = .tuple [] ∧ Step (fun x => x = c) col h col h' ∧ Vec col c h' e 1 v (l.mergeSort (leOf cf)).length ((l.mergeSort (leOf cf)).map (AV.int .i64))) := by
  have hb : Nat.beq fs fs = true := by simp
  cases l with
  | nil =>
    cases V with
    | nil =>
      refine EvF.oracle (v := .tuple []) (h' := h) hf ?_ (Nat.le_refl _) ⟨rfl, Step.refl S, ?_⟩
      · unfold sortX; rw [hb]
      · simp; exact .nil
    | @mk id _ cap ex _ tail hg hc hn' hx =>
      refine EvF.oracle (v := .tuple []) (h' := h.upd id (.cells (lsetMany ([] ++ tail) 0 (([] : List Int).mergeSort (leOf cf) |>.map (AV.int .i64))) e false)) hf ?_ (Nat.le_refl _) ⟨rfl, upd_step S.wf S.fresh hg hc, ?_⟩
      · unfold sortX; rw [hb]
        simp only [hg]
        have : sub (([] : List Int).map (AV.int .i64) ++ tail) 0 ([] : List Int).length = some [] := by simp [sub]
        simp only [this, ints]
        rw [if_pos ⟨trivial, fun z hz => (nomatch hz), by simp⟩]
        rfl
      · simp
        exact .mk (cs := []) (tail := tail) (by rw [get_upd]; rfl) hc rfl hx
  | cons x0 l0 =>
    have hp : 0 < (x0 :: l0).length := by simp
    generalize x0 :: l0 = l at *
    generalize hN : l.length = N at V hn hp
    generalize hcs : l.map (AV.int .i64) = cs at V
    cases V with
    | nil => omega
    | @mk id _ cap ex _ tail hg hc hn' hx =>
      subst hcs
      subst hN
      refine EvF.oracle (v := .tuple []) (h' := h.upd id (.cells (lsetMany (l.map (AV.int .i64) ++ tail) 0 ((l.mergeSort (leOf cf)).map (AV.int .i64))) e false)) hf ?_ (Nat.le_refl _) ⟨rfl, upd_step S.wf S.fresh hg hc, ?_⟩
      · unfold sortX; rw [hb]
        simp only [hg]
        have : sub (l.map (AV.int .i64) ++ tail) 0 l.length = some (l.map (AV.int .i64)) := by
          unfold sub
          rw [if_pos (by simp)]
          simp
        simp only [this, ints_map]
        rw [if_pos ⟨trivial, hr, by omega⟩]
      · have e1 : lsetMany (l.map (AV.int .i64) ++ tail) 0 ((l.mergeSort (leOf cf)).map (AV.int .i64)) = (l.mergeSort (leOf cf)).map (AV.int .i64) ++ tail := by
          have := lsetMany_append ([] : List AV) (l.map (AV.int .i64) ++ tail) ((l.mergeSort (leOf cf)).map (AV.int .i64)) (by simp)
          simpa using this
        have e2 : (l.mergeSort (leOf cf)).length = l.length := List.length_mergeSort _
        rw [e1, e2]
        refine .mk (get_upd ..) hc (by simp) (fun e => ?_)
        have := hx e
        simpa using this
end Go.AI
