/- Sorting whole numbers by a comparison of one's own. -/
import Derived.Test.YtheiionmocfleaaDoorAIAuto
import Derived.Shelf.GgSortFunc.Insertion
/- Sorting whole numbers by a comparison of one's own: what the library's sort leaves, for the abstract machine. -/
namespace Go.AI
open Go.RowKit (Below)
open Go.Proofs (sortWorld)
open Go.Sort (Holds putRow putCells mapBlock onCells grow)
/-- A list of whole numbers, of a list of values. -/
def ints : List AV → Option (List Int)
  | [] => some []
  | .int .i64 z :: t => match ints t with | some zs => some (z :: zs) | none => none
  | _ :: _ => none
theorem ints_eq : ∀ {l : List AV} {zs : List Int}, ints l = some zs → l = zs.map (AV.int .i64)
  | [], zs, h => by simp [ints] at h; subst h; rfl
  | v :: t, zs, h => by
    unfold ints at h
    split at h
    · rename_i e; cases e
    · rename_i z t' e
      cases e
      split at h
      · rename_i zs' h1
        cases h
        simp [ints_eq h1]
      · cases h
    · cases h
theorem ints_map : ∀ (zs : List Int), ints (zs.map (AV.int .i64)) = some zs
  | [] => rfl
  | z :: t => by simp [ints, ints_map t]
/-- Whole numbers for which the comparison does not overflow. -/
abbrev Lit : Type := {z : Int // -1000000 ≤ z ∧ z ≤ 1000000}
instance : Inhabited Lit := ⟨⟨0, by omega⟩⟩
def encL (x : Lit) : Value := .int .i64 x.1
/-- What the comparison 'cf' makes of 'not after'. -/
def leOf (cf : Int → Int → Int) (x y : Int) : Bool := !decide (cf y x < 0)
/-- 'fs' sorts by the comparison 'fc', which answers 'cf'. -/
structure Sorter (P : Program) (fs fc : FuncId) (cf : Int → Int → Int) : Prop where
  no : ∀ (p : Option Addr) (cap : Nat) (fv : Value) (w : World), Calls P fs #[.slice p 0 cap, fv] w fun e w' => e = .returned (.tuple #[]) ∧ w' = w
  row : ∀ (blk off cap : Nat) (d : Array Lit) (w : World), Holds encL w blk off d → blk < w.heap.size → d.size < 4611686018427387904 →
    Calls P fs #[.slice (some ⟨blk, off, none⟩) d.size cap, .func (.func fc) #[] #[]] w fun e w' => e = .returned (.tuple #[]) ∧ ∃ n os, w' = sortWorld encL w blk off n (d.toList.mergeSort fun x y => leOf cf x.1 y.1).toArray os
/-- By the amount, then by the sign. -/
def cfZ (a b : Int) : Int := if max a (-a) - max b (-b) = 0 then a - b else max a (-a) - max b (-b)
def sortX (fs fc : FuncId) (cf : Int → Int → Int) (next : Oracle) : Oracle := fun f args h => match Nat.beq f fs with
  | false => next f args h
  | true => match args with
    | [.nilSlice, .func _ _] => some (.tuple [], h)
    | [.slice id off len _ _, .func g []] => match h.t.get id with
      | some (.cells cs e false) => match sub cs off len with
        | some r => match ints r with
          | some zs => if g = fc ∧ (∀ z ∈ zs, -1000000 ≤ z ∧ z ≤ 1000000) ∧ zs.length < 4611686018427387904 then some (.tuple [], h.upd id (.cells (lsetMany cs off ((zs.mergeSort (leOf cf)).map (AV.int .i64))) e false)) else none
          | none => none
        | none => none
      | _ => none
    | _ => none
theorem putRow_block {α : Type} [Inhabited α] (enc : α → Value) (w : World) (b o : Nat) (d : Array α) {c : Array Value} {e : TypeId} {fz : Nat × Nat} (h1 : w.heap[b]? = some (.cells c e fz)) : (putRow enc w b o d).heap[b]? = some (.cells (putCells enc o d c) e fz) := by
  simp [putRow, mapBlock, Array.getElem?_modify, h1, onCells]
theorem putRow_other {α : Type} [Inhabited α] (enc : α → Value) (w : World) (b o : Nat) (d : Array α) {k : Nat} (h1 : k ≠ b) : (putRow enc w b o d).heap[k]? = w.heap[k]? := by
  simp only [putRow, mapBlock, Array.getElem?_modify]
  rw [if_neg (by omega)]
theorem sortX_ok {P : Program} {T : Tab} {fs fc : FuncId} {cf : Int → Int → Int} {next : Oracle} {w0 : World} (hS : Sorter P fs fc cf) (hn : OracleOk P T next w0) : OracleOk P T (sortX fs fc cf next) w0 := by
  intro f x args args' h h' v γ w hf hx hw hl
  unfold sortX at hx
  split at hx
  · exact hn f x args args' h h' v γ w hf hx hw hl
  · rename_i hb
    obtain rfl := Nat.eq_of_beq_eq_true hb
    split at hx
    · cases hx
      cases hl with
      | cons a t =>
        cases a
        cases t with
        | cons b t =>
          cases t
          cases b
          exact (hS.no _ _ _ w).mono fun e w' ⟨h1, h2⟩ => ⟨_, γ, h1, Ext.refl _ _, Nat.le_refl _, by rw [h2]; exact hw, .tuple .nil⟩
    · rename_i id off len cx ex g
      split at hx
      · rename_i cs e ho
        split at hx
        · rename_i r hr
          split at hx
          · rename_i zs hz
            split at hx
            · rename_i hc
              obtain ⟨rfl, hall, hlt⟩ := hc
              cases hx
              have hargs : ∃ b s K z cap, γ id = some (b, s, K, z) ∧ args' = [.slice (some ⟨b, s + off, none⟩) len cap, .func (.func g) #[] #[]] := by
                cases hl with
                | cons a t =>
                  cases t with
                  | cons b t =>
                    cases t
                    cases b with
                    | func hcs =>
                      cases hcs
                      cases a with
                      | slice hg => exact ⟨_, _, _, _, _, hg, rfl⟩
                      | grown hg _ _ => exact ⟨_, _, _, _, _, hg, rfl⟩
              obtain ⟨b, s, K, z, cap, hid, rfl⟩ := hargs
              have hown : ownOf h id = some (cs, e) := by unfold ownOf; rw [ho]
              obtain ⟨ho', hz1, hB, c, e', fz, h1, h2, h3, h4, h5⟩ := obj_own hw hown hid
              have hty := obj_type hw ho' hid
              obtain rfl := hty.2.2.same h1
              obtain rfl := ints_eq hz
              obtain ⟨s1, s2, s3⟩ := sub_some hr
              have hlen : zs.length = len := by simpa using s3
              let d : List Lit := zs.pmap (fun z hz => (⟨z, hz⟩ : Lit)) hall
              have dval : d.map (fun x => x.1) = zs := by simp only [d, List.map_pmap]; simp
              have dlen : d.length = len := by rw [← hlen]; simp [d]
              have hcell : ∀ j, (hj : j < d.length) → c[s + off + j]? = some (encL d[j]) := by
                intro j hj
                have hjz : j < zs.length := by omega
                have g1 : cs[off + j]? = some (AV.int .i64 zs[j]) := by
                  have : ((cs.drop off).take len)[j]? = some (AV.int .i64 zs[j]) := by rw [← s2]; simp [hjz]
                  rw [List.getElem?_take_of_lt (by omega), List.getElem?_drop] at this
                  exact this
                obtain ⟨v', g2, g3⟩ := h2 _ _ g1
                cases g3
                rw [show s + off + j = s + (off + j) by omega, g2]
                simp [encL, d]
              have hbl : b < w.heap.size := by
                rcases Nat.lt_or_ge b w.heap.size with hlt' | hge
                · exact hlt'
                · rw [Array.getElem?_eq_none hge] at h1; cases h1
              have hH : Holds encL w b (s + off) d.toArray := by
                intro j hj
                have hj' : j < d.length := by simpa using hj
                have g4 : d.toArray[j]! = d[j] := by rw [getElem!_pos d.toArray j hj]; rfl
                refine ⟨?_, ?_⟩
                · rw [g4]
                  simp only [World.cell?, h1]
                  exact hcell j hj'
                · have := h5 (s + off + j) (by omega) (by omega)
                  simp only [World.frozen?, h1]
                  simpa using this
              have hcon := hS.row b (s + off) cap d.toArray w hH hbl (by simp; omega)
              have e1 : d.toArray.size = len := by simpa using dlen
              rw [e1] at hcon
              refine hcon.mono fun e2 w' ⟨k1, n, os, k2⟩ => ⟨_, γ, k1, Ext.refl _ _, Nat.le_refl _, ?_, .tuple .nil⟩
              subst k2
              let D : List Lit := d.mergeSort fun x y => leOf cf x.1 y.1
              have Dlen : D.length = len := by simp [D, dlen]
              have Dval : D.map (fun x => x.1) = zs.mergeSort (leOf cf) := by
                rw [← dval]
                exact List.map_mergeSort fun _ _ _ _ => rfl
              have hw1 : WRel T γ h w0 (Go.Sort.ahead w n) := hw.same rfl rfl rfl rfl
              have hb1 : (Go.Sort.ahead w n).heap[b]? = some (.cells c e' fz) := h1
              have hw2 : WRel T γ (h.upd id (.cells (lsetMany cs off ((zs.mergeSort (leOf cf)).map (AV.int .i64))) e' false)) w0 (putRow encL (Go.Sort.ahead w n) b (s + off) D.toArray) := by
                refine hw1.update hid ho' (by simp) hB (by simp) (fun k hk => putRow_other encL _ b _ _ hk) rfl rfl rfl ?_
                rw [putRow_block encL _ b _ _ hb1]
                refine ⟨⟨hz1, hty.2.1, ofType_cells⟩, _, _, fz, rfl, fun i v hi => ?_, ?_, by rw [lsetMany_length]; exact h4, fun _ => ⟨hB, h5⟩⟩
                · rw [lsetMany_get _ _ _ (by simp; omega)] at hi
                  simp only [putCells, Array.getElem?_mapIdx]
                  simp only [List.length_map, List.length_mergeSort] at hi
                  have hsz : D.toArray.size = len := by simpa using Dlen
                  rw [hsz]
                  split at hi
                  · rename_i hr1
                    have hi' : s + i < c.size := by omega
                    rw [Array.getElem?_eq_getElem hi', Option.map_some, if_pos (by omega)]
                    have hj : i - off < D.length := by omega
                    have g4 : D.toArray[s + i - (s + off)]! = D[i - off] := by
                      rw [show s + i - (s + off) = i - off by omega, getElem!_pos D.toArray _ (by simpa using hj)]; rfl
                    rw [g4, ← Dval] at *
                    refine ⟨_, rfl, ?_⟩
                    rw [List.map_map, List.getElem?_map, List.getElem?_eq_getElem hj] at hi
                    cases hi
                    exact .int _ _
                  · rename_i hr1
                    obtain ⟨v', k1, k2⟩ := h2 _ _ hi
                    refine ⟨v', ?_, k2⟩
                    rw [k1, Option.map_some, if_neg (by omega)]
                · simp [putCells]; exact h3
              have hw3 := hw2.grow (w' := grow (putRow encL (Go.Sort.ahead w n) b (s + off) D.toArray) os) ⟨rfl, rfl, rfl, by simp, fun k hk => Go.Sort.heap_grow_old _ _ hk⟩
              exact hw3
            · cases hx
          · cases hx
        · cases hx
      · cases hx
    · cases hx
theorem law_runsX {P : Program} (hm : P.follows .mixedOrders = true) {gt : Tree (List AV)} {X : Oracle} {f : FuncId} {args : List AV} {args' : List Value} {h : AH} {γ : Emb} {w : World} (hX : OracleOk P (mkTab P gt) X w)
    (hw : WRel (mkTab P gt) γ h w w) (hl : LRel γ args args') (H : EvF (mkTab P gt) X f args h (fun v _ => v = .bool true)) : Calls P f ⟨args'⟩ w (fun e w' => e = .returned (.bool true) ∧ Go.RowKit.Below w.heap.size w w') := by
  obtain ⟨K, v, h', h1, _, rfl⟩ := H
  refine (acall_sound (tabOk hm) hX (h1 K (Nat.le_refl _)) hw hl).mono fun e w' ⟨v', γ', e1, _, _, h4, h5⟩ => ?_
  cases h5
  exact ⟨e1, h4.below⟩
/-- A row of one's own is sorted in its place. -/
theorem sort_vec {T : Tab} {fs fc : FuncId} {cf : Int → Int → Int} {next : Oracle} {fn : AFunc} (hf : T.ft.get fs = some fn) {G h : AH} {col : Nat → Nat} {c e : Nat} (S : HS G h col) {v : AV} {l : List Int} (V : Vec col c h e 1 v l.length (l.map (AV.int .i64)))
    (hr : ∀ x ∈ l, -1000000 ≤ x ∧ x ≤ 1000000) (hn : l.length ≤ 2 ^ 40) :
    EvF T (sortX fs fc cf next) fs [v, .func fc []] h (fun r h' => r = .tuple [] ∧ Step (fun x => x = c) col h col h' ∧ Vec col c h' e 1 v (l.mergeSort (leOf cf)).length ((l.mergeSort (leOf cf)).map (AV.int .i64))) := by
  have hb : Nat.beq fs fs = true := by simp
  cases l with
  | nil =>
    cases V with
    | nil =>
      refine EvF.oracle (v := .tuple []) (h' := h) hf ?_ (Nat.le_refl _) ⟨rfl, Step.refl S, ?_⟩
      · unfold sortX; rw [hb]
      · simp; exact .nil
    | @mk id _ cap ex _ tail hg hc hn' hx =>
      refine EvF.oracle (v := .tuple []) (h' := h.upd id (.cells (lsetMany ([] ++ tail) 0 (([] : List Int).mergeSort (leOf cf) |>.map (AV.int .i64))) e false)) hf ?_ (Nat.le_refl _) ⟨rfl, upd_step S.wf S.fresh hg hc, ?_⟩
      · unfold sortX; rw [hb]
        simp only [hg]
        have : sub (([] : List Int).map (AV.int .i64) ++ tail) 0 ([] : List Int).length = some [] := by simp [sub]
        simp only [this, ints]
        rw [if_pos ⟨trivial, fun z hz => (nomatch hz), by simp⟩]
        rfl
      · simp
        exact .mk (cs := []) (tail := tail) (by rw [get_upd]; rfl) hc rfl hx
  | cons x0 l0 =>
    have hp : 0 < (x0 :: l0).length := by simp
    generalize x0 :: l0 = l at *
    generalize hN : l.length = N at V hn hp
    generalize hcs : l.map (AV.int .i64) = cs at V
    cases V with
    | nil => omega
    | @mk id _ cap ex _ tail hg hc hn' hx =>
      subst hcs
      subst hN
      refine EvF.oracle (v := .tuple []) (h' := h.upd id (.cells (lsetMany (l.map (AV.int .i64) ++ tail) 0 ((l.mergeSort (leOf cf)).map (AV.int .i64))) e false)) hf ?_ (Nat.le_refl _) ⟨rfl, upd_step S.wf S.fresh hg hc, ?_⟩
      · unfold sortX; rw [hb]
        simp only [hg]
        have : sub (l.map (AV.int .i64) ++ tail) 0 l.length = some (l.map (AV.int .i64)) := by
          unfold sub
          rw [if_pos (by simp)]
          simp
        simp only [this, ints_map]
        rw [if_pos ⟨trivial, hr, by omega⟩]
      · have e1 : lsetMany (l.map (AV.int .i64) ++ tail) 0 ((l.mergeSort (leOf cf)).map (AV.int .i64)) = (l.mergeSort (leOf cf)).map (AV.int .i64) ++ tail := by
          have := lsetMany_append ([] : List AV) (l.map (AV.int .i64) ++ tail) ((l.mergeSort (leOf cf)).map (AV.int .i64)) (by simp)
          simpa using this
        have e2 : (l.mergeSort (leOf cf)).length = l.length := List.length_mergeSort _
        rw [e1, e2]
        refine .mk (get_upd ..) hc (by simp) (fun e => ?_)
        have := hx e
        simpa using this
end Go.AI
/- Sorting whole numbers by a comparison that tells those of the list apart, for the abstract machine. -/
namespace Go.AI
open Go.RowKit (Below)
open Go.Proofs (sortWorld)
open Go.Sort (Holds putRow putCells mapBlock onCells grow)
/-- What is in a list; of an empty one, 0. -/
def InN (zs : List Int) (z : Int) : Prop := z ∈ zs ∨ (zs = [] ∧ z = 0)
abbrev LitN (zs : List Int) : Type := {z : Int // InN zs z}
instance (zs : List Int) : Inhabited (LitN zs) := ⟨match zs with | [] => ⟨0, .inr ⟨rfl, rfl⟩⟩ | z :: _ => ⟨z, .inl (List.mem_cons_self ..)⟩⟩
def encN (zs : List Int) (x : LitN zs) : Value := .int .i64 x.1
/-- The comparison tells the numbers of a list apart. -/
def TellsN (cf : Int → Int → Int) (zs : List Int) : Prop := ∀ x ∈ zs, ∀ y ∈ zs, ¬ cf x y < 0 → ¬ cf y x < 0 → x = y
instance (cf : Int → Int → Int) (zs : List Int) : Decidable (TellsN cf zs) := by unfold TellsN; infer_instance
/-- 'fs' sorts by the comparison 'fc', which answers 'cf'. -/
structure SorterN (P : Program) (fs fc : FuncId) (cf : Int → Int → Int) : Prop where
  no : ∀ (p : Option Addr) (cap : Nat) (fv : Value) (w : World), Calls P fs #[.slice p 0 cap, fv] w fun e w' => e = .returned (.tuple #[]) ∧ w' = w
  row : ∀ (zs : List Int) (_hr : ∀ z ∈ zs, -1000000 ≤ z ∧ z ≤ 1000000) (_ht : TellsN cf zs) (blk off cap : Nat) (d : Array (LitN zs)) (w : World), Holds (encN zs) w blk off d → blk < w.heap.size → d.size < 4611686018427387904 →
    Calls P fs #[.slice (some ⟨blk, off, none⟩) d.size cap, .func (.func fc) #[] #[]] w fun e w' => e = .returned (.tuple #[]) ∧ ∃ n os, w' = sortWorld (encN zs) w blk off n (d.toList.mergeSort fun x y => leOf cf x.1 y.1).toArray os
def sortNX (fs fc : FuncId) (cf : Int → Int → Int) (next : Oracle) : Oracle := fun f args h => match Nat.beq f fs with
  | false => next f args h
  | true => match args with
    | [.nilSlice, .func _ _] => some (.tuple [], h)
    | [.slice id off len _ _, .func g []] => match h.t.get id with
      | some (.cells cs e false) => match sub cs off len with
        | some r => match ints r with
          | some zs => if g = fc ∧ (∀ z ∈ zs, -1000000 ≤ z ∧ z ≤ 1000000) ∧ TellsN cf zs ∧ zs.length < 4611686018427387904 then some (.tuple [], h.upd id (.cells (lsetMany cs off ((zs.mergeSort (leOf cf)).map (AV.int .i64))) e false)) else none
          | none => none
        | none => none
      | _ => none
    | _ => none
theorem sortNX_ok {P : Program} {T : Tab} {fs fc : FuncId} {cf : Int → Int → Int} {next : Oracle} {w0 : World} (hS : SorterN P fs fc cf) (hn : OracleOk P T next w0) : OracleOk P T (sortNX fs fc cf next) w0 := by
  intro f x args args' h h' v γ w hf hx hw hl
  unfold sortNX at hx
  split at hx
  · exact hn f x args args' h h' v γ w hf hx hw hl
  · rename_i hb
    obtain rfl := Nat.eq_of_beq_eq_true hb
    split at hx
    · cases hx
      cases hl with
      | cons a t =>
        cases a
        cases t with
        | cons b t =>
          cases t
          cases b
          exact (hS.no _ _ _ w).mono fun e w' ⟨h1, h2⟩ => ⟨_, γ, h1, Ext.refl _ _, Nat.le_refl _, by rw [h2]; exact hw, .tuple .nil⟩
    · rename_i id off len cx ex g
      split at hx
      · rename_i cs e ho
        split at hx
        · rename_i r hr
          split at hx
          · rename_i zs hz
            split at hx
            · rename_i hc
              obtain ⟨rfl, hall, hap, hlt⟩ := hc
              cases hx
              have hargs : ∃ b s K z cap, γ id = some (b, s, K, z) ∧ args' = [.slice (some ⟨b, s + off, none⟩) len cap, .func (.func g) #[] #[]] := by
                cases hl with
                | cons a t =>
                  cases t with
                  | cons b t =>
                    cases t
                    cases b with
                    | func hcs =>
                      cases hcs
                      cases a with
                      | slice hg => exact ⟨_, _, _, _, _, hg, rfl⟩
                      | grown hg _ _ => exact ⟨_, _, _, _, _, hg, rfl⟩
              obtain ⟨b, s, K, z, cap, hid, rfl⟩ := hargs
              have hown : ownOf h id = some (cs, e) := by unfold ownOf; rw [ho]
              obtain ⟨ho', hz1, hB, c, e', fz, h1, h2, h3, h4, h5⟩ := obj_own hw hown hid
              have hty := obj_type hw ho' hid
              obtain rfl := hty.2.2.same h1
              obtain rfl := ints_eq hz
              obtain ⟨s1, s2, s3⟩ := sub_some hr
              have hlen : zs.length = len := by simpa using s3
              let d : List (LitN zs) := zs.attach.map (fun z => (⟨z.1, Or.inl z.2⟩ : LitN zs))
              have dval : d.map (fun x => x.1) = zs := by simp only [d, List.map_map]; exact List.attach_map_subtype_val zs
              have dlen : d.length = len := by rw [← hlen]; simp [d]
              have hcell : ∀ j, (hj : j < d.length) → c[s + off + j]? = some ((encN zs) d[j]) := by
                intro j hj
                have hjz : j < zs.length := by omega
                have g1 : cs[off + j]? = some (AV.int .i64 zs[j]) := by
                  have : ((cs.drop off).take len)[j]? = some (AV.int .i64 zs[j]) := by rw [← s2]; simp [hjz]
                  rw [List.getElem?_take_of_lt (by omega), List.getElem?_drop] at this
                  exact this
                obtain ⟨v', g2, g3⟩ := h2 _ _ g1
                cases g3
                rw [show s + off + j = s + (off + j) by omega, g2]
                simp [encN, d]
              have hbl : b < w.heap.size := by
                rcases Nat.lt_or_ge b w.heap.size with hlt' | hge
                · exact hlt'
                · rw [Array.getElem?_eq_none hge] at h1; cases h1
              have hH : Holds (encN zs) w b (s + off) d.toArray := by
                intro j hj
                have hj' : j < d.length := by simpa using hj
                have g4 : d.toArray[j]! = d[j] := by rw [getElem!_pos d.toArray j hj]; rfl
                refine ⟨?_, ?_⟩
                · rw [g4]
                  simp only [World.cell?, h1]
                  exact hcell j hj'
                · have := h5 (s + off + j) (by omega) (by omega)
                  simp only [World.frozen?, h1]
                  simpa using this
              have hcon := hS.row zs hall hap b (s + off) cap d.toArray w hH hbl (by simp; omega)
              have e1 : d.toArray.size = len := by simpa using dlen
              rw [e1] at hcon
              refine hcon.mono fun e2 w' ⟨k1, n, os, k2⟩ => ⟨_, γ, k1, Ext.refl _ _, Nat.le_refl _, ?_, .tuple .nil⟩
              subst k2
              let D : List (LitN zs) := d.mergeSort fun x y => leOf cf x.1 y.1
              have Dlen : D.length = len := by simp [D, dlen]
              have Dval : D.map (fun x => x.1) = zs.mergeSort (leOf cf) := by
                have hm : D.map (fun x => x.1) = (d.map (fun x => x.1)).mergeSort (leOf cf) := List.map_mergeSort fun _ _ _ _ => rfl
                rw [dval] at hm
                exact hm
              have hw1 : WRel T γ h w0 (Go.Sort.ahead w n) := hw.same rfl rfl rfl rfl
              have hb1 : (Go.Sort.ahead w n).heap[b]? = some (.cells c e' fz) := h1
              have hw2 : WRel T γ (h.upd id (.cells (lsetMany cs off ((zs.mergeSort (leOf cf)).map (AV.int .i64))) e' false)) w0 (putRow (encN zs) (Go.Sort.ahead w n) b (s + off) D.toArray) := by
                refine hw1.update hid ho' (by simp) hB (by simp) (fun k hk => putRow_other (encN zs) _ b _ _ hk) rfl rfl rfl ?_
                rw [putRow_block (encN zs) _ b _ _ hb1]
                refine ⟨⟨hz1, hty.2.1, ofType_cells⟩, _, _, fz, rfl, fun i v hi => ?_, ?_, by rw [lsetMany_length]; exact h4, fun _ => ⟨hB, h5⟩⟩
                · rw [lsetMany_get _ _ _ (by simp; omega)] at hi
                  simp only [putCells, Array.getElem?_mapIdx]
                  simp only [List.length_map, List.length_mergeSort] at hi
                  have hsz : D.toArray.size = len := by simpa using Dlen
                  rw [hsz]
                  split at hi
                  · rename_i hr1
                    have hi' : s + i < c.size := by omega
                    rw [Array.getElem?_eq_getElem hi', Option.map_some, if_pos (by omega)]
                    have hj : i - off < D.length := by omega
                    have g4 : D.toArray[s + i - (s + off)]! = D[i - off] := by
                      rw [show s + i - (s + off) = i - off by omega, getElem!_pos D.toArray _ (by simpa using hj)]; rfl
                    rw [g4, ← Dval] at *
                    refine ⟨_, rfl, ?_⟩
                    rw [List.map_map, List.getElem?_map, List.getElem?_eq_getElem hj] at hi
                    cases hi
                    exact .int _ _
                  · rename_i hr1
                    obtain ⟨v', k1, k2⟩ := h2 _ _ hi
                    refine ⟨v', ?_, k2⟩
                    rw [k1, Option.map_some, if_neg (by omega)]
                · simp [putCells]; exact h3
              have hw3 := hw2.grow (w' := grow (putRow (encN zs) (Go.Sort.ahead w n) b (s + off) D.toArray) os) ⟨rfl, rfl, rfl, by simp, fun k hk => Go.Sort.heap_grow_old _ _ hk⟩
              exact hw3
            · cases hx
          · cases hx
        · cases hx
      · cases hx
    · cases hx
/-- A row of one's own is sorted in its place. -/
theorem sortN_vec {T : Tab} {fs fc : FuncId} {cf : Int → Int → Int} {next : Oracle} {fn : AFunc} (hf : T.ft.get fs = some fn) {G h : AH} {col : Nat → Nat} {c e : Nat} (S : HS G h col) {v : AV} {l : List Int} (V : Vec col c h e 1 v l.length (l.map (AV.int .i64)))
    (hr : ∀ x ∈ l, -1000000 ≤ x ∧ x ≤ 1000000) (hap : TellsN cf l) (hn : l.length ≤ 2 ^ 40) :
    EvF T (sortNX fs fc cf next) fs [v, .func fc []] h (fun r h' => r = .tuple [] ∧ Step (fun x => x = c) col h col h' ∧ Vec col c h' e 1 v (l.mergeSort (leOf cf)).length ((l.mergeSort (leOf cf)).map (AV.int .i64))) := by
  have hb : Nat.beq fs fs = true := by simp
  cases l with
  | nil =>
    cases V with
    | nil =>
      refine EvF.oracle (v := .tuple []) (h' := h) hf ?_ (Nat.le_refl _) ⟨rfl, Step.refl S, ?_⟩
      · unfold sortNX; rw [hb]
      · simp; exact .nil
    | @mk id _ cap ex _ tail hg hc hn' hx =>
      refine EvF.oracle (v := .tuple []) (h' := h.upd id (.cells (lsetMany ([] ++ tail) 0 (([] : List Int).mergeSort (leOf cf) |>.map (AV.int .i64))) e false)) hf ?_ (Nat.le_refl _) ⟨rfl, upd_step S.wf S.fresh hg hc, ?_⟩
      · unfold sortNX; rw [hb]
        simp only [hg]
        have : sub (([] : List Int).map (AV.int .i64) ++ tail) 0 ([] : List Int).length = some [] := by simp [sub]
        simp only [this, ints]
        rw [if_pos ⟨trivial, fun z hz => (nomatch hz), fun z hz => (nomatch hz), by simp⟩]
        rfl
      · simp
        exact .mk (cs := []) (tail := tail) (by rw [get_upd]; rfl) hc rfl hx
  | cons x0 l0 =>
    have hp : 0 < (x0 :: l0).length := by simp
    generalize x0 :: l0 = l at *
    generalize hN : l.length = N at V hn hp
    generalize hcs : l.map (AV.int .i64) = cs at V
    cases V with
    | nil => omega
    | @mk id _ cap ex _ tail hg hc hn' hx =>
      subst hcs
      subst hN
      refine EvF.oracle (v := .tuple []) (h' := h.upd id (.cells (lsetMany (l.map (AV.int .i64) ++ tail) 0 ((l.mergeSort (leOf cf)).map (AV.int .i64))) e false)) hf ?_ (Nat.le_refl _) ⟨rfl, upd_step S.wf S.fresh hg hc, ?_⟩
      · unfold sortNX; rw [hb]
        simp only [hg]
        have : sub (l.map (AV.int .i64) ++ tail) 0 l.length = some (l.map (AV.int .i64)) := by
          unfold sub
          rw [if_pos (by simp)]
          simp
        simp only [this, ints_map]
        rw [if_pos ⟨trivial, hr, hap, by omega⟩]
      · have e1 : lsetMany (l.map (AV.int .i64) ++ tail) 0 ((l.mergeSort (leOf cf)).map (AV.int .i64)) = (l.mergeSort (leOf cf)).map (AV.int .i64) ++ tail := by
          have := lsetMany_append ([] : List AV) (l.map (AV.int .i64) ++ tail) ((l.mergeSort (leOf cf)).map (AV.int .i64)) (by simp)
          simpa using this
        have e2 : (l.mergeSort (leOf cf)).length = l.length := List.length_mergeSort _
        rw [e1, e2]
        refine .mk (get_upd ..) hc (by simp) (fun e => ?_)
        have := hx e
        simpa using this
end Go.AI
/- Maps of one's own whose keys are whole numbers. -/
namespace Go.AI
variable {T : Tab} {X : Oracle} {G h h1 : AH} {col col1 : Nat → Nat} {R : Nat → Prop} {σ : Nat → AV}
def mget : List (Int × AV) → Int → Option AV
  | [], _ => none
  | p :: m, k => if p.1 = k then some p.2 else mget m k
def mput : List (Int × AV) → Int → AV → List (Int × AV)
  | [], k, v => [(k, v)]
  | p :: m, k, v => if p.1 = k then (k, v) :: m else p :: mput m k v
def mdel : List (Int × AV) → Int → List (Int × AV)
  | [], _ => []
  | p :: m, k => if p.1 = k then m else p :: mdel m k
theorem mget_none : ∀ {m : List (Int × AV)} {k : Int}, mget m k = none ↔ k ∉ m.map (·.1)
  | [], k => by simp [mget]
  | p :: m, k => by
    unfold mget
    split
    · rename_i h; subst h; simp
    · rename_i h
      have h' : ¬ k = p.1 := fun e => h e.symm
      rw [mget_none (m := m)]; simp [h']
theorem mget_mput : ∀ (m : List (Int × AV)) (k : Int) (v : AV) (k' : Int), mget (mput m k v) k' = if k = k' then some v else mget m k'
  | [], k, v, k' => by simp [mput, mget]
  | p :: m, k, v, k' => by
    unfold mput
    split
    · rename_i h
      subst h
      simp only [mget]
      split <;> rfl
    · rename_i h
      simp only [mget, mget_mput m k v k']
      split
      · rename_i h2; subst h2
        rw [if_neg (fun e => h e.symm)]
      · rfl
theorem mput_keys : ∀ (m : List (Int × AV)) (k : Int) (v : AV), (mput m k v).map (·.1) = if k ∈ m.map (·.1) then m.map (·.1) else m.map (·.1) ++ [k]
  | [], k, v => by simp [mput]
  | p :: m, k, v => by
    unfold mput
    split
    · rename_i h; subst h; simp
    · rename_i h
      have h' : ¬ k = p.1 := fun e => h e.symm
      rw [List.map_cons, mput_keys m k v]
      by_cases hk : k ∈ m.map (·.1)
      · rw [if_pos hk, if_pos (by simp only [List.map_cons, List.mem_cons]; exact .inr hk)]; rfl
      · rw [if_neg hk, if_neg (by simp only [List.map_cons, List.mem_cons, not_or]; exact ⟨h', hk⟩)]; rfl
theorem mput_nodup {m : List (Int × AV)} (h : (m.map (·.1)).Nodup) (k : Int) (v : AV) : ((mput m k v).map (·.1)).Nodup := by
  rw [mput_keys]
  split
  · exact h
  · rename_i hk
    rw [List.nodup_append]
    exact ⟨h, by simp, fun a ha b hb e => by simp at hb; subst hb; subst e; exact hk ha⟩
theorem mdel_keys : ∀ (m : List (Int × AV)) (k : Int), (mdel m k).map (·.1) = (m.map (·.1)).erase k
  | [], k => by simp [mdel]
  | p :: m, k => by
    unfold mdel
    split
    · rename_i h; subst h; simp
    · rename_i h
      rw [List.map_cons, List.map_cons, mdel_keys m k, List.erase_cons_tail (by simpa using h)]
theorem mdel_nodup {m : List (Int × AV)} (h : (m.map (·.1)).Nodup) (k : Int) : ((mdel m k).map (·.1)).Nodup := by
  rw [mdel_keys]; exact h.erase k
theorem mget_mdel : ∀ {m : List (Int × AV)} (_ : (m.map (·.1)).Nodup) (k k' : Int), mget (mdel m k) k' = if k = k' then none else mget m k'
  | [], _, k, k' => by simp [mdel, mget]
  | p :: m, h, k, k' => by
    rw [List.map_cons, List.nodup_cons] at h
    unfold mdel
    split
    · rename_i h2; subst h2
      split
      · rename_i h3; subst h3; exact mget_none.2 h.1
      · rename_i h3; simp only [mget]; rw [if_neg h3]
    · rename_i h2
      simp only [mget, mget_mdel h.2 k k']
      split
      · rename_i h3; subst h3; rw [if_neg (fun e => h2 e.symm)]
      · rfl
inductive Ents : List AEntry → List (Int × AV) → Prop
  | nil : Ents [] []
  | cons {e : AEntry} {es : List AEntry} {p : Int × AV} {m : List (Int × AV)} (hk : e.key = .int .i64 p.1) (hv : e.val = p.2) (H : Ents es m) : Ents (e :: es) (p :: m)
theorem Ents.length {es : List AEntry} {m : List (Int × AV)} (H : Ents es m) : es.length = m.length := by
  induction H with
  | nil => rfl
  | cons _ _ _ ih => simp [ih]
theorem Ents.push {es : List AEntry} {m : List (Int × AV)} (H : Ents es m) {k : Int} {v : AV} (c : Nat) (hk : mget m k = none) : Ents (es ++ [{ key := .int .i64 k, val := v, born := c }]) (mput m k v) := by
  induction H with
  | nil => exact .cons rfl rfl .nil
  | @cons e es p m h1 h2 H ih =>
    simp only [mget] at hk
    split at hk
    · cases hk
    · rename_i hn
      unfold mput
      rw [if_neg hn]
      exact .cons h1 h2 (ih hk)
theorem Ents.find {kt : TypeId} {q : IntKind} {k : Int} {es : List AEntry} {m : List (Int × AV)} (H : Ents es m) : ∀ i, (mget m k = none ∧ findkey T (kt, .int q) (.int .i64 k) es i = some none) ∨
    ∃ j v, mget m k = some v ∧ findkey T (kt, .int q) (.int .i64 k) es i = some (some (i + j, v)) ∧ (∀ u, Ents (modEntry (fun e => { e with key := .int .i64 k, val := u }) es j) (mput m k u)) ∧ Ents (es.eraseIdx j) (mdel m k) := by
  induction H with
  | nil => exact fun i => .inl ⟨rfl, rfl⟩
  | @cons e es p m h1 h2 H ih =>
    intro i
    have hs : samekey T (kt, .int q) (.int .i64 k) e.key = some (k == p.1) := by rw [h1]; rfl
    by_cases hk : p.1 = k
    · right
      refine ⟨0, p.2, by simp only [mget]; rw [if_pos hk], ?_, fun u => ?_, ?_⟩
      · simp only [findkey, hs, hk, beq_self_eq_true, h2, Nat.add_zero]
      · simp only [modEntry, mput]; rw [if_pos hk]; exact .cons rfl rfl H
      · simp only [List.eraseIdx_cons_zero, mdel]; rw [if_pos hk]; exact H
    · have hkf : (k == p.1) = false := by rw [beq_eq_false_iff_ne]; exact fun e => hk e.symm
      rcases ih (i + 1) with ⟨g1, g2⟩ | ⟨j, v, g1, g2, g3, g4⟩
      · left
        exact ⟨by simp only [mget]; rw [if_neg hk]; exact g1, by simp only [findkey, hs, hkf]; exact g2⟩
      · right
        refine ⟨j + 1, v, by simp only [mget]; rw [if_neg hk]; exact g1, ?_, fun u => ?_, ?_⟩
        · simp only [findkey, hs, hkf]; rw [g2]; congr 3; omega
        · simp only [modEntry, mput]; rw [if_neg hk]; exact .cons h1 h2 (g3 u)
        · simp only [List.eraseIdx_cons_succ, mdel]; rw [if_neg hk]; exact .cons h1 h2 g4
/-- When each entry came: at times of its own, before now. -/
def Born (es : List AEntry) (clk : Nat) : Prop := (es.map (·.born)).Nodup ∧ ∀ b ∈ es.map (·.born), b < clk
theorem Born.push {es : List AEntry} {clk : Nat} (h : Born es clk) (k v : AV) : Born (es ++ [{ key := k, val := v, born := clk }]) (clk + 1) := by
  obtain ⟨h1, h2⟩ := h
  constructor
  · rw [List.map_append, List.nodup_append]
    exact ⟨h1, by simp, fun a ha b hb e => by simp at hb; subst hb; subst e; exact absurd (h2 _ ha) (Nat.lt_irrefl _)⟩
  · intro b hb
    rw [List.map_append] at hb
    rcases List.mem_append.1 hb with h | h
    · exact Nat.lt_succ_of_lt (h2 b h)
    · simp at h; omega
theorem mod_born {f : AEntry → AEntry} (hf : ∀ e, (f e).born = e.born) : ∀ (es : List AEntry) (i : Nat), (modEntry f es i).map (·.born) = es.map (·.born)
  | [], _ => rfl
  | e :: es, 0 => by simp [modEntry, hf]
  | e :: es, i + 1 => by simp [modEntry, mod_born hf es i]
theorem Born.mod {es : List AEntry} {clk : Nat} (h : Born es clk) {f : AEntry → AEntry} (hf : ∀ e, (f e).born = e.born) (i : Nat) : Born (modEntry f es i) clk := by
  unfold Born; rw [mod_born hf]; exact h
theorem Born.erase {es : List AEntry} {clk : Nat} (h : Born es clk) (i : Nat) : Born (es.eraseIdx i) clk := by
  have hs : ((es.eraseIdx i).map (·.born)).Sublist (es.map (·.born)) := (List.eraseIdx_sublist es i).map _
  exact ⟨h.1.sublist hs, fun b hb => h.2 b (hs.subset hb)⟩
/-- A map of one's own. -/
inductive MapI (col : Nat → Nat) (c : Nat) (h : AH) : AV → List (Int × AV) → Prop
  | mk {r clk : Nat} {es : List AEntry} {m : List (Int × AV)} (hg : h.t.get r = some (.map es clk)) (hc : col r = c) (he : Ents es m) (hn : (m.map (·.1)).Nodup) (hb : Born es clk) : MapI col c h (.map r) m
variable {c : Nat} {mv : AV} {m : List (Int × AV)} {t kt : TypeId} {q : IntKind} {z : AV}
theorem MapI.nodup (M : MapI col c h mv m) : (m.map (·.1)).Nodup := by cases M; assumption
theorem MapI.step (M : MapI col c h mv m) (A : Step R col h col1 h1) (hw : WF h) (hc : ¬ R c) : MapI col1 c h1 mv m := by
  cases M with
  | mk hg hc' he hn hb =>
    obtain ⟨h3, h4⟩ := A.get hw hg (by rw [hc']; exact hc)
    exact .mk h3 (h4.trans hc') he hn hb
theorem MapI.le (M : MapI col c h mv m) (hl : h.le h1) : MapI col c h1 mv m := by
  cases M with
  | mk hg hc he hn hb => exact .mk (hl _ _ hg) hc he hn hb
theorem MapI.new {r : Nat} (hg : h.t.get r = some (.map [] 0)) (hc : col r = c) : MapI col c h (.map r) [] := .mk hg hc .nil (by simp) ⟨by simp, fun b hb => by simp at hb⟩
theorem MapI.look (M : MapI col c h mv m) (hk : ∀ k, keyed T t (.int .i64 k) = some ((kt, .int q), z)) (k : Int) : alookup T h t mv (.int .i64 k) false = some ((mget m k).getD z) := by
  cases M with
  | mk hg hc he hn hb =>
    unfold alookup
    simp only [hk, entriesOf, hg, Option.map_some]
    rcases he.find (T := T) (kt := kt) (q := q) (k := k) 0 with ⟨g1, g2⟩ | ⟨j, v, g1, g2, _⟩
    · simp [g1, g2]
    · simp [g1, g2]
theorem MapI.look2 (M : MapI col c h mv m) (hk : ∀ k, keyed T t (.int .i64 k) = some ((kt, .int q), z)) (k : Int) : alookup T h t mv (.int .i64 k) true = some (.tuple [(mget m k).getD z, .bool (mget m k).isSome]) := by
  cases M with
  | mk hg hc he hn hb =>
    unfold alookup
    simp only [hk, entriesOf, hg, Option.map_some]
    rcases he.find (T := T) (kt := kt) (q := q) (k := k) 0 with ⟨g1, g2⟩ | ⟨j, v, g1, g2, _⟩
    · simp [g1, g2]
    · simp [g1, g2]
theorem MapI.len (M : MapI col c h mv m) {e : TypeId} (ht : descOf T t = .map kt e) : alen T h t mv = some (.int .i64 m.length) := by
  cases M with
  | mk hg hc he hn hb =>
    simp only [alen, ht, entriesOf, hg, he.length]
theorem MapI.put (M : MapI col c h mv m) (hk : ∀ k, keyed T t (.int .i64 k) = some ((kt, .int q), z)) (S : HS G h col) (h0 : c ≠ 0) (k : Int) (u : AV) : ∃ h1, amapUpdate T h t mv (.int .i64 k) u = some h1 ∧ Step (fun x => x = c) col h col h1 ∧ HS G h1 col ∧ MapI col c h1 mv (mput m k u) ∧ h1.next = h.next := by
  cases M with
  | @mk r clk es _ hg hc he hn hb =>
    unfold amapUpdate
    simp only [hk, entriesOf, hg]
    rcases he.find (T := T) (kt := kt) (q := q) (k := k) 0 with ⟨g1, g2⟩ | ⟨j, v, g1, g2, g3, _⟩
    · have A := upd_step (o' := .map (es ++ [{ key := .int .i64 k, val := u, born := clk }]) (clk + 1)) S.wf S.fresh hg hc
      exact ⟨_, by simp only [g2], A, S.step A (fun e => h0 e.symm), .mk (get_upd ..) hc (he.push clk g1) (mput_nodup hn k u) (hb.push _ _), rfl⟩
    · have A := upd_step (o' := .map (modEntry (fun e => { e with key := .int .i64 k, val := u }) es (0 + j)) clk) S.wf S.fresh hg hc
      refine ⟨_, by simp only [g2], A, S.step A (fun e => h0 e.symm), .mk (get_upd ..) hc ?_ (mput_nodup hn k u) (hb.mod (f := fun e => { e with key := .int .i64 k, val := u }) (fun _ => rfl) _), rfl⟩
      rw [Nat.zero_add]; exact g3 u
theorem MapI.del (M : MapI col c h mv m) (hk : ∀ k, keyed T t (.int .i64 k) = some ((kt, .int q), z)) (S : HS G h col) (h0 : c ≠ 0) (k : Int) : ∃ h1, adelete T h t mv (.int .i64 k) = some h1 ∧ Step (fun x => x = c) col h col h1 ∧ HS G h1 col ∧ MapI col c h1 mv (mdel m k) ∧ h1.next = h.next := by
  cases M with
  | @mk r clk es _ hg hc he hn hb =>
    unfold adelete
    simp only [hk, entriesOf, hg]
    rcases he.find (T := T) (kt := kt) (q := q) (k := k) 0 with ⟨g1, g2⟩ | ⟨j, v, g1, g2, _, g4⟩
    · refine ⟨h, by simp only [g2], (Step.refl S).mono (fun _ e => (e : False).elim), S, .mk hg hc ?_ (mdel_nodup hn k) hb, rfl⟩
      have : mdel m k = m := by
        clear he hn hb g2
        induction m with
        | nil => rfl
        | cons p m ih =>
          simp only [mget] at g1
          split at g1
          · cases g1
          · rename_i hp; unfold mdel; rw [if_neg hp, ih g1]
      rw [this]; exact he
    · have A := upd_step (o' := .map (es.eraseIdx (0 + j)) clk) S.wf S.fresh hg hc
      refine ⟨_, by simp only [g2], A, S.step A (fun e => h0 e.symm), .mk (get_upd ..) hc ?_ (mdel_nodup hn k) (hb.erase _), rfl⟩
      rw [Nat.zero_add]; exact g4
theorem EvP.mapPut {mo ko xo : Operand} {u : AV} {k : Int} {Q : AV → AH → Prop} (S : HS G h col) (M : MapI col c h mv m) (h0 : c ≠ 0) (hk : ∀ k, keyed T t (.int .i64 k) = some ((kt, .int q), z)) (hm : evf σ mo = mv) (hko : evf σ ko = .int .i64 k) (hx : evf σ xo = u)
    (H : ∀ h1, Step (fun x => x = c) col h col h1 → HS G h1 col → MapI col c h1 mv (mput m k u) → Q (.tuple []) h1) : EvP T X (.mapUpdate t mo ko xo) σ h Q := by
  obtain ⟨h1, g1, g2, g3, g4, _⟩ := M.put hk S h0 k u
  refine EvP.eff (v := .tuple []) (h' := h1) rfl ?_ g2.nx (H _ g2 g3 g4)
  simp only [feff, hm, hko, hx, g1, rh, Option.map_some]
theorem EvP.mapIns {mo ko xo : Operand} {u : AV} {k : Int} {Q : AV → AH → Prop} (S : HS G h col) (M : MapI col c h mv m) (h0 : c ≠ 0) (hk : ∀ k, keyed T t (.int .i64 k) = some ((kt, .int q), z)) (hm : evf σ mo = mv) (hko : evf σ ko = .int .i64 k) (hx : evf σ xo = u)
    (H : ∀ h1, Step (fun x => x = c) col h col h1 → HS G h1 col → MapI col c h1 mv (mput m k u) → Q (.tuple []) h1) : EvP T X (.insert t mo ko xo) σ h Q := by
  obtain ⟨h1, g1, g2, g3, g4, _⟩ := M.put hk S h0 k u
  refine EvP.eff (v := .tuple []) (h' := h1) rfl ?_ g2.nx (H _ g2 g3 g4)
  simp only [feff, hm, hko, hx, g1, rh, Option.map_some]
theorem EvP.mapDel {cl : Call} {mo ko : Operand} {ts : List TypeId} {k : Int} {Q : AV → AH → Prop} (S : HS G h col) (M : MapI col c h mv m) (h0 : c ≠ 0) (hk : ∀ k, keyed T t (.int .i64 k) = some ((kt, .int q), z)) (hcl : cl.callee = .builtin .delete) (hts : cl.argTypes.toList = t :: ts) (hargs : cl.args.toList = [mo, ko]) (hm : evf σ mo = mv) (hko : evf σ ko = .int .i64 k)
    (H : ∀ h1, Step (fun x => x = c) col h col h1 → HS G h1 col → MapI col c h1 mv (mdel m k) → Q (.tuple []) h1) : EvP T X (.call cl) σ h Q := by
  obtain ⟨h1, g1, g2, g3, g4, _⟩ := M.del hk S h0 k
  refine EvP.eff (v := .tuple []) (h' := h1) (by simp only [kindOf, hcl]) ?_ g2.nx (H _ g2 g3 g4)
  simp only [feff, hcl, hts, hargs, hm, hko, g1, rh, Option.map_some]
/-- An entry that was looked up to be written. -/
structure MapE (col : Nat → Nat) (c : Nat) (h : AH) (mv : AV) (m : List (Int × AV)) (k : Int) (b : Nat) : Prop where
  out : ∃ (r clk : Nat) (es : List AEntry) (i : Nat) (e : AEntry), mv = .map r ∧ h.t.get r = some (.map es clk) ∧ col r = c ∧ Ents es m ∧ (m.map (·.1)).Nodup ∧ Born es clk ∧ es[i]? = some e ∧ e.key = .int .i64 k ∧ e.born = b ∧ mget m k ≠ none
theorem find_at {kt : TypeId} {q : IntKind} {k : Int} {es : List AEntry} {m : List (Int × AV)} (H : Ents es m) {v : AV} (hv : mget m k = some v) : ∀ i, ∃ j e, findkey T (kt, .int q) (.int .i64 k) es i = some (some (i + j, v)) ∧ es[j]? = some e ∧ e.key = .int .i64 k ∧ e.val = v ∧ Ents (modEntry (fun e => { e with key := .int .i64 k }) es j) m := by
  induction H with
  | nil => cases hv
  | @cons e es p m h1 h2 H ih =>
    intro i
    have hs : samekey T (kt, .int q) (.int .i64 k) e.key = some (k == p.1) := by rw [h1]; rfl
    simp only [mget] at hv
    by_cases hk : p.1 = k
    · rw [if_pos hk] at hv
      injection hv with hv
      refine ⟨0, e, ?_, rfl, by rw [h1, hk], by rw [h2, hv], ?_⟩
      · simp only [findkey, hs, hk, beq_self_eq_true, h2, hv, Nat.add_zero]
      · exact .cons (by rw [hk]) h2 H
    · rw [if_neg hk] at hv
      have hkf : (k == p.1) = false := by rw [beq_eq_false_iff_ne]; exact fun e => hk e.symm
      obtain ⟨j, e', g1, g2, g3, g4, g5⟩ := ih hv (i + 1)
      refine ⟨j + 1, e', ?_, g2, g3, g4, .cons h1 h2 g5⟩
      simp only [findkey, hs, hkf]; rw [g1]; congr 3; omega
theorem get_mod {f : AEntry → AEntry} : ∀ {es : List AEntry} {i : Nat} {e : AEntry}, es[i]? = some e → (modEntry f es i)[i]? = some (f e)
  | [], _, _, h => by simp at h
  | x :: es, 0, e, h => by simp at h; subst h; rfl
  | x :: es, i + 1, e, h => by simp [modEntry]; exact get_mod (by simpa using h)
theorem MapI.ent (M : MapI col c h mv m) (hk : ∀ k, keyed T t (.int .i64 k) = some ((kt, .int q), z)) (S : HS G h col) (h0 : c ≠ 0) {k : Int} {v : AV} (hv : mget m k = some v) : ∃ h1 b, amapEntry T h t mv (.int .i64 k) = some (.tuple [v, .int .i64 (b : Nat)], h1) ∧ Step (fun x => x = c) col h col h1 ∧ HS G h1 col ∧ MapE col c h1 mv m k b := by
  cases M with
  | @mk r clk es _ hg hc he hn hb =>
    obtain ⟨j, e, g1, g2, g3, g4, g5⟩ := find_at (T := T) (kt := kt) (q := q) he hv 0
    rw [Nat.zero_add] at g1
    have A := upd_step (o' := .map (modEntry (fun e => { e with key := .int .i64 k }) es j) clk) S.wf S.fresh hg hc
    refine ⟨_, e.born, ?_, A, S.step A (fun e => h0 e.symm), ⟨r, clk, _, j, { e with key := .int .i64 k }, rfl, get_upd .., hc, g5, hn, hb.mod (f := fun e => { e with key := .int .i64 k }) (fun _ => rfl) _, get_mod g2, rfl, rfl, by rw [hv]; exact fun e => nomatch e⟩⟩
    unfold amapEntry
    simp only [hk, entriesOf, hg, g1, lget_eq, g2]
theorem find_born : ∀ {es : List AEntry} (_ : (es.map (·.born)).Nodup) {j : Nat} {e : AEntry}, es[j]? = some e → ∀ i, findBorn (e.born : Int) es i = some (i + j)
  | [], _, _, _, h, _ => by simp at h
  | x :: es, hn, 0, e, h, i => by
    simp at h; subst h
    simp [findBorn]
  | x :: es, hn, j + 1, e, h, i => by
    rw [List.map_cons, List.nodup_cons] at hn
    have h' : es[j]? = some e := by simpa using h
    have hne : x.born ≠ e.born := fun e' => hn.1 (by rw [e']; exact List.mem_map_of_mem (List.mem_of_getElem? h'))
    unfold findBorn
    rw [if_neg (by simp only [beq_iff_eq]; omega), find_born hn.2 h' (i + 1)]
    congr 1; omega
theorem ents_val {es : List AEntry} {m : List (Int × AV)} (H : Ents es m) (hn : (m.map (·.1)).Nodup) {j : Nat} {e : AEntry} {k : Int} (hj : es[j]? = some e) (hk : e.key = .int .i64 k) (u : AV) : Ents (modEntry (fun e => { e with val := u }) es j) (mput m k u) := by
  induction H generalizing j with
  | nil => simp at hj
  | @cons x es p m h1 h2 H ih =>
    rw [List.map_cons, List.nodup_cons] at hn
    cases j with
    | zero =>
      simp at hj; subst hj
      have : p.1 = k := by rw [h1] at hk; injection hk
      unfold mput
      rw [if_pos this]
      exact .cons (by rw [h1, this]) rfl H
    | succ j =>
      have hj' : es[j]? = some e := by simpa using hj
      have hm : k ∈ m.map (·.1) := by
        clear ih hn h1 h2
        induction H generalizing j with
        | nil => simp at hj'
        | @cons y es p' m g1 g2 H ih2 =>
          cases j with
          | zero =>
            simp at hj'; subst hj'
            have : p'.1 = k := by rw [g1] at hk; injection hk
            simp [this]
          | succ j =>
            have := ih2 (j := j) (by simpa using hj') (by simpa using hj')
            simp only [List.map_cons, List.mem_cons]; exact .inr this
      have hne : ¬ p.1 = k := fun e' => hn.1 (by rw [e']; exact hm)
      unfold mput
      rw [if_neg hne]
      exact .cons h1 h2 (ih hn.2 hj')
theorem MapE.put {k : Int} {b : Nat} (M : MapE col c h mv m k b) (S : HS G h col) (h0 : c ≠ 0) (q : IntKind) (u : AV) : ∃ h1, aentryStore h mv (.int q b) u = some h1 ∧ Step (fun x => x = c) col h col h1 ∧ HS G h1 col ∧ MapI col c h1 mv (mput m k u) := by
  obtain ⟨r, clk, es, i, e, rfl, hg, hc, he, hn, hb, hi, hk, rfl, _⟩ := M.out
  have A := upd_step (o' := .map (modEntry (fun e => { e with val := u }) es i) clk) S.wf S.fresh hg hc
  have hf := find_born hb.1 hi 0
  rw [Nat.zero_add] at hf
  refine ⟨_, by simp only [aentryStore, entriesOf, hg, hf], A, S.step A (fun e => h0 e.symm), .mk (get_upd ..) hc (ents_val he hn hi hk u) (mput_nodup hn k u) (hb.mod (f := fun e => { e with val := u }) (fun _ => rfl) _)⟩
theorem EvP.mapEnt {mo ko : Operand} {k : Int} {v : AV} {Q : AV → AH → Prop} (S : HS G h col) (M : MapI col c h mv m) (h0 : c ≠ 0) (hk : ∀ k, keyed T t (.int .i64 k) = some ((kt, .int q), z)) (hm : evf σ mo = mv) (hko : evf σ ko = .int .i64 k) (hv : mget m k = some v)
    (H : ∀ h1 b, Step (fun x => x = c) col h col h1 → HS G h1 col → MapE col c h1 mv m k b → Q (.tuple [v, .int .i64 (b : Nat)]) h1) : EvP T X (.mapEntry t mo ko) σ h Q := by
  obtain ⟨h1, b, g1, g2, g3, g4⟩ := M.ent hk S h0 hv
  refine EvP.eff rfl ?_ g2.nx (H _ _ g2 g3 g4)
  simp only [feff, hm, hko, g1, rb, Option.map_some]
theorem EvP.entSt {mo so xo : Operand} {k : Int} {b : Nat} {qk : IntKind} {u : AV} {Q : AV → AH → Prop} (S : HS G h col) (M : MapE col c h mv m k b) (h0 : c ≠ 0) (hm : evf σ mo = mv) (hso : evf σ so = .int qk b) (hx : evf σ xo = u)
    (H : ∀ h1, Step (fun x => x = c) col h col h1 → HS G h1 col → MapI col c h1 mv (mput m k u) → Q (.tuple []) h1) : EvP T X (.entryStore t mo so xo) σ h Q := by
  obtain ⟨h1, g1, g2, g3, g4⟩ := M.put S h0 qk u
  refine EvP.eff (v := .tuple []) (h' := h1) rfl ?_ g2.nx (H _ g2 g3 g4)
  simp only [feff, hm, hso, hx, g1, rh, Option.map_some]
end Go.AI
