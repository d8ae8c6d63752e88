/- Two items change places. -/
import Derived.Test.YtohlmbbmeknfiaaQa
namespace Go.Proofs.Ytohlmbbmeknfiaa
namespace Pf
open Go Go.AI Go.AI.Q Go.Proofs
variable {gt : Tree (List AV)}
/-- No object has a colour of passing objects. -/
def Free (col : Nat → Nat) : Prop := ∀ i, col i ≠ 8 ∧ col i ≠ 9
set_option maxHeartbeats 4000000 in
theorem swap_spec {G h : AH} {col : Nat → Nat} {p : Nat} {hv mv : AV} {hp : List It} {m : List (Int × AV)} (q : QAt G h col p hv mv hp m) (fr : Free col) {i j : Nat} (hi : i < hp.length) (hj : j < hp.length) :
    EvF (TT gt) X 40 [.ptr p 0, .int .i64 i, .int .i64 j] h (fun r h' => Step R3 col h col h' ∧ ∃ m', QAt G h' col p hv mv (swapL hp i j) m') := by
  have hs := q.sml
  have fq := q.fld (gt := gt) (t := 51) (off := 1) rfl rfl rfl
  have hOB := q.heap.at_ (T := TT gt) (t := 51) (t3 := 3) rfl rfl rfl rfl rfl rfl (k := .i64) (i := (i : Int)) (by omega) (by omega)
  obtain ⟨id, a1, a2, _, _⟩ := hOB
  have hOB := q.heap.at_ (T := TT gt) (t := 51) (t3 := 3) rfl rfl rfl rfl rfl rfl (k := .i64) (i := (j : Int)) (by omega) (by omega)
  obtain ⟨id', b1, b2, _, _⟩ := hOB
  rw [Int.toNat_natCast] at a1 a2 b1 b2
  have hGG : h.le h := fun _ _ e => e
  have vhv : veq hv hv = true := Vec.veq q.heap
  refine EvF.enter rfl rfl rfl ?_
  repeat (refine EvC.seq ?_)
  refine EvC.drawnH 1 (h) (p := [⟨0, false, 0, 0⟩, ⟨1, false, 0, 0⟩, ⟨2, false, 0, 0⟩, ⟨3, false, 0, 0⟩, ⟨4, false, 0, 0⟩, ⟨5, false, 0, 0⟩, ⟨6, false, 0, 0⟩, ⟨7, false, 0, 1⟩, ⟨8, false, 0, 1⟩, ⟨9, false, 0, 1⟩, ⟨10, false, 0, 1⟩, ⟨11, false, 0, 1⟩, ⟨12, false, 0, 1⟩, ⟨13, false, 0, 1⟩, ⟨14, false, 0, 0⟩, ⟨15, false, 0, 0⟩, ⟨16, true, 0, 1⟩, ⟨17, true, 1, 2⟩]) rfl (by kernel_rfl) (by kernel_rfl) ?_
  repeat (first | refine EvH.easy1 rfl rfl rfl rfl rfl rfl rfl rfl rfl rfl ?_ | refine EvH.easy1 rfl rfl rfl rfl rfl rfl rfl rfl rfl (by assumption) ?_ | refine EvH.easyG (by assumption) rfl rfl rfl rfl rfl rfl rfl rfl rfl rfl (by first | exact veq_s rfl | assumption) ?_ | refine EvH.easyG (by assumption) rfl rfl rfl rfl rfl rfl rfl rfl rfl (by assumption) (by first | exact veq_s rfl | assumption) ?_)
  refine EvH.quietG hGG rfl rfl rfl rfl rfl rfl rfl rfl b2 (veq_it _) ?_
  refine EvH_newC (b := .cells (itC z) 60 false) (mk := .ptr) q.hs 8 (by decide) rfl rfl rfl rfl rfl rfl rfl rfl rfl (fun h1 i6 col1 A1 S1 o6 c6 n6 => ?_)
  refine EvH_newC (b := .cells (itC z) 60 false) (mk := .ptr) S1 9 (by decide) rfl rfl rfl rfl rfl rfl rfl rfl rfl (fun h2 i7 col2 A2 S2 o7 c7 n7 => ?_)
  have hOB := A2.get S1.wf o6 (by rw [c6]; decide)
  obtain ⟨o6, c6'⟩ := hOB
  have c6 := c6'.trans c6
  (refine EvH.act0 rfl rfl rfl rfl rfl rfl (EvP.storeC (v := .agg (itC (at' hp i))) S2 8 o6 c6 (by decide) rfl rfl rfl rfl rfl (by show 0 + 2 ≤ 2; decide) (fun h3 A3 S3 o6' _ _ => ⟨fun _ => Step.le' (R := fun c => c = 8 ∨ c = 9) (((A1.mono fun _ e => .inl e).trans (A2.mono fun _ e => .inr e)).trans (A3.mono fun _ e => .inl e)) q.hs.wf (fun i e => by rcases e with e | e; exact (fr i).1 e; exact (fr i).2 e), ?_⟩)))
  have hOB := A3.get S2.wf o7 (by rw [c7]; decide)
  obtain ⟨o7, c7'⟩ := hOB
  have c7 := c7'.trans c7
  (refine EvH.act0 rfl rfl rfl rfl rfl rfl (EvP.storeC (v := .agg (itC (at' hp j))) S3 9 o7 c7 (by decide) rfl rfl rfl rfl rfl (by show 0 + 2 ≤ 2; decide) (fun h4 A4 S4 o7' _ _ => ⟨fun e => absurd e (by decide), ?_⟩)))
  have o6 := (A4.get S3.wf o6' (by rw [c6]; decide)).1
  have o6 : h4.t.get i6 = some (.cells (itC (at' hp i)) 60 false) := o6
  have o7 : h4.t.get i7 = some (.cells (itC (at' hp j)) 60 false) := o7'
  have B4 : Step (fun c => c = 8 ∨ c = 9) col h col2 h4 := (((A1.mono fun _ e => .inl e).trans (A2.mono fun _ e => .inr e)).trans (A3.mono fun _ e => .inl e)).trans (A4.mono fun _ e => .inr e)
  have D4 : Step (fun _ => False) col h col h4 := Step.drop q.hs B4 (fun i e => by rcases e with e | e; exact (fr i).1 e; exact (fr i).2 e)
  have T4 := q.hs.step D4 (fun e => e)
  have z6 : col i6 = 0 := q.hs.fresh _ n6
  have z7 : col i7 = 0 := q.hs.fresh _ (Nat.le_trans A1.nx n7)
  have T5 := (T4.add o6 z6).add o7 z7
  have hne : i6 ≠ i7 := fun e => by rw [e, c7] at c6; cases c6
  have G6 : ((G.add i6 (.cells (itC (at' hp i)) 60 false)).add i7 (.cells (itC (at' hp j)) 60 false)).t.get i6 = some (.cells (itC (at' hp i)) 60 false) := by rw [AH.get_add_ne hne]; exact AH.get_add ..
  have q4 := q.other D4 (fun _ e => e.elim) T5
  have hle : G.le ((G.add i6 (.cells (itC (at' hp i)) 60 false)).add i7 (.cells (itC (at' hp j)) 60 false)) := AH.le.trans' (T4.le_add o6) ((T4.add o6 z6).le_add o7)
  generalize ((G.add i6 (.cells (itC (at' hp i)) 60 false)).add i7 (.cells (itC (at' hp j)) 60 false)) = G5 at *
  clear A1 A2 A3 A4 S1 S2 S3 S4 fq a2 b2 hGG T4 T5 o6' o7' c6' c7'
  have hG4 := q4.hs.le
  have f6 := loadAgg (T := TT gt) (t := 60) (off := 0) (n := 2) (r := itC (at' hp i)) G6 rfl rfl
  have f7 := loadAgg (T := TT gt) (t := 60) (off := 0) (n := 2) (r := itC (at' hp j)) o7 rfl rfl
  have fq := q4.fld (gt := gt) (t := 51) (off := 1) rfl rfl rfl
  repeat (first | refine EvC.seq ?_ | refine at_normal ?_ | refine EvH.nil ?_)
  refine EvC.drawnH 1 (G5) (p := [⟨0, false, 0, 0⟩, ⟨1, false, 0, 0⟩, ⟨2, false, 0, 0⟩, ⟨3, false, 0, 0⟩, ⟨4, false, 0, 0⟩, ⟨5, false, 0, 0⟩, ⟨6, false, 0, 0⟩, ⟨7, false, 0, 0⟩, ⟨8, false, 0, 0⟩, ⟨9, false, 0, 1⟩, ⟨10, false, 0, 0⟩, ⟨11, false, 0, 1⟩, ⟨12, false, 0, 0⟩, ⟨13, true, 0, 1⟩, ⟨14, false, 1, 1⟩, ⟨15, true, 1, 2⟩]) rfl (by kernel_rfl) (by kernel_rfl) ?_
  repeat (first | refine EvH.easy1 rfl rfl rfl rfl rfl rfl rfl rfl rfl rfl ?_ | refine EvH.easy1 rfl rfl rfl rfl rfl rfl rfl rfl rfl (by assumption) ?_ | refine EvH.easyG (by assumption) rfl rfl rfl rfl rfl rfl rfl rfl rfl rfl (by first | exact veq_s rfl | assumption) ?_)
  refine EvH.quietG hG4 rfl rfl rfl rfl rfl rfl rfl rfl f6 (veq_it _) ?_
  repeat (refine EvH.easy1 rfl rfl rfl rfl rfl rfl rfl rfl rfl (by assumption) ?_)
  (refine EvH.act0 rfl rfl rfl rfl rfl rfl (EvP.setItem q4.hs q4.heap (by decide) rfl rfl rfl hi a1 rfl rfl (fun h5 A5 S5 V5 _ => ⟨fun _ => S5.le, ?_⟩)))
  clear fq f7
  repeat (refine EvH.easy1 rfl rfl rfl rfl rfl rfl rfl rfl rfl (by assumption) ?_)
  (refine EvH.act0 rfl rfl rfl rfl rfl rfl (EvP.setItem S5 V5 (by decide) rfl rfl rfl (by rw [List.length_set]; exact hj) b1 rfl rfl (fun h6 A6 S6 V6 _ => ⟨fun e => absurd e (by decide), ?_⟩)))
  have A56 := A5.trans A6
  have q6 : ∀ {m}, MapI col 3 h6 mv m → Pos (swapL hp i j) m → QAt G5 h6 col p hv mv (swapL hp i j) m := fun M P => ⟨S6, (A56.get q4.hs.wf q4.obj (by rw [q4.cp]; decide)).1, q4.cp, V6, M, P, by rw [swap_len]; exact hs⟩
  have M6 := q4.map.step A56 q4.hs.wf (by decide)
  have ob6 := (A56.get q4.hs.wf q4.obj (by rw [q4.cp]; decide)).1
  have hG6 := S6.le
  have f7 := load1 (T := TT gt) (t := 3) (off := 1) ((A56.get q4.hs.wf o7 (by rw [z7]; decide)).1) rfl rfl rfl
  have f6' := load1 (T := TT gt) (t := 3) (off := 1) G6 rfl rfl rfl
  have fm := load1 (T := TT gt) (t := 26) (off := 2) ob6 rfl rfl rfl
  clear f6 hG4 a1 b1
  repeat (first | refine at_normal ?_ | refine EvH.nil ?_)
  refine EvC.drawnH 3 (G5) (p := [⟨0, false, 0, 0⟩, ⟨1, false, 0, 0⟩, ⟨2, false, 0, 0⟩, ⟨3, false, 0, 0⟩, ⟨4, false, 0, 0⟩, ⟨5, false, 0, 0⟩, ⟨6, false, 0, 0⟩, ⟨7, false, 0, 0⟩, ⟨8, false, 0, 0⟩, ⟨9, false, 0, 0⟩, ⟨10, false, 0, 2⟩, ⟨11, false, 0, 2⟩, ⟨12, false, 0, 1⟩, ⟨13, false, 0, 3⟩, ⟨14, true, 0, 1⟩, ⟨15, false, 1, 1⟩, ⟨16, true, 1, 2⟩, ⟨17, true, 2, 3⟩, ⟨18, false, 3, 3⟩, ⟨19, true, 3, 4⟩]) rfl (by kernel_rfl) (by kernel_rfl) ?_
  repeat (first | refine EvH.easy1 rfl rfl rfl rfl rfl rfl rfl rfl rfl rfl ?_ | refine EvH.easy1 rfl rfl rfl rfl rfl rfl rfl rfl rfl (by assumption) ?_ | refine EvH.easyG (by assumption) rfl rfl rfl rfl rfl rfl rfl rfl rfl rfl (by first | exact veq_s rfl | assumption) ?_ | refine EvH.easyG (by assumption) rfl rfl rfl rfl rfl rfl rfl rfl rfl (by assumption) (by first | exact veq_s rfl | assumption) ?_)
  (refine EvH.act rfl rfl rfl rfl rfl rfl rfl (EvP.mapEnt S6 M6 (by decide) keyed_map rfl rfl (q.pos.here j hj) (fun h7 b7 A7 S7 M7 => ⟨fun _ => S7.le, ?_⟩)))
  repeat (refine EvH.easy1 rfl rfl rfl rfl rfl rfl rfl rfl rfl rfl ?_)
  (refine EvH.act0 rfl rfl rfl rfl rfl rfl (EvP.entSt S7 M7 (by decide) rfl rfl rfl (fun h8 A8 S8 M8 => ⟨fun _ => S8.le, ?_⟩)))
  have hga : ∃ v, mget (mput m (at' hp j).2 (.int .i64 i)) (at' hp i).2 = some v := by
    rw [mget_mput]
    split
    · exact ⟨_, rfl⟩
    · exact ⟨_, q.pos.here i hi⟩
  obtain ⟨v8, hga⟩ := hga
  (refine EvH.act rfl rfl rfl rfl rfl rfl rfl (EvP.mapEnt S8 M8 (by decide) keyed_map rfl rfl hga (fun h9 b9 A9 S9 M9 => ⟨fun _ => S9.le, ?_⟩)))
  repeat (refine EvH.easy1 rfl rfl rfl rfl rfl rfl rfl rfl rfl rfl ?_)
  (refine EvH.act0 rfl rfl rfl rfl rfl rfl (EvP.entSt S9 M9 (by decide) rfl rfl rfl (fun h10 A10 S10 M10 => ⟨fun e => absurd e (by decide), ?_⟩)))
  have A := ((A7.trans A8).trans A9).trans A10
  have C := (A56.mono (R' := R3) (fun _ e => .inr (.inl e))).trans (A.mono (fun _ e => .inr (.inr e)))
  repeat (refine EvH.nil ?_)
  refine end_normal rfl ⟨(D4.mono fun _ e => e.elim).trans C, _, ⟨S10.down hle, (A.get S6.wf ob6 (by rw [q4.cp]; decide)).1, q4.cp, V6.step A S6.wf (by decide), M10, q.pos.swap hi hj, by rw [swap_len]; exact hs⟩⟩
end Pf
end Go.Proofs.Ytohlmbbmeknfiaa
