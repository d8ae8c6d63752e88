/- A clause watches two literals. -/
import Derived.Test.YtheiionmocfleaaDoorSaO
namespace Go.Proofs.YtheiionmocfleaaDoor
namespace Pf
namespace Sa
open Go Go.AI Go.Proofs
variable {gt : Tree (List AV)}
/-- One more that watches a literal. -/
def addW (W : List (List Nat)) (l : Int) (k : Nat) : List (List Nat) := W.set (wi l) (W.getD (wi l) [] ++ [k])
theorem addW_len (W : List (List Nat)) (l : Int) (k : Nat) : (addW W l k).length = W.length := by simp [addW]
theorem addW_at {W : List (List Nat)} {l : Int} (h : wi l < W.length) (k j : Nat) : (addW W l k).getD j [] = if j = wi l then W.getD j [] ++ [k] else W.getD j [] := by
  unfold addW
  rw [List.getD_eq_getElem?_getD, List.getElem?_set]
  by_cases e : wi l = j
  · subst e; rw [if_pos rfl, if_pos h, if_pos rfl]; rfl
  · rw [if_neg e, if_neg (fun e' => e e'.symm), List.getD_eq_getElem?_getD]
theorem ixn {n : Nat} {l : Int} (h : ok n l) : 0 ≤ ix l ∧ ix l < 2 * (n : Int) + 2 ∧ (ix l).toNat = wi l := by
  obtain ⟨h0, h1, h2⟩ := h
  unfold wi ix; split <;> omega
-- one more that watches: #1 the state, #2 the literal's place, #3 k
section
variable {G h : AH} {col : Nat → Nat} {n x : Nat} {V : Lay} {S : Sr} {vals : List AV}
theorem lay_spec (C : AtX G h col n V S vals (2 * n + 2)) {k : Nat} (hk : k < S.s.cls.length) (h2 : 2 ≤ (S.s.c k).length) (hoks : ∀ y ∈ S.s.c k, ok n y) (hW : S.s.wat.length = 2 * n + 2) (hb : ∀ j, (S.s.row j).length ≤ 2 ^ 31) :
    EvF (TT gt) X 71 [.ptr V.p 0, .ptr (V.cp.getD k 0) 0] h (fun r h' => r = .tuple [] ∧ ∃ col' rw, Step (fun c => 20 ≤ c) col h col' h' ∧ AtX G h' col' n { V with rw := rw } { S with s := { S.s with wat := addW (addW S.s.wat (S.s.w k 0) k) (S.s.w k 1) k } } vals (2 * n + 2)) := by
  have h0 : 0 < (S.s.c k).length := by omega
  have h1 : 1 < (S.s.c k).length := by omega
  have h0i : (0 : Int) < ((S.s.c k).length : Int) := by omega
  have h1i : (1 : Int) < ((S.s.c k).length : Int) := by omega
  refine EvF.enter rfl rfl rfl ?_
  have hsml := C.sml
  have hmany := C.many
  have hok : ok n ((S.s.c k).getD 0 0) := hoks _ (mem_getD h0)
  have hixn := ixn hok
  have hokr := hok
  obtain ⟨o0, o1, o2⟩ := hokr
  have hOB := Vec.copy C.wat (by omega)
  obtain ⟨uid, uo, hu2, hu3, hu4⟩ := hOB
  have hOB := Vec.copy (C.cli k hk) h0
  obtain ⟨lid, lo, hl2, hl3, hl4⟩ := hOB
  have ho1 := C.obj
  have hco := C.cob k hk
  have hOB := four C.hs.le ho1 hco.1 hl2 hu2
  obtain ⟨GR, gle, gp, gc, gl, gu, keep⟩ := hOB
  have f1 := load1 (T := TT gt) (t := 63) (off := 4) gp rfl rfl rfl
  have f2 := load1 (T := TT gt) (t := 25) (off := 0) gc rfl rfl rfl
  have hOB := Vec.atI (gt := gt) (hl4 GR gl) (i := 0) (by omega) h0i
  obtain ⟨qa, qb, a1, a2⟩ := hOB
  have a2 : aload (TT gt) GR 3 (.ptr qa qb) = some (.int .i64 ((S.s.c k).getD (0 : Int).toNat 0)) := a2
  have q1 := C.wat.veq
  have q2 := (C.cli k hk).veq
  repeat (refine EvC.seq ?_)
  refine EvC.drawnH 3 (GR) (p := [⟨0, false, 0, 3⟩, ⟨1, false, 0, 3⟩, ⟨2, false, 0, 3⟩, ⟨3, false, 0, 3⟩, ⟨4, false, 0, 0⟩, ⟨5, false, 0, 0⟩, ⟨6, false, 0, 0⟩, ⟨7, false, 0, 0⟩, ⟨8, false, 0, 0⟩, ⟨9, false, 0, 0⟩, ⟨11, false, 0, 2⟩, ⟨12, false, 0, 2⟩, ⟨13, false, 0, 2⟩, ⟨14, false, 0, 2⟩, ⟨15, false, 0, 1⟩, ⟨16, false, 0, 1⟩, ⟨17, false, 0, 1⟩, ⟨18, false, 0, 1⟩, ⟨19, false, 0, 1⟩, ⟨20, false, 0, 1⟩, ⟨24, false, 0, 2⟩, ⟨25, false, 0, 2⟩, ⟨10, true, 0, 1⟩, ⟨21, true, 1, 2⟩, ⟨22, false, 2, 2⟩, ⟨23, false, 2, 2⟩, ⟨26, true, 2, 3⟩, ⟨27, false, 3, 3⟩, ⟨28, true, 3, 4⟩]) rfl (by kernel_rfl) (by kernel_rfl) ?_
  generalize hLL : (S.s.c k).getD (0 : Int).toNat 0 = LL at *
  have hLL' : (S.s.c k).getD 0 0 = LL := hLL
  rw [hLL'] at hok hixn o0 o1 o2
  have hOB := C.row (ix LL).toNat (by omega) (by omega)
  obtain ⟨u, hu, VU⟩ := hOB
  have hOB := C.wat.at1 (T := TT gt) (t := 63) (k := .i64) (i := ix LL) rfl rfl rfl rfl (by omega) (by omega)
  obtain ⟨p1, u1, c1, c2, c3⟩ := hOB
  have hu' : u1 = u := by
    rw [hu] at c3; simpa using c3.symm
  subst hu'
  repeat (first | refine EvH.easy1 rfl rfl rfl rfl rfl rfl rfl rfl rfl rfl ?_ | refine EvH.easy1 rfl rfl rfl rfl rfl rfl rfl rfl rfl (by assumption) ?_ | refine EvH.easyG (by assumption) rfl rfl rfl rfl rfl rfl rfl rfl rfl rfl (by first | exact veq_s rfl | assumption) ?_ | refine EvH.easyG (by assumption) rfl rfl rfl rfl rfl rfl rfl rfl rfl (by assumption) (by first | exact veq_s rfl | assumption) ?_)
  refine EvH.new (b := .cells [.ptr (V.cp.getD k 0) 0] 66 false) (mk := .slice 1 1 true) C.hs gle rfl rfl rfl rfl rfl rfl rfl rfl rfl (by simp [oeq, veqs, veq]) (fun h2 id A2 S2 hle gl2 _ oN cid hid => ?_)
  have C2 := C.more A2 S2 hle
  refine EvH.act rfl rfl rfl rfl rfl rfl rfl (EvP.callF rfl rfl rfl rfl (EvF.mono (index_spec LL (by omega)) ?_))
  rintro _ h2 _ ⟨rfl, rfl⟩
  refine ⟨fun _ => gl2, ?_⟩
  refine EvH.act rfl rfl rfl rfl rfl rfl rfl (EvP.callF rfl rfl rfl rfl (EvF.mono (index_spec LL (by omega)) ?_))
  rintro _ h2 _ ⟨rfl, rfl⟩
  refine ⟨fun _ => gl2, ?_⟩
  have c2' : aload (TT gt) h2 62 p1 = some u1 := load_mono (fun i' o' e' => (A2.same i' (C.hs.wf.lt e') (fun e => e)).trans e') c2
  clear c2
  repeat (refine EvH.easy1 rfl rfl rfl rfl rfl rfl rfl rfl rfl (by assumption) ?_)
  have VU2 := VU.step A2 C.hs.wf (fun e => e)
  have hbr : (S.s.row (ix LL).toNat).length ≤ 2 ^ 32 := Nat.le_trans (hb (ix LL).toNat) (by decide)
  (refine EvH.act rfl rfl rfl rfl rfl rfl rfl (EvP.appendC S2 VU2 (by omega) rfl rfl rfl rfl rfl rfl rfl rfl rfl (by decide) rfl rfl (afirst_all oN rfl) rfl (by decide) rfl (by show (((S.s.row (ix LL).toNat).length + 1) * 8 ≤ 70368744177664); omega) (by show (S.s.row (ix LL).toNat).length + 1 ≤ 1099511627776; omega) (fun u2 h3 col3 A3 S3 V3 => ⟨fun _ => ?_, ?_⟩)))
  · refine AH.add_le (keep h3 (fun i' o' e' => S3.le i' o' (hle i' o' e')) (A3.get C2.hs.wf C2.obj ?_).1 (A3.get C2.hs.wf (C2.cob k hk).1 ?_).1 (A3.get C2.hs.wf (A2.get C.hs.wf hl2 (fun e => e)).1 ?_).1 (A3.get C2.hs.wf (A2.get C.hs.wf hu2 (fun e => e)).1 ?_).1) (A3.get C2.hs.wf oN ?_).1
    · rw [C2.cpp]; omega
    · rw [(C2.cob k hk).2]; omega
    · rw [hl3]; omega
    · rw [hu3]; omega
    · rw [cid]; omega
  clear c2' f1 f2
  have VS3 := C2.wat.step A3 C2.hs.wf (by omega)
  repeat (refine EvH.easy1 rfl rfl rfl rfl rfl rfl rfl rfl rfl (by assumption) ?_)
  (refine EvH.act0 rfl rfl rfl rfl rfl rfl (EvP.setV (T := TT gt) (t := 63) (u := u2) S3 VS3 (by decide) rfl rfl rfl (by omega) (by omega) c1 rfl rfl V3.sc.1 V3.sc.2 (fun h4 A4 S4 V4 _ => ⟨fun e => absurd e (by decide), ?_⟩)))
  have C4 := C2.setRow (j := (ix LL).toNat) (by omega) (us := S.s.row (ix LL).toNat ++ [k]) hW (u := u2) A3 (by rw [List.length_append, List.map_append]; exact V3) A4 S4 V4
  have C5 := C4.less (G' := G) hle C.lear
  clear c1
  repeat (first | refine at_normal ?_ | refine EvH.nil ?_)
  have A14 : Step (fun c => 20 ≤ c) col h col3 h4 := ((A2.mono fun c e => e.elim).trans (A3.mono fun c e => by omega)).trans (A4.mono fun c e => by omega)
  have D : AtX G h4 col3 n { V with rw := V.rw.set (ix LL).toNat u2 } { S with s := { S.s with wat := addW S.s.wat LL k } } vals (2 * n + 2) := C5
  have hwl : wi LL < S.s.wat.length := by rw [hW]; exact wi_lt hok
  have hb' : ∀ j, (Ws.row { S.s with wat := addW S.s.wat LL k } j).length ≤ 2 ^ 31 + 1 := fun j => by
    have h8 := hb j
    show ((addW S.s.wat LL k).getD j []).length ≤ _
    rw [addW_at hwl]; split
    · rw [List.length_append]; exact Nat.add_le_add h8 (Nat.le_refl _)
    · exact Nat.le_trans h8 (Nat.le_succ _)
  have hW' : (addW S.s.wat LL k).length = 2 * n + 2 := by rw [addW_len]; exact hW
  have e0 : S.s.w k 0 = LL := hLL'
  rw [e0]
  clear C5 C4 C2 VS3 VU2 V4 V3 A4 A3 A2 S4 S3 S2 gp gc gl gu keep gle hl4 hu4 ho1 hco q1 q2 a1 hok hixn o0 o1 o2 hl2 hl3 hu2 hu3 c3 hbr VU gl2 oN cid hid hu
  clear hb hW hsml hmany hwl hLL'
  have hb := hb'
  have hW := hW'
  clear hb' hW'
  generalize LL = L0 at *
  clear hLL
  have hsml := D.sml
  have hmany := D.many
  have hok : ok n ((S.s.c k).getD 1 0) := hoks _ (mem_getD h1)
  have hixn := ixn hok
  have hokr := hok
  obtain ⟨o0, o1, o2⟩ := hokr
  have hOB := Vec.copy D.wat (by omega)
  obtain ⟨uid, uo, hu2, hu3, hu4⟩ := hOB
  have hOB := Vec.copy (D.cli k hk) h0
  obtain ⟨lid, lo, hl2, hl3, hl4⟩ := hOB
  have ho1 := D.obj
  have hco := D.cob k hk
  have hOB := four D.hs.le ho1 hco.1 hl2 hu2
  obtain ⟨GR, gle, gp, gc, gl, gu, keep⟩ := hOB
  have f1 := load1 (T := TT gt) (t := 63) (off := 4) gp rfl rfl rfl
  have f2 := load1 (T := TT gt) (t := 25) (off := 0) gc rfl rfl rfl
  have hOB := Vec.atI (gt := gt) (hl4 GR gl) (i := 1) (by omega) h1i
  obtain ⟨qa, qb, a1, a2⟩ := hOB
  have a2 : aload (TT gt) GR 3 (.ptr qa qb) = some (.int .i64 ((S.s.c k).getD (1 : Int).toNat 0)) := a2
  have q1 := D.wat.veq
  have q2 := (D.cli k hk).veq
  skip
  refine EvC.drawnH 3 (GR) (p := [⟨0, false, 0, 3⟩, ⟨1, false, 0, 3⟩, ⟨2, false, 0, 3⟩, ⟨3, false, 0, 3⟩, ⟨4, false, 0, 0⟩, ⟨5, false, 0, 0⟩, ⟨6, false, 0, 0⟩, ⟨7, false, 0, 0⟩, ⟨8, false, 0, 0⟩, ⟨9, false, 0, 0⟩, ⟨11, false, 0, 2⟩, ⟨12, false, 0, 2⟩, ⟨13, false, 0, 2⟩, ⟨14, false, 0, 2⟩, ⟨15, false, 0, 1⟩, ⟨16, false, 0, 1⟩, ⟨17, false, 0, 1⟩, ⟨18, false, 0, 1⟩, ⟨19, false, 0, 1⟩, ⟨20, false, 0, 1⟩, ⟨24, false, 0, 2⟩, ⟨25, false, 0, 2⟩, ⟨10, true, 0, 1⟩, ⟨21, true, 1, 2⟩, ⟨22, false, 2, 2⟩, ⟨23, false, 2, 2⟩, ⟨26, true, 2, 3⟩, ⟨27, false, 3, 3⟩, ⟨28, true, 3, 4⟩]) rfl (by kernel_rfl) (by kernel_rfl) ?_
  have e1 : S.s.w k 1 = (S.s.c k).getD (1 : Int).toNat 0 := rfl
  rw [e1]
  generalize hLL : (S.s.c k).getD (1 : Int).toNat 0 = LL at *
  have hLL' : (S.s.c k).getD 1 0 = LL := hLL
  rw [hLL'] at hok hixn o0 o1 o2
  have hOB := D.row (ix LL).toNat (by omega) (by omega)
  obtain ⟨u, hu, VU⟩ := hOB
  have hOB := D.wat.at1 (T := TT gt) (t := 63) (k := .i64) (i := ix LL) rfl rfl rfl rfl (by omega) (by omega)
  obtain ⟨p1, u1, c1, c2, c3⟩ := hOB
  have hu' : u1 = u := by
    rw [hu] at c3; simpa using c3.symm
  subst hu'
  repeat (first | refine EvH.easy1 rfl rfl rfl rfl rfl rfl rfl rfl rfl rfl ?_ | refine EvH.easy1 rfl rfl rfl rfl rfl rfl rfl rfl rfl (by assumption) ?_ | refine EvH.easyG (by assumption) rfl rfl rfl rfl rfl rfl rfl rfl rfl rfl (by first | exact veq_s rfl | assumption) ?_ | refine EvH.easyG (by assumption) rfl rfl rfl rfl rfl rfl rfl rfl rfl (by assumption) (by first | exact veq_s rfl | assumption) ?_)
  refine EvH.new (b := .cells [.ptr (V.cp.getD k 0) 0] 66 false) (mk := .slice 1 1 true) D.hs gle rfl rfl rfl rfl rfl rfl rfl rfl rfl (by simp [oeq, veqs, veq]) (fun h2 id A2 S2 hle gl2 _ oN cid hid => ?_)
  have C2 := D.more A2 S2 hle
  refine EvH.act rfl rfl rfl rfl rfl rfl rfl (EvP.callF rfl rfl rfl rfl (EvF.mono (index_spec LL (by omega)) ?_))
  rintro _ h2 _ ⟨rfl, rfl⟩
  refine ⟨fun _ => gl2, ?_⟩
  refine EvH.act rfl rfl rfl rfl rfl rfl rfl (EvP.callF rfl rfl rfl rfl (EvF.mono (index_spec LL (by omega)) ?_))
  rintro _ h2 _ ⟨rfl, rfl⟩
  refine ⟨fun _ => gl2, ?_⟩
  have c2' : aload (TT gt) h2 62 p1 = some u1 := load_mono (fun i' o' e' => (A2.same i' (D.hs.wf.lt e') (fun e => e)).trans e') c2
  clear c2
  repeat (refine EvH.easy1 rfl rfl rfl rfl rfl rfl rfl rfl rfl (by assumption) ?_)
  have VU2 := VU.step A2 D.hs.wf (fun e => e)
  have hbr : (({ S with s := { S.s with wat := addW S.s.wat L0 k } } : Sr).s.row (ix LL).toNat).length ≤ 2 ^ 32 := Nat.le_trans (hb (ix LL).toNat) (by decide)
  (refine EvH.act rfl rfl rfl rfl rfl rfl rfl (EvP.appendC S2 VU2 (by omega) rfl rfl rfl rfl rfl rfl rfl rfl rfl (by decide) rfl rfl (afirst_all oN rfl) rfl (by decide) rfl (by show (((({ S with s := { S.s with wat := addW S.s.wat L0 k } } : Sr).s.row (ix LL).toNat).length + 1) * 8 ≤ 70368744177664); omega) (by show (({ S with s := { S.s with wat := addW S.s.wat L0 k } } : Sr).s.row (ix LL).toNat).length + 1 ≤ 1099511627776; omega) (fun u2 h3 col3 A3 S3 V3 => ⟨fun _ => ?_, ?_⟩)))
  · refine AH.add_le (keep h3 (fun i' o' e' => S3.le i' o' (hle i' o' e')) (A3.get C2.hs.wf C2.obj ?_).1 (A3.get C2.hs.wf (C2.cob k hk).1 ?_).1 (A3.get C2.hs.wf (A2.get D.hs.wf hl2 (fun e => e)).1 ?_).1 (A3.get C2.hs.wf (A2.get D.hs.wf hu2 (fun e => e)).1 ?_).1) (A3.get C2.hs.wf oN ?_).1
    · rw [C2.cpp]; omega
    · rw [(C2.cob k hk).2]; omega
    · rw [hl3]; omega
    · rw [hu3]; omega
    · rw [cid]; omega
  clear c2' f1 f2
  have VS3 := C2.wat.step A3 C2.hs.wf (by omega)
  repeat (refine EvH.easy1 rfl rfl rfl rfl rfl rfl rfl rfl rfl (by assumption) ?_)
  (refine EvH.act0 rfl rfl rfl rfl rfl rfl (EvP.setV (T := TT gt) (t := 63) (u := u2) S3 VS3 (by decide) rfl rfl rfl (by omega) (by omega) c1 rfl rfl V3.sc.1 V3.sc.2 (fun h4 A4 S4 V4 _ => ⟨fun e => absurd e (by decide), ?_⟩)))
  have C4 := C2.setRow (j := (ix LL).toNat) (by omega) (us := ({ S with s := { S.s with wat := addW S.s.wat L0 k } } : Sr).s.row (ix LL).toNat ++ [k]) hW (u := u2) A3 (by rw [List.length_append, List.map_append]; exact V3) A4 S4 V4
  have C5 := C4.less (G' := G) hle D.lear
  clear c1
  repeat (refine EvH.nil ?_)
  refine end_normal rfl ⟨rfl, _, _, A14.trans (((A2.mono fun c e => e.elim).trans (A3.mono fun c e => by omega)).trans (A4.mono fun c e => by omega)), C5⟩
end
end Sa
end Pf
end Go.Proofs.YtheiionmocfleaaDoor
