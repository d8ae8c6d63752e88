/- A clause watches two literals; a clause more. -/
import Derived.Test.YtfjloafebkjadaaGreatDoorSaN
namespace Go.Proofs.YtfjloafebkjadaaGreatDoor
namespace Pf
namespace Sa
open Go Go.AI Go.Proofs
variable {gt : Tree (List AV)}
/-- One more that watches a literal. -/
def addW (W : List (List Nat)) (l : Int) (k : Nat) : List (List Nat) := W.set (wi l) (W.getD (wi l) [] ++ [k])
theorem addW_len (W : List (List Nat)) (l : Int) (k : Nat) : (addW W l k).length = W.length := by simp [addW]
theorem addW_at {W : List (List Nat)} {l : Int} (h : wi l < W.length) (k j : Nat) : (addW W l k).getD j [] = if j = wi l then W.getD j [] ++ [k] else W.getD j [] := by
  unfold addW
  rw [List.getD_eq_getElem?_getD, List.getElem?_set]
  by_cases e : wi l = j
  · subst e; rw [if_pos rfl, if_pos h, if_pos rfl]; rfl
  · rw [if_neg e, if_neg (fun e' => e e'.symm), List.getD_eq_getElem?_getD]
theorem ixn {n : Nat} {l : Int} (h : ok n l) : 0 ≤ ix l ∧ ix l < 2 * (n : Int) + 2 ∧ (ix l).toNat = wi l := by
  obtain ⟨h0, h1, h2⟩ := h
  unfold wi ix; split <;> omega
-- one more that watches: #1 the state, #2 the literal's place, #3 k
section
variable {G h : AH} {col : Nat → Nat} {n x : Nat} {V : Lay} {S : Sr} {vals : List AV}
theorem lay_spec (C : AtX G h col n V S vals (2 * n + 2)) {k : Nat} (hk : k < S.s.cls.length) (h2 : 2 ≤ (S.s.c k).length) (hoks : ∀ y ∈ S.s.c k, ok n y) (hW : S.s.wat.length = 2 * n + 2) (hb : ∀ j, (S.s.row j).length ≤ 2 ^ 31) :
    EvF (TT gt) X 107 [.ptr V.p 0, .ptr (V.cp.getD k 0) 0] h (fun r h' => r = .tuple [] ∧ ∃ col' rw, Step (fun c => 20 ≤ c) col h col' h' ∧ AtX G h' col' n { V with rw := rw } { S with s := { S.s with wat := addW (addW S.s.wat (S.s.w k 0) k) (S.s.w k 1) k } } vals (2 * n + 2)) := by
  have h0 : 0 < (S.s.c k).length := by omega
  have h1 : 1 < (S.s.c k).length := by omega
  have h0i : (0 : Int) < ((S.s.c k).length : Int) := by omega
  have h1i : (1 : Int) < ((S.s.c k).length : Int) := by omega
  refine EvF.enter rfl rfl rfl ?_
  have hsml := C.sml
  have hmany := C.many
  have hok : ok n ((S.s.c k).getD 0 0) := hoks _ (mem_getD h0)
  have hixn := ixn hok
  have hokr := hok
  obtain ⟨o0, o1, o2⟩ := hokr
  have hOB := Vec.copy C.wat (by omega)
  obtain ⟨uid, uo, hu2, hu3, hu4⟩ := hOB
  have hOB := Vec.copy (C.cli k hk) h0
  obtain ⟨lid, lo, hl2, hl3, hl4⟩ := hOB
  have ho1 := C.obj
  have hco := C.cob k hk
  have hOB := four C.hs.le ho1 hco.1 hl2 hu2
  obtain ⟨GR, gle, gp, gc, gl, gu, keep⟩ := hOB
  have f1 := load1 (T := TT gt) (t := 119) (off := 4) gp rfl rfl rfl
  have f2 := load1 (T := TT gt) (t := 35) (off := 0) gc rfl rfl rfl
  have hOB := Vec.atI (gt := gt) (hl4 GR gl) (i := 0) (by omega) h0i
  obtain ⟨qa, qb, a1, a2⟩ := hOB
  have a2 : aload (TT gt) GR 3 (.ptr qa qb) = some (.int .i64 ((S.s.c k).getD (0 : Int).toNat 0)) := a2
  have q1 := C.wat.veq
  have q2 := (C.cli k hk).veq
  repeat (refine EvC.seq ?_)
  refine EvC.drawnH 3 (GR) (p := [⟨0, false, 0, 3⟩, ⟨1, false, 0, 3⟩, ⟨2, false, 0, 3⟩, ⟨3, false, 0, 3⟩, ⟨4, false, 0, 0⟩, ⟨5, false, 0, 0⟩, ⟨6, false, 0, 0⟩, ⟨7, false, 0, 0⟩, ⟨8, false, 0, 0⟩, ⟨9, false, 0, 0⟩, ⟨11, false, 0, 2⟩, ⟨12, false, 0, 2⟩, ⟨13, false, 0, 2⟩, ⟨14, false, 0, 2⟩, ⟨15, false, 0, 1⟩, ⟨16, false, 0, 1⟩, ⟨17, false, 0, 1⟩, ⟨18, false, 0, 1⟩, ⟨19, false, 0, 1⟩, ⟨20, false, 0, 1⟩, ⟨24, false, 0, 2⟩, ⟨25, false, 0, 2⟩, ⟨10, true, 0, 1⟩, ⟨21, true, 1, 2⟩, ⟨22, false, 2, 2⟩, ⟨23, false, 2, 2⟩, ⟨26, true, 2, 3⟩, ⟨27, false, 3, 3⟩, ⟨28, true, 3, 4⟩]) rfl (by kernel_rfl) (by kernel_rfl) ?_
  generalize hLL : (S.s.c k).getD (0 : Int).toNat 0 = LL at *
  have hLL' : (S.s.c k).getD 0 0 = LL := hLL
  rw [hLL'] at hok hixn o0 o1 o2
  have hOB := C.row (ix LL).toNat (by omega) (by omega)
  obtain ⟨u, hu, VU⟩ := hOB
  have hOB := C.wat.at1 (T := TT gt) (t := 119) (k := .i64) (i := ix LL) rfl rfl rfl rfl (by omega) (by omega)
  obtain ⟨p1, u1, c1, c2, c3⟩ := hOB
  have hu' : u1 = u := by
    rw [hu] at c3; simpa using c3.symm
  subst hu'
  repeat (first | refine EvH.easy1 rfl rfl rfl rfl rfl rfl rfl rfl rfl rfl ?_ | refine EvH.easy1 rfl rfl rfl rfl rfl rfl rfl rfl rfl (by assumption) ?_ | refine EvH.easyG (by assumption) rfl rfl rfl rfl rfl rfl rfl rfl rfl rfl (by first | exact veq_s rfl | assumption) ?_ | refine EvH.easyG (by assumption) rfl rfl rfl rfl rfl rfl rfl rfl rfl (by assumption) (by first | exact veq_s rfl | assumption) ?_)
  refine EvH.new (b := .cells [.ptr (V.cp.getD k 0) 0] 149 false) (mk := .slice 1 1 true) C.hs gle rfl rfl rfl rfl rfl rfl rfl rfl rfl (by simp [oeq, veqs, veq]) (fun h2 id A2 S2 hle gl2 _ oN cid hid => ?_)
  have C2 := C.more A2 S2 hle
  refine EvH.act rfl rfl rfl rfl rfl rfl rfl (EvP.callF rfl rfl rfl rfl (EvF.mono (index_spec LL (by omega)) ?_))
  rintro _ h2 _ ⟨rfl, rfl⟩
  refine ⟨fun _ => gl2, ?_⟩
  refine EvH.act rfl rfl rfl rfl rfl rfl rfl (EvP.callF rfl rfl rfl rfl (EvF.mono (index_spec LL (by omega)) ?_))
  rintro _ h2 _ ⟨rfl, rfl⟩
  refine ⟨fun _ => gl2, ?_⟩
  have c2' : aload (TT gt) h2 118 p1 = some u1 := load_mono (fun i' o' e' => (A2.same i' (C.hs.wf.lt e') (fun e => e)).trans e') c2
  clear c2
  repeat (refine EvH.easy1 rfl rfl rfl rfl rfl rfl rfl rfl rfl (by assumption) ?_)
  have VU2 := VU.step A2 C.hs.wf (fun e => e)
  have hbr : (S.s.row (ix LL).toNat).length ≤ 2 ^ 32 := Nat.le_trans (hb (ix LL).toNat) (by decide)
  (refine EvH.act rfl rfl rfl rfl rfl rfl rfl (EvP.appendC S2 VU2 (by omega) rfl rfl rfl rfl rfl rfl rfl rfl rfl (by decide) rfl rfl (afirst_all oN rfl) rfl (by decide) rfl (by show (((S.s.row (ix LL).toNat).length + 1) * 8 ≤ 70368744177664); omega) (by show (S.s.row (ix LL).toNat).length + 1 ≤ 1099511627776; omega) (fun u2 h3 col3 A3 S3 V3 => ⟨fun _ => ?_, ?_⟩)))
  · refine AH.add_le (keep h3 (fun i' o' e' => S3.le i' o' (hle i' o' e')) (A3.get C2.hs.wf C2.obj ?_).1 (A3.get C2.hs.wf (C2.cob k hk).1 ?_).1 (A3.get C2.hs.wf (A2.get C.hs.wf hl2 (fun e => e)).1 ?_).1 (A3.get C2.hs.wf (A2.get C.hs.wf hu2 (fun e => e)).1 ?_).1) (A3.get C2.hs.wf oN ?_).1
    · rw [C2.cpp]; omega
    · rw [(C2.cob k hk).2]; omega
    · rw [hl3]; omega
    · rw [hu3]; omega
    · rw [cid]; omega
  clear c2' f1 f2
  have VS3 := C2.wat.step A3 C2.hs.wf (by omega)
  repeat (refine EvH.easy1 rfl rfl rfl rfl rfl rfl rfl rfl rfl (by assumption) ?_)
  (refine EvH.act0 rfl rfl rfl rfl rfl rfl (EvP.setV (T := TT gt) (t := 119) (u := u2) S3 VS3 (by decide) rfl rfl rfl (by omega) (by omega) c1 rfl rfl V3.sc.1 V3.sc.2 (fun h4 A4 S4 V4 _ => ⟨fun e => absurd e (by decide), ?_⟩)))
  have C4 := C2.setRow (j := (ix LL).toNat) (by omega) (us := S.s.row (ix LL).toNat ++ [k]) hW (u := u2) A3 (by rw [List.length_append, List.map_append]; exact V3) A4 S4 V4
  have C5 := C4.less (G' := G) hle C.lear
  clear c1
  repeat (first | refine at_normal ?_ | refine EvH.nil ?_)
  have A14 : Step (fun c => 20 ≤ c) col h col3 h4 := ((A2.mono fun c e => e.elim).trans (A3.mono fun c e => by omega)).trans (A4.mono fun c e => by omega)
  have D : AtX G h4 col3 n { V with rw := V.rw.set (ix LL).toNat u2 } { S with s := { S.s with wat := addW S.s.wat LL k } } vals (2 * n + 2) := C5
  have hwl : wi LL < S.s.wat.length := by rw [hW]; exact wi_lt hok
  have hb' : ∀ j, (Ws.row { S.s with wat := addW S.s.wat LL k } j).length ≤ 2 ^ 31 + 1 := fun j => by
    have h8 := hb j
    show ((addW S.s.wat LL k).getD j []).length ≤ _
    rw [addW_at hwl]; split
    · rw [List.length_append]; exact Nat.add_le_add h8 (Nat.le_refl _)
    · exact Nat.le_trans h8 (Nat.le_succ _)
  have hW' : (addW S.s.wat LL k).length = 2 * n + 2 := by rw [addW_len]; exact hW
  have e0 : S.s.w k 0 = LL := hLL'
  rw [e0]
  clear C5 C4 C2 VS3 VU2 V4 V3 A4 A3 A2 S4 S3 S2 gp gc gl gu keep gle hl4 hu4 ho1 hco q1 q2 a1 hok hixn o0 o1 o2 hl2 hl3 hu2 hu3 c3 hbr VU gl2 oN cid hid hu
  clear hb hW hsml hmany hwl hLL'
  have hb := hb'
  have hW := hW'
  clear hb' hW'
  generalize LL = L0 at *
  clear hLL
  have hsml := D.sml
  have hmany := D.many
  have hok : ok n ((S.s.c k).getD 1 0) := hoks _ (mem_getD h1)
  have hixn := ixn hok
  have hokr := hok
  obtain ⟨o0, o1, o2⟩ := hokr
  have hOB := Vec.copy D.wat (by omega)
  obtain ⟨uid, uo, hu2, hu3, hu4⟩ := hOB
  have hOB := Vec.copy (D.cli k hk) h0
  obtain ⟨lid, lo, hl2, hl3, hl4⟩ := hOB
  have ho1 := D.obj
  have hco := D.cob k hk
  have hOB := four D.hs.le ho1 hco.1 hl2 hu2
  obtain ⟨GR, gle, gp, gc, gl, gu, keep⟩ := hOB
  have f1 := load1 (T := TT gt) (t := 119) (off := 4) gp rfl rfl rfl
  have f2 := load1 (T := TT gt) (t := 35) (off := 0) gc rfl rfl rfl
  have hOB := Vec.atI (gt := gt) (hl4 GR gl) (i := 1) (by omega) h1i
  obtain ⟨qa, qb, a1, a2⟩ := hOB
  have a2 : aload (TT gt) GR 3 (.ptr qa qb) = some (.int .i64 ((S.s.c k).getD (1 : Int).toNat 0)) := a2
  have q1 := D.wat.veq
  have q2 := (D.cli k hk).veq
  skip
  refine EvC.drawnH 3 (GR) (p := [⟨0, false, 0, 3⟩, ⟨1, false, 0, 3⟩, ⟨2, false, 0, 3⟩, ⟨3, false, 0, 3⟩, ⟨4, false, 0, 0⟩, ⟨5, false, 0, 0⟩, ⟨6, false, 0, 0⟩, ⟨7, false, 0, 0⟩, ⟨8, false, 0, 0⟩, ⟨9, false, 0, 0⟩, ⟨11, false, 0, 2⟩, ⟨12, false, 0, 2⟩, ⟨13, false, 0, 2⟩, ⟨14, false, 0, 2⟩, ⟨15, false, 0, 1⟩, ⟨16, false, 0, 1⟩, ⟨17, false, 0, 1⟩, ⟨18, false, 0, 1⟩, ⟨19, false, 0, 1⟩, ⟨20, false, 0, 1⟩, ⟨24, false, 0, 2⟩, ⟨25, false, 0, 2⟩, ⟨10, true, 0, 1⟩, ⟨21, true, 1, 2⟩, ⟨22, false, 2, 2⟩, ⟨23, false, 2, 2⟩, ⟨26, true, 2, 3⟩, ⟨27, false, 3, 3⟩, ⟨28, true, 3, 4⟩]) rfl (by kernel_rfl) (by kernel_rfl) ?_
  have e1 : S.s.w k 1 = (S.s.c k).getD (1 : Int).toNat 0 := rfl
  rw [e1]
  generalize hLL : (S.s.c k).getD (1 : Int).toNat 0 = LL at *
  have hLL' : (S.s.c k).getD 1 0 = LL := hLL
  rw [hLL'] at hok hixn o0 o1 o2
  have hOB := D.row (ix LL).toNat (by omega) (by omega)
  obtain ⟨u, hu, VU⟩ := hOB
  have hOB := D.wat.at1 (T := TT gt) (t := 119) (k := .i64) (i := ix LL) rfl rfl rfl rfl (by omega) (by omega)
  obtain ⟨p1, u1, c1, c2, c3⟩ := hOB
  have hu' : u1 = u := by
    rw [hu] at c3; simpa using c3.symm
  subst hu'
  repeat (first | refine EvH.easy1 rfl rfl rfl rfl rfl rfl rfl rfl rfl rfl ?_ | refine EvH.easy1 rfl rfl rfl rfl rfl rfl rfl rfl rfl (by assumption) ?_ | refine EvH.easyG (by assumption) rfl rfl rfl rfl rfl rfl rfl rfl rfl rfl (by first | exact veq_s rfl | assumption) ?_ | refine EvH.easyG (by assumption) rfl rfl rfl rfl rfl rfl rfl rfl rfl (by assumption) (by first | exact veq_s rfl | assumption) ?_)
  refine EvH.new (b := .cells [.ptr (V.cp.getD k 0) 0] 149 false) (mk := .slice 1 1 true) D.hs gle rfl rfl rfl rfl rfl rfl rfl rfl rfl (by simp [oeq, veqs, veq]) (fun h2 id A2 S2 hle gl2 _ oN cid hid => ?_)
  have C2 := D.more A2 S2 hle
  refine EvH.act rfl rfl rfl rfl rfl rfl rfl (EvP.callF rfl rfl rfl rfl (EvF.mono (index_spec LL (by omega)) ?_))
  rintro _ h2 _ ⟨rfl, rfl⟩
  refine ⟨fun _ => gl2, ?_⟩
  refine EvH.act rfl rfl rfl rfl rfl rfl rfl (EvP.callF rfl rfl rfl rfl (EvF.mono (index_spec LL (by omega)) ?_))
  rintro _ h2 _ ⟨rfl, rfl⟩
  refine ⟨fun _ => gl2, ?_⟩
  have c2' : aload (TT gt) h2 118 p1 = some u1 := load_mono (fun i' o' e' => (A2.same i' (D.hs.wf.lt e') (fun e => e)).trans e') c2
  clear c2
  repeat (refine EvH.easy1 rfl rfl rfl rfl rfl rfl rfl rfl rfl (by assumption) ?_)
  have VU2 := VU.step A2 D.hs.wf (fun e => e)
  have hbr : (({ S with s := { S.s with wat := addW S.s.wat L0 k } } : Sr).s.row (ix LL).toNat).length ≤ 2 ^ 32 := Nat.le_trans (hb (ix LL).toNat) (by decide)
  (refine EvH.act rfl rfl rfl rfl rfl rfl rfl (EvP.appendC S2 VU2 (by omega) rfl rfl rfl rfl rfl rfl rfl rfl rfl (by decide) rfl rfl (afirst_all oN rfl) rfl (by decide) rfl (by show (((({ S with s := { S.s with wat := addW S.s.wat L0 k } } : Sr).s.row (ix LL).toNat).length + 1) * 8 ≤ 70368744177664); omega) (by show (({ S with s := { S.s with wat := addW S.s.wat L0 k } } : Sr).s.row (ix LL).toNat).length + 1 ≤ 1099511627776; omega) (fun u2 h3 col3 A3 S3 V3 => ⟨fun _ => ?_, ?_⟩)))
  · refine AH.add_le (keep h3 (fun i' o' e' => S3.le i' o' (hle i' o' e')) (A3.get C2.hs.wf C2.obj ?_).1 (A3.get C2.hs.wf (C2.cob k hk).1 ?_).1 (A3.get C2.hs.wf (A2.get D.hs.wf hl2 (fun e => e)).1 ?_).1 (A3.get C2.hs.wf (A2.get D.hs.wf hu2 (fun e => e)).1 ?_).1) (A3.get C2.hs.wf oN ?_).1
    · rw [C2.cpp]; omega
    · rw [(C2.cob k hk).2]; omega
    · rw [hl3]; omega
    · rw [hu3]; omega
    · rw [cid]; omega
  clear c2' f1 f2
  have VS3 := C2.wat.step A3 C2.hs.wf (by omega)
  repeat (refine EvH.easy1 rfl rfl rfl rfl rfl rfl rfl rfl rfl (by assumption) ?_)
  (refine EvH.act0 rfl rfl rfl rfl rfl rfl (EvP.setV (T := TT gt) (t := 119) (u := u2) S3 VS3 (by decide) rfl rfl rfl (by omega) (by omega) c1 rfl rfl V3.sc.1 V3.sc.2 (fun h4 A4 S4 V4 _ => ⟨fun e => absurd e (by decide), ?_⟩)))
  have C4 := C2.setRow (j := (ix LL).toNat) (by omega) (us := ({ S with s := { S.s with wat := addW S.s.wat L0 k } } : Sr).s.row (ix LL).toNat ++ [k]) hW (u := u2) A3 (by rw [List.length_append, List.map_append]; exact V3) A4 S4 V4
  have C5 := C4.less (G' := G) hle D.lear
  clear c1
  repeat (refine EvH.nil ?_)
  refine end_normal rfl ⟨rfl, _, _, A14.trans (((A2.mono fun c e => e.elim).trans (A3.mono fun c e => by omega)).trans (A4.mono fun c e => by omega)), C5⟩
end
end Sa
end Pf
end Go.Proofs.YtfjloafebkjadaaGreatDoor
namespace Go.Proofs.YtfjloafebkjadaaGreatDoor
namespace Pf
namespace Sa
open Go Go.AI Go.Proofs
variable {gt : Tree (List AV)}
theorem getD_app {α : Type} {l m : List α} {d : α} {k : Nat} (h : k < l.length) : (l ++ m).getD k d = l.getD k d := by
  rw [List.getD_eq_getElem?_getD, List.getD_eq_getElem?_getD, List.getElem?_append_left h]
theorem getD_new {α : Type} {l : List α} {x d : α} : (l ++ [x]).getD l.length d = x := by
  rw [List.getD_eq_getElem?_getD, List.getElem?_append_right (Nat.le_refl _)]; simp
section
variable {G h h1 h2 : AH} {col col1 col2 : Nat → Nat} {n x : Nat} {V : Lay} {S : Sr} {vals : List AV}
/-- A clause more. -/
theorem AtX.addCl (C : AtX G h col n V S vals x) {v : AV} {l : List Int} {id : Nat} (A : Step (fun c => c = 43 + 2 * n + 2 * S.s.cls.length) col h col1 h1) (v1 : Vec col1 (43 + 2 * n + 2 * S.s.cls.length) h1 3 1 v l.length (l.map (AV.int .i64))) (B : Step (fun c => c = 42 + 2 * n + 2 * S.s.cls.length) col1 h1 col2 h2) (hs2 : HS G h2 col2)
    (o2 : h2.t.get id = some (.cells [v] 158 false)) (c2 : col2 id = 42 + 2 * n + 2 * S.s.cls.length) (hmany : S.s.cls.length + 1 ≤ 2 ^ 30) (hrow : ∀ j, ∀ k ∈ S.s.row j, k < S.s.cls.length) : AtX G h2 col2 n { V with cp := V.cp ++ [id], cl := V.cl ++ [v] } { S with s := { S.s with cls := S.s.cls ++ [l] } } vals x := by
  have hp := C.clp
  have hl := C.cll
  have hlen : (S.s.cls ++ [l]).length = S.s.cls.length + 1 := by simp
  have ew : S.why.map (whyV (V.cp ++ [id])) = S.why.map (whyV V.cp) := List.map_congr_left fun w hw => by
    cases w with
    | none => rfl
    | some k => show AV.ptr _ 0 = AV.ptr _ 0; rw [getD_app (by rw [hp]; exact C.yok _ hw k rfl)]
  have er : ∀ j, (S.s.row j).map (ptrV (V.cp ++ [id])) = (S.s.row j).map (ptrV V.cp) := fun j => List.map_congr_left fun k hk => by
    show AV.ptr _ 0 = AV.ptr _ 0; rw [getD_app (by rw [hp]; exact hrow j k hk)]
  have hwhy : Vec col2 23 h2 149 1 V.yv (n + 1) (S.why.map (whyV (V.cp ++ [id]))) := by
    rw [ew]; exact (C.why.step A C.hs.wf (by omega)).step B A.wf (by omega)
  have hrw : ∀ j, j < 2 * n + 2 → j ≠ x → ∃ u, V.rw[j]? = some u ∧ Vec col2 (40 + j) h2 149 1 u (S.s.row j).length ((S.s.row j).map (ptrV (V.cp ++ [id]))) := fun j hj hx => by
    have hOB := C.row j hj hx
    obtain ⟨u, h3, h4⟩ := hOB
    exact ⟨u, h3, by rw [er]; exact (h4.step A C.hs.wf (by omega)).step B A.wf (by omega)⟩
  have hcob : ∀ m, m < (S.s.cls ++ [l]).length → h2.t.get ((V.cp ++ [id]).getD m 0) = some (.cells [(V.cl ++ [v]).getD m .nilPtr] 158 false) ∧ col2 ((V.cp ++ [id]).getD m 0) = 42 + 2 * n + 2 * m := fun m hm => by
    rw [hlen] at hm
    have hOB := Nat.lt_or_ge m S.s.cls.length
    rcases hOB with h3 | h3
    · rw [getD_app (by omega), getD_app (by omega)]
      have hOB := C.cob m h3
      obtain ⟨k1, k2⟩ := hOB
      have k3 := A.get C.hs.wf k1 (by rw [k2]; omega)
      have k4 := B.get A.wf k3.1 (by rw [k3.2, k2]; omega)
      exact ⟨k4.1, k4.2.trans (k3.2.trans k2)⟩
    · have hOB : m = S.s.cls.length := by omega
      obtain rfl := hOB
      have e1 : (V.cp ++ [id]).getD S.s.cls.length 0 = id := by rw [← hp]; exact getD_new
      have e2 : (V.cl ++ [v]).getD S.s.cls.length .nilPtr = v := by rw [← hl]; exact getD_new
      rw [e1, e2]
      exact ⟨o2, c2⟩
  have hcli : ∀ m, m < (S.s.cls ++ [l]).length → Vec col2 (43 + 2 * n + 2 * m) h2 3 1 ((V.cl ++ [v]).getD m .nilPtr) ((S.s.cls ++ [l]).getD m []).length (((S.s.cls ++ [l]).getD m []).map (AV.int .i64)) := fun m hm => by
    rw [hlen] at hm
    have hOB := Nat.lt_or_ge m S.s.cls.length
    rcases hOB with h3 | h3
    · rw [getD_app (by omega), getD_app h3]
      exact ((C.cli m h3).step A C.hs.wf (by omega)).step B A.wf (by omega)
    · have hOB : m = S.s.cls.length := by omega
      obtain rfl := hOB
      have e2 : (V.cl ++ [v]).getD S.s.cls.length .nilPtr = v := by rw [← hl]; exact getD_new
      rw [e2, getD_new]
      exact v1.step B A.wf (by omega)
  exact {
    hs := hs2
    obj := (B.get A.wf ((A.get C.hs.wf (C.obj) (by first | exact fun e => e | (rw [C.cpp]; omega))).1) (by first | exact fun e => e | (rw [(A.get C.hs.wf (C.obj) (by first | exact fun e => e | (rw [C.cpp]; omega))).2, C.cpp]; omega))).1
    cpp := (B.old _ (Nat.lt_of_lt_of_le (C.hs.wf.lt (C.obj)) A.nx)).trans ((A.old _ (C.hs.wf.lt (C.obj))).trans (C.cpp))
    val := ((C.val).step A C.hs.wf (by first | exact fun e => e | omega)).step B A.wf (by first | exact fun e => e | omega)
    lev := ((C.lev).step A C.hs.wf (by first | exact fun e => e | omega)).step B A.wf (by first | exact fun e => e | omega)
    why := hwhy
    wat := ((C.wat).step A C.hs.wf (by first | exact fun e => e | omega)).step B A.wf (by first | exact fun e => e | omega)
    row := hrw
    trl := ((C.trl).step A C.hs.wf (by first | exact fun e => e | omega)).step B A.wf (by first | exact fun e => e | omega)
    ends := ((C.ends).step A C.hs.wf (by first | exact fun e => e | omega)).step B A.wf (by first | exact fun e => e | omega)
    sco := ((C.sco).step A C.hs.wf (by first | exact fun e => e | omega)).step B A.wf (by first | exact fun e => e | omega)
    lea := ((C.lea).step A C.hs.wf (by first | exact fun e => e | omega)).step B A.wf (by first | exact fun e => e | omega)
    lear := C.lear
    clp := by simp [hp]
    cll := by simp [hl]
    cob := hcob
    cli := hcli
    yok := fun w hw m e => by { have := C.yok w hw m e; rw [hlen]; omega }
    sml := C.sml
    many := by rw [hlen]; exact hmany
  }
/-- After a clause was laid. -/
def Ws.lay (S : Ws) (l : List Int) : Ws := { S with cls := S.cls ++ [l], wat := addW (addW S.wat (l.getD 0 0) S.cls.length) (l.getD 1 0) S.cls.length }
theorem rows_len {n : Nat} {S : Ws} (W : WI n S) (j : Nat) : (S.row j).length ≤ S.cls.length := by
  have := nodup_len (m := List.range S.cls.length) (W.rnod j) fun k hk => List.mem_range.2 (W.wof j k hk).1
  rwa [List.length_range] at this
/-- What adding a clause does. -/
def Added (S : Sr) (l : List Int) (S' : Sr) : Prop :=
  (l = [] ∧ S' = { S with broken := true }) ∨ (∃ y, l = [y] ∧ ((ofT S.s.tr y = -1 ∧ S' = { S with broken := true }) ∨ (ofT S.s.tr y = 0 ∧ S' = S.take y none) ∨ (ofT S.s.tr y = 1 ∧ S' = S))) ∨
  (2 ≤ l.length ∧ S' = { S with s := S.s.lay l })
theorem add_spec (C : At G h col n V S) (W : WI n S.s) (cons : ∀ y, y ∈ S.s.tr → -y ∉ S.s.tr) (htl : S.s.tr.length ≤ 2 ^ 30) (hel : S.s.ends.length ≤ 2 ^ 30) {v : AV} {l : List Int} (row : IntRow G v l) (nz : NZ v) (hoks : ∀ y ∈ l, ok n y) (hll : l.length ≤ 2 ^ 36) (hmany : S.s.cls.length + 1 ≤ 2 ^ 30) :
    EvF (TT gt) X 100 [.ptr V.p 0, v] h (fun r h' => r = .tuple [] ∧ ∃ col' V' S', V'.p = V.p ∧ Step (fun c => 20 ≤ c) col h col' h' ∧ At G h' col' n V' S' ∧ Added S l S') := by
  have hs := C.sml
  have ln := (row.mono C.hs.le).len (T := TT gt) (t := 35) rfl
  refine EvF.enter rfl rfl rfl ?_
  repeat (first | refine EvO.plain rfl rfl rfl rfl rfl rfl ?_ | refine EvO.plain rfl rfl rfl rfl rfl (by assumption) ?_ | refine EvC.seq ?_ | refine EvC.region rfl ?_ | refine EvO.nil ?_ | refine at_normal ?_ | refine EvC.block ?_)
  by_cases e0 : l.length = 0
  · have hl : l = [] := List.eq_nil_of_length_eq_zero e0
    subst hl
    skip
    refine EvC.cond (t := true) rfl (fun _ => ?_) (fun e => nomatch e)
    repeat (first | refine EvO.plain rfl rfl rfl rfl rfl rfl ?_ | refine EvC.region rfl ?_)
    refine EvO.cons0 rfl rfl (EvP.store1 (u := .bool true) C.hs 20 C.obj C.cpp (by decide) rfl rfl rfl rfl ⟨rfl, rfl⟩ (by show 12 < 13; decide) (fun h7 A7 S7 o7 _ _ => ?_))
    have C7 := C.setBroken (b := true) A7 S7 o7
    repeat (first | refine EvO.nil ?_ | refine be_normal ?_)
    refine end_normal rfl ⟨rfl, col, V, _, rfl, A7.mono fun c e => by omega, C7, .inl ⟨rfl, rfl⟩⟩
  by_cases e1 : l.length = 1
  · have hOB := List.length_eq_one_iff.1 e1
    obtain ⟨y, rfl⟩ := hOB
    have hy := hoks y (List.mem_singleton.2 rfl)
    have hOB := (row.mono C.hs.le).at1 (T := TT gt) (t := 35) (e := 3) rfl rfl rfl rfl (k := .i64) (i := 0) (by omega) (by simp)
    obtain ⟨q, b1, b2⟩ := hOB
    have b2 : aload (TT gt) h 3 q = some (.int .i64 y) := b2
    refine EvC.cond (t := false) rfl (fun e => nomatch e) (fun _ => ?_)
    repeat (first | refine EvO.plain rfl rfl rfl rfl rfl rfl ?_ | refine EvC.seq ?_ | refine EvC.region rfl ?_ | refine EvO.nil ?_ | refine at_normal ?_)
    refine EvC.cond (t := true) rfl (fun _ => ?_) (fun e => nomatch e)
    repeat (first | refine EvO.plain rfl rfl rfl rfl rfl rfl ?_ | refine EvO.plain rfl rfl rfl rfl rfl (by assumption) ?_ | refine EvC.seq ?_ | refine EvC.region rfl ?_)
    (refine EvO.cons rfl rfl rfl (EvP.callF rfl rfl rfl rfl (EvF.mono (of_spec C y hy cons) ?_)))
    rintro _ _ hn ⟨rfl, rfl⟩
    repeat (first | refine EvO.plain rfl rfl rfl rfl rfl rfl ?_ | refine EvC.seq ?_ | refine EvC.region rfl ?_ | refine EvO.nil ?_ | refine at_normal ?_ | refine EvC.block ?_)
    have hOB := ofT_rng S.s.tr y
    rcases hOB with h3 | h3 | h3
    · refine EvC.cond (t := false) (isT (p := (ofT S.s.tr y == -1)) (by rw [h3]; rfl)) (fun e => nomatch e) (fun _ => ?_)
      repeat (first | refine EvO.plain rfl rfl rfl rfl rfl rfl ?_ | refine EvC.seq ?_ | refine EvC.region rfl ?_ | refine EvO.nil ?_ | refine at_normal ?_)
      refine EvC.cond (t := false) (isT (p := (ofT S.s.tr y == 0)) (by rw [h3]; rfl)) (fun e => nomatch e) (fun _ => ?_)
      repeat (first | refine EvC.skip ?_ | refine be_normal ?_)
      refine end_normal rfl ⟨rfl, col, V, S, rfl, Step.refl C.hs, C, .inr (.inl ⟨y, rfl, .inr (.inr ⟨h3, rfl⟩)⟩)⟩
    · refine EvC.cond (t := true) (isT (p := (ofT S.s.tr y == -1)) (by rw [h3]; rfl)) (fun _ => ?_) (fun e => nomatch e)
      repeat (first | refine EvO.plain rfl rfl rfl rfl rfl rfl ?_ | refine EvC.region rfl ?_)
      refine EvO.cons0 rfl rfl (EvP.store1 (u := .bool true) C.hs 20 C.obj C.cpp (by decide) rfl rfl rfl rfl ⟨rfl, rfl⟩ (by show 12 < 13; decide) (fun h7 A7 S7 o7 _ _ => ?_))
      have C7 := C.setBroken (b := true) A7 S7 o7
      repeat (first | refine EvO.nil ?_ | refine be_normal ?_)
      refine end_normal rfl ⟨rfl, col, V, _, rfl, A7.mono fun c e => by omega, C7, .inr (.inl ⟨y, rfl, .inl ⟨h3, rfl⟩⟩)⟩
    · refine EvC.cond (t := false) (isT (p := (ofT S.s.tr y == -1)) (by rw [h3]; rfl)) (fun e => nomatch e) (fun _ => ?_)
      repeat (first | refine EvO.plain rfl rfl rfl rfl rfl rfl ?_ | refine EvC.seq ?_ | refine EvC.region rfl ?_ | refine EvO.nil ?_ | refine at_normal ?_)
      refine EvC.cond (t := true) (isT (p := (ofT S.s.tr y == 0)) (by rw [h3]; rfl)) (fun _ => ?_) (fun e => nomatch e)
      repeat (first | refine EvO.plain rfl rfl rfl rfl rfl rfl ?_ | refine EvO.plain rfl rfl rfl rfl rfl (by assumption) ?_ | refine EvC.region rfl ?_)
      (refine EvO.cons rfl rfl rfl (EvP.callF rfl rfl rfl rfl (EvF.mono (take_spec C y none hy h3 (fun k e => nomatch e) htl hel) ?_)))
      rintro _ h8 _ ⟨rfl, col8, tv, A8, C8⟩
      repeat (first | refine EvO.nil ?_ | refine be_normal ?_)
      refine end_normal rfl ⟨rfl, col8, { V with tv := tv }, S.take y none, rfl, A8.mono fun c e => e.1, C8, .inr (.inl ⟨y, rfl, .inr (.inl ⟨h3, rfl⟩)⟩)⟩
  · have hl2 : 2 ≤ l.length := by omega
    refine EvC.cond (t := false) (isT (p := ((l.length : Int) == 0)) (beq_false (by omega))) (fun e => nomatch e) (fun _ => ?_)
    repeat (first | refine EvO.plain rfl rfl rfl rfl rfl rfl ?_ | refine EvC.seq ?_ | refine EvC.region rfl ?_ | refine EvO.nil ?_ | refine at_normal ?_)
    refine EvC.cond (t := false) (isT (p := ((l.length : Int) == 1)) (beq_false (by omega))) (fun e => nomatch e) (fun _ => ?_)
    repeat (first | refine EvO.plain rfl rfl rfl rfl rfl rfl ?_ | refine EvC.region rfl ?_)
    (refine EvO.cons rfl rfl rfl (EvP.callF rfl rfl rfl rfl (EvF.mono (clone_spec C.hs (43 + 2 * n + 2 * S.s.cls.length) (by omega) (row.mono C.hs.le) (fun h8 col8 A8 => row.mono (HS.step C.hs A8 (by omega)).le) nz hll) ?_)))
    rintro r2 h2 _ ⟨col2, A2, S2, V2⟩
    have hOB := V2.block (by omega)
    obtain ⟨rid, rcap, rex, rtail, hr2, hr3, hr4⟩ := hOB
    subst hr2
    repeat (refine EvO.plain rfl rfl rfl rfl rfl rfl ?_)
    (refine EvO.cons rfl rfl rfl (EvP.newC (b := .cells [.slice rid 0 l.length rcap rex] 158 false) (mk := .ptr) S2 (42 + 2 * n + 2 * S.s.cls.length) rfl rfl (by omega) (fun h3 id col3 A3 S3 o3 c3 _ => ?_)))
    have C3 := C.addCl A2 V2 A3 S3 o3 c3 hmany (fun j k hk => (W.wof j k hk).1)
    have eK : (V.cp ++ [id]).getD S.s.cls.length 0 = id := by rw [← C.clp]; exact getD_new
    have ec : Ws.c { S.s with cls := S.s.cls ++ [l] } S.s.cls.length = l := getD_new
    skip
    have L := lay_spec (gt := gt) (k := S.s.cls.length) C3 (by simp) (by show 2 ≤ (Ws.c { S.s with cls := S.s.cls ++ [l] } S.s.cls.length).length; rw [ec]; exact hl2) (by show ∀ y ∈ Ws.c { S.s with cls := S.s.cls ++ [l] } S.s.cls.length, ok n y; rw [ec]; exact hoks) W.len (fun j => by have h9 := rows_len W j; exact Nat.le_trans h9 (by omega))
    dsimp only at L
    rw [eK] at L
    (refine EvO.cons rfl rfl rfl (EvP.callF rfl rfl rfl rfl (EvF.mono (L) ?_)))
    rintro _ h4 _ ⟨rfl, col4, rw, A4, C4⟩
    repeat (first | refine EvO.nil ?_ | refine be_normal ?_)
    have ew : ∀ i, Ws.w { S.s with cls := S.s.cls ++ [l] } S.s.cls.length i = l.getD i 0 := fun i => congrArg (fun z : List Int => z.getD i 0) ec
    rw [ew, ew] at C4
    refine end_normal rfl ⟨rfl, col4, _, { S with s := S.s.lay l }, ?_, ((A2.mono fun c e => by omega).trans (A3.mono fun c e => by omega)).trans A4, C4, .inr (.inr ⟨hl2, rfl⟩)⟩
    rfl
end
end Sa
end Pf
end Go.Proofs.YtfjloafebkjadaaGreatDoor
