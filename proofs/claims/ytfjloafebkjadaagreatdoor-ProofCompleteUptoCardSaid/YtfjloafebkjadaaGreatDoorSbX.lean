/- What Solve answers. -/
import Derived.Test.YtfjloafebkjadaaGreatDoorSbT
/- A refutation that takes both ways at each variable. -/
namespace Go.Proofs.YtfjloafebkjadaaGreatDoor
namespace Pf
namespace Sa
open Go Go.AI Go.Proofs
variable {gt : Tree (List AV)}
/-- A way through some variables, turned about. -/
def spl (s deep : Nat) : List Int := (List.range deep).map fun i : Nat => if s / 2 ^ i % 2 = 1 then -(1 + (i : Int)) else 1 + (i : Int)
/-- The ways of one depth. -/
def lvlL (deep m : Nat) : List (List Int) := (List.range m).map fun s => spl s deep
def splitL (n : Nat) : Nat → List (List Int)
  | 0 => []
  | k + 1 => splitL n k ++ lvlL (n - k) (2 ^ (n - k))
/-- A list of rows of one's own whose rows are only read. -/
def Rows1 (G h : AH) (cx : Nat → Nat) (ov : AV) (P : List (List Int)) : Prop := ∃ cells, Vec cx 1 h 35 1 ov P.length cells ∧ ∀ i, i < P.length → ∃ a, cells[i]? = some a ∧ IntRow G a (P.getD i [])
theorem Rows1.snoc {G h : AH} {cx : Nat → Nat} {ov u : AV} {P : List (List Int)} {l : List Int} {cells : List AV} (hc : cells.length = P.length) (he : ∀ i, i < P.length → ∃ a, cells[i]? = some a ∧ IntRow G a (P.getD i [])) (V : Vec cx 1 h 35 1 ov (P.length + 1) (cells ++ [u])) (r : IntRow G u l) : Rows1 G h cx ov (P ++ [l]) := by
  refine ⟨cells ++ [u], by rw [List.length_append]; exact V, fun i hi => ?_⟩
  rw [List.length_append, List.length_singleton] at hi
  have hOB := Nat.lt_or_ge i P.length
  rcases hOB with h1 | h1
  · have hOB := he i h1
    obtain ⟨a, h2, h3⟩ := hOB
    rw [List.getElem?_append_left (by omega), getD_app h1]; exact ⟨a, h2, h3⟩
  · have hOB : i = P.length := by omega
    obtain rfl := hOB
    rw [List.getElem?_append_right (by omega), getD_new, hc, Nat.sub_self]
    exact ⟨u, rfl, r⟩
/-- Rows that one has made, too. -/
def RowsO (B G h : AH) (cx : Nat → Nat) (ov : AV) (P : List (List Int)) : Prop := ∃ cells, Vec cx 1 h 35 1 ov P.length cells ∧ ∀ i, i < P.length → ∃ a, cells[i]? = some a ∧ IntRow G a (P.getD i []) ∧ OwnV B G a
theorem RowsO.snoc {B G h : AH} {cx : Nat → Nat} {ov u : AV} {P : List (List Int)} {l : List Int} {cells : List AV} (hc : cells.length = P.length) (he : ∀ i, i < P.length → ∃ a, cells[i]? = some a ∧ IntRow G a (P.getD i []) ∧ OwnV B G a) (V : Vec cx 1 h 35 1 ov (P.length + 1) (cells ++ [u])) (r : IntRow G u l) (o : OwnV B G u) : RowsO B G h cx ov (P ++ [l]) := by
  have hl : (P ++ [l]).length = P.length + 1 := by simp
  refine ⟨cells ++ [u], by rw [hl]; exact V, fun i hi => ?_⟩
  rw [hl] at hi
  have hOB := Nat.lt_or_ge i P.length
  rcases hOB with h1 | h1
  · have hOB := he i h1
    obtain ⟨a, h2, h3⟩ := hOB
    rw [List.getElem?_append_left (by omega), getD_app h1]; exact ⟨a, h2, h3⟩
  · have hOB : i = P.length := by omega
    obtain rfl := hOB
    rw [List.getElem?_append_right (by omega), getD_new, hc, Nat.sub_self]
    exact ⟨u, rfl, r, o⟩
theorem splitL_len (n : Nat) : ∀ k, k ≤ n + 1 → (splitL n k).length ≤ k * 2 ^ n
  | 0, _ => by simp [splitL]
  | k + 1, hk => by
    have h1 := splitL_len n k (by omega)
    have h2 : 2 ^ (n - k) ≤ 2 ^ n := Nat.pow_le_pow_right (by decide) (by omega)
    rw [splitL, List.length_append, Nat.succ_mul]
    have h3 : (lvlL (n - k) (2 ^ (n - k))).length = 2 ^ (n - k) := by simp [lvlL]
    omega
set_option maxHeartbeats 8000000 in
theorem split_spec {h : AH} (hw : WF h) {n : Nat} (hn : n ≤ 12) :
    EvF (TT gt) X 74 [.int .i64 1, .int .i64 n] h (fun r h' => (h.le h' ∧ WF h') ∧ ∃ G cx, h.le G ∧ HS G h' cx ∧ RowsO h G h' cx r (splitL n (n + 1))) := by
  have S0 := HS.all hw
  refine EvF.enter rfl rfl rfl ?_
  repeat (first | refine EvO.plain rfl rfl rfl rfl rfl rfl ?_ | refine EvC.seq ?_ | refine EvC.region rfl ?_ | refine EvO.nil ?_ | refine at_normal ?_ | refine EvC.block ?_)
  refine EvC.loop (fun m σ h' => ∃ (k : Nat) (G : AH) (cx : Nat → Nat) (ov : AV) (E : Nat → AV), h.le G ∧ HS G h' cx ∧ RowsO h G h' cx ov (splitL n k) ∧ (splitL n k).length ≤ k * 4096 ∧ k ≤ n + 1 ∧ m = n + 1 - k ∧ σ = upds [(0, .int .i64 1), (5, ov), (6, .int .i64 ((n : Int) - k))] E) (n + 1) ?_ ?_
  · exact ⟨0, h, _, .nilSlice, _, fun _ _ e => e, S0, ⟨[], .nil, fun i hi => absurd hi (Nat.not_lt_zero _)⟩, (by simp [splitL]), Nat.zero_le _, rfl, hold ⟨rfl, rfl, congrArg (AV.int .i64) (by omega), trivial⟩⟩
  · rintro m _ h1 ⟨k, G, c1, ov, E, hG, S1, R1, hl1, hk, rfl, rfl⟩
    repeat (first | refine EvO.plain rfl rfl rfl rfl rfl rfl ?_ | refine EvC.seq ?_ | refine EvC.region rfl ?_ | refine EvO.nil ?_ | refine at_normal ?_)
    refine EvC.decide rfl (fun hge => ?_) (fun hge => ?_)
    · have hOB : ∃ d : Nat, n - k = d := ⟨_, rfl⟩
      obtain ⟨d, hd⟩ := hOB
      have hdk : (n : Int) - k = ((d : Nat) : Int) := by omega
      have hdn : d ≤ 12 := by omega
      have hpw : 2 ^ d ≤ 2 ^ 12 := Nat.pow_le_pow_right (by decide) hdn
      have hnx : splitL n (k + 1) = splitL n k ++ lvlL d (2 ^ d) := by rw [splitL, hd]
      rw [hdk]
      repeat (first | refine EvO.plain rfl rfl rfl rfl rfl rfl ?_ | refine EvC.seq ?_ | refine EvC.region rfl ?_ | refine at_normal ?_ | refine EvC.skip ?_ | refine EvC.block ?_)
      (refine EvO.cons rfl rfl rfl (EvP.quiet rfl (show some (AV.int .i64 (IntKind.i64.wrap (1 * 2 ^ min ((d : Nat) : Int).toNat IntKind.i64.bits))) = some (.int .i64 ((2 ^ d : Nat) : Int)) by rw [shl1 d (by omega)]) ?_))
      repeat (first | refine EvO.plain rfl rfl rfl rfl rfl rfl ?_ | refine EvO.nil ?_ | refine at_normal ?_ | refine EvC.block ?_)
      generalize hN : 2 ^ d = N at *
      refine EvC.loop (fun m σ h' => ∃ (s : Nat) (G : AH) (cx : Nat → Nat) (ov : AV) (E : Nat → AV), h.le G ∧ HS G h' cx ∧ RowsO h G h' cx ov (splitL n k ++ lvlL d s) ∧ (splitL n k ++ lvlL d s).length ≤ k * 4096 + s ∧ s ≤ N ∧ m = N - s ∧ σ = upds [(0, .int .i64 1), (5, ov), (6, .int .i64 d), (16, .int .i64 (N : Nat)), (17, .int .i64 s)] E) (N) ?_ ?_
      · exact ⟨0, G, c1, ov, _, hG, S1, by rw [show lvlL d 0 = [] from rfl, List.append_nil]; exact R1, by rw [show lvlL d 0 = [] from rfl, List.append_nil, Nat.add_zero]; exact hl1, Nat.zero_le _, rfl, hold ⟨rfl, rfl, rfl, rfl, rfl, trivial⟩⟩
      · clear S1 R1 hl1 hG
        rintro m _ h2 ⟨s, G2, c2, ov2, E, hG, S2, R2, hl2, hs, rfl, rfl⟩
        repeat (first | refine EvO.plain rfl rfl rfl rfl rfl rfl ?_ | refine EvC.seq ?_ | refine EvC.region rfl ?_ | refine EvO.nil ?_ | refine at_normal ?_)
        refine EvC.decide rfl (fun hsn => ?_) (fun hsn => ?_)
        · have hsn : s < N := by omega
          repeat (first | refine EvO.plain rfl rfl rfl rfl rfl rfl ?_ | refine EvC.seq ?_ | refine EvC.region rfl ?_ | refine EvO.nil ?_ | refine at_normal ?_ | refine EvC.skip ?_ | refine EvC.block ?_)
          refine EvC.loop (fun m σ h' => ∃ (i : Nat) (lv : AV) (cx : Nat → Nat) (E : Nat → AV), HS G2 h' cx ∧ RowsO h G2 h' cx ov2 (splitL n k ++ lvlL d s) ∧ Vec cx 2 h' 3 1 lv (spl s i).length ((spl s i).map (AV.int .i64)) ∧ i ≤ d ∧ m = d - i ∧ σ = upds [(0, .int .i64 1), (5, ov2), (6, .int .i64 d), (7, .int .i64 s), (8, lv), (16, .int .i64 (N : Nat)), (17, .int .i64 s), (20, .int .i64 d), (21, .int .i64 i)] E) (d) ?_ ?_
          · exact ⟨0, .nilSlice, c2, _, S2, R2, .nil, Nat.zero_le _, rfl, hold ⟨rfl, rfl, rfl, rfl, rfl, rfl, rfl, rfl, rfl, trivial⟩⟩
          · clear S2 R2
            rintro m _ h3 ⟨i, lv, c3, E, S3, R3, V3, hi, rfl, rfl⟩
            repeat (first | refine EvO.plain rfl rfl rfl rfl rfl rfl ?_ | refine EvC.seq ?_ | refine EvC.region rfl ?_ | refine EvO.nil ?_ | refine at_normal ?_)
            refine EvC.decide rfl (fun hil => ?_) (fun hil => ?_)
            · have hil : i < d := by omega
              have hbit := bit_val s i (by omega) (by omega)
              have hsn1 : spl s (i + 1) = spl s i ++ [if s / 2 ^ i % 2 = 1 then -(1 + (i : Int)) else 1 + (i : Int)] := by
                unfold spl; rw [List.range_succ, List.map_append]; rfl
              have hsl : (spl s i).length = i := by simp [spl]
              generalize hz : s / 2 ^ i % 2 = z at *
              repeat (first | refine EvO.plain rfl rfl rfl rfl rfl rfl ?_ | refine EvC.seq ?_ | refine EvC.region rfl ?_ | refine EvO.nil ?_ | refine at_normal ?_ | refine EvC.skip ?_ | refine EvC.block ?_)
              (refine EvO.cons rfl rfl rfl (EvP.quiet rfl (shr_at s i) ?_))
              skip
              (refine EvO.cons rfl rfl rfl (EvP.quiet rfl (show some (AV.int .i64 (IntKind.i64.wrap ((BitVec.ofInt IntKind.i64.bits ((s : Int).fdiv (2 ^ min ((i : Nat) : Int).toNat IntKind.i64.bits)) &&& BitVec.ofInt IntKind.i64.bits 1).toNat : Nat))) = some (.int .i64 ((z : Nat) : Int)) by rw [hbit]) ?_))
              repeat (first | refine EvO.plain rfl rfl rfl rfl rfl rfl ?_ | refine EvO.nil ?_ | refine at_normal ?_)
              obtain ⟨cells, VO, hc⟩ := R3
              by_cases hz1 : z = 1
              · refine EvC.cond (t := true) (isT (beq_true (show ((z : Nat) : Int) = 1 by omega))) (fun _ => ?_) (fun e => nomatch e)
                rw [if_pos hz1] at hsn1
                repeat (first | refine EvO.plain rfl rfl rfl rfl rfl rfl ?_ | refine EvC.region rfl ?_ | refine EvO.cons rfl rfl rfl (EvP.add64 rfl rfl (by omega) ?_) | refine EvO.cons rfl rfl rfl (EvP.neg64 rfl (by omega) ?_))
                (refine EvO.cons rfl rfl rfl (EvP.newR (b := .cells [.int .i64 (-(1 + (i : Int)))] 3 false) (mk := .slice 1 1 true) S3 rfl rfl (fun h4 id4 A4 N4 hle4 o4 _ _ => ?_)))
                have V4 := V3.step A4 S3.wf (fun e => e)
                have VO4 := VO.step A4 S3.wf (fun e => e)
                skip
                refine EvO.cons rfl rfl rfl (EvP.appendC N4 V4 (by decide) rfl rfl rfl rfl rfl rfl rfl rfl rfl (by decide) rfl rfl (afirst_all o4 rfl) rfl (by decide) rfl (by show ((spl s i).length + 1) * 8 ≤ 70368744177664; omega) (by omega) (fun lv5 h5 c5 A5 N5 X5 => ?_))
                have VO5 := VO4.step A5 N4.wf (by decide)
                repeat (first | refine EvO.plain rfl rfl rfl rfl rfl rfl ?_ | refine EvC.region rfl ?_ | refine EvO.nil ?_ | refine at_normal ?_ | refine be_normal ?_ | refine ro_normal ?_ | refine EvO.cons rfl rfl rfl (EvP.add64 rfl rfl (by omega) ?_))
                exact ⟨d - (i + 1), by omega, i + 1, lv5, c5, _, N5.down hle4, ⟨cells, VO5, hc⟩, by rw [hsn1, List.length_append, List.map_append]; exact X5, by omega, rfl, hold ⟨rfl, rfl, rfl, rfl, rfl, rfl, rfl, rfl, rfl, trivial⟩⟩
              · refine EvC.cond (t := false) (isT (beq_false (show ((z : Nat) : Int) ≠ 1 by omega))) (fun e => nomatch e) (fun _ => ?_)
                rw [if_neg hz1] at hsn1
                repeat (first | refine EvO.plain rfl rfl rfl rfl rfl rfl ?_ | refine EvC.region rfl ?_ | refine EvO.cons rfl rfl rfl (EvP.add64 rfl rfl (by omega) ?_))
                (refine EvO.cons rfl rfl rfl (EvP.newR (b := .cells [.int .i64 (1 + (i : Int))] 3 false) (mk := .slice 1 1 true) S3 rfl rfl (fun h4 id4 A4 N4 hle4 o4 _ _ => ?_)))
                have V4 := V3.step A4 S3.wf (fun e => e)
                have VO4 := VO.step A4 S3.wf (fun e => e)
                skip
                refine EvO.cons rfl rfl rfl (EvP.appendC N4 V4 (by decide) rfl rfl rfl rfl rfl rfl rfl rfl rfl (by decide) rfl rfl (afirst_all o4 rfl) rfl (by decide) rfl (by show ((spl s i).length + 1) * 8 ≤ 70368744177664; omega) (by omega) (fun lv5 h5 c5 A5 N5 X5 => ?_))
                have VO5 := VO4.step A5 N4.wf (by decide)
                repeat (first | refine EvO.plain rfl rfl rfl rfl rfl rfl ?_ | refine EvC.region rfl ?_ | refine EvO.nil ?_ | refine at_normal ?_ | refine be_normal ?_ | refine ro_normal ?_ | refine EvO.cons rfl rfl rfl (EvP.add64 rfl rfl (by omega) ?_))
                exact ⟨d - (i + 1), by omega, i + 1, lv5, c5, _, N5.down hle4, ⟨cells, VO5, hc⟩, by rw [hsn1, List.length_append, List.map_append]; exact X5, by omega, rfl, hold ⟨rfl, rfl, rfl, rfl, rfl, rfl, rfl, rfl, rfl, trivial⟩⟩
            · have hend : i = d := by omega
              subst hend
              obtain ⟨cells, VO, hc⟩ := R3
              have hcl : cells.length = (splitL n k ++ lvlL i s).length := by have := VO.count; omega
              have hOB := fadeO S3 V3 (by decide) (by simp [spl]; omega)
              obtain ⟨G4, N4, hG4, row4, own4⟩ := hOB
              have VO4 := vfade VO (c := 2) (by decide)
              have sc4 := V3.sc
              have hls : lvlL i (s + 1) = lvlL i s ++ [spl s i] := by
                unfold lvlL; rw [List.range_succ, List.map_append]; rfl
              repeat (first | refine EvO.plain rfl rfl rfl rfl rfl rfl ?_ | refine EvC.region rfl ?_ | refine at_normal ?_ | refine EvC.exit ?_ | refine at_exit ?_ | refine be_same rfl ?_ | refine ro_exit ?_)
              (refine EvO.cons rfl rfl rfl (EvP.newR (b := .cells [lv] 35 false) (mk := .slice 1 1 true) N4 rfl (show abuildSlice (TT gt) 22 1 [(0, lv)] = _ from build1 rfl rfl rfl rfl sc4) (fun h5 id5 A5 N5 hle5 o5 _ _ => ?_)))
              have VO5 := VO4.step A5 N4.wf (fun e => e)
              skip
              refine EvO.cons rfl rfl rfl (EvP.appendC N5 VO5 (by decide) rfl rfl rfl rfl rfl rfl rfl rfl rfl (by decide) rfl rfl (afirst_all o5 rfl) rfl (by decide) (by simp [sc4.2]) (by show ((splitL n k ++ lvlL i s).length + 1) * 24 ≤ 70368744177664; omega) (by omega) (fun ov6 h6 c6 A6 N6 X6 => ?_))
              have R6 : RowsO h G4 h6 c6 ov6 ((splitL n k ++ lvlL i s) ++ [spl s i]) := RowsO.snoc hcl (fun m hm => by obtain ⟨a, h7, h8, h9⟩ := hc m hm; exact ⟨a, h7, RowOf.mono hG4 h8, h9.mono hG4⟩) X6 row4 (own4 h hG)
              repeat (first | refine EvO.plain rfl rfl rfl rfl rfl rfl ?_ | refine EvC.region rfl ?_ | refine EvO.nil ?_ | refine at_normal ?_ | refine be_normal ?_ | refine ro_normal ?_ | refine EvO.cons rfl rfl rfl (EvP.add64 rfl rfl (by omega) ?_))
              refine ⟨N - (s + 1), by omega, s + 1, G4, c6, ov6, _, fun i o e => hG4 _ _ (hG _ _ e), N6.down hle5, by rw [hls, ← List.append_assoc]; exact R6, by rw [hls, ← List.append_assoc, List.length_append, List.length_singleton]; omega, by omega, rfl, hold ⟨rfl, rfl, rfl, rfl, rfl, trivial⟩⟩
        · have hend : s = N := by omega
          subst hend
          repeat (first | refine EvO.plain rfl rfl rfl rfl rfl rfl ?_ | refine EvC.region rfl ?_ | refine EvO.nil ?_ | refine at_normal ?_ | refine EvC.exit ?_ | refine at_exit ?_ | refine be_same rfl ?_ | refine ro_exit ?_ | refine be_normal ?_ | refine ro_normal ?_ | refine EvO.cons rfl rfl rfl (EvP.sub64 rfl rfl (by omega) ?_))
          refine ⟨n + 1 - (k + 1), by omega, k + 1, G2, c2, ov2, _, hG, S2, by rw [hnx]; exact R2, by rw [hnx]; omega, by omega, rfl, hold ⟨rfl, rfl, congrArg (AV.int .i64) (by omega), trivial⟩⟩
    · have hend : k = n + 1 := by omega
      subst hend
      repeat (first | refine EvO.plain rfl rfl rfl rfl rfl rfl ?_ | refine EvC.seq ?_ | refine EvC.region rfl ?_ | refine EvO.nil ?_ | refine at_normal ?_ | refine EvC.ret ?_ | refine EvC.exit ?_ | refine at_exit ?_ | refine be_same rfl ?_ | refine ro_exit ?_)
      (refine ret_is (v := ov) rfl rfl ?_)
      exact ⟨⟨fun i o e => S1.le _ _ (hG _ _ e), S1.wf⟩, G, c1, hG, S1, R1⟩
end Sa
end Pf
end Go.Proofs.YtfjloafebkjadaaGreatDoor
/- What Solve answers. -/
namespace Go.Proofs.YtfjloafebkjadaaGreatDoor
namespace Pf
namespace Sa
open Go Go.AI Go.Proofs
variable {gt : Tree (List AV)}
/-- A list of clauses, as it lies. -/
def ListAt (h : AH) (pv : AV) (P : List (List Int)) : Prop := ∃ cv : Nat → AV, RowOf h 1 pv P.length (fun i => [cv i]) ∧ ∀ i, i < P.length → IntRow h (cv i) (P.getD i [])
theorem listAt {h : AH} {col : Nat → Nat} {c : Nat} {pv : AV} {P : List (List Int)} {cells : List AV} (V : Vec col c h 35 1 pv P.length cells) (he : ∀ i, i < P.length → ∃ a, cells[i]? = some a ∧ IntRow h a (P.getD i [])) : ListAt h pv P := by
  have e : ∀ i a, cells[i]? = some a → cells.getD i .undef = a := fun i a h1 => by rw [List.getD_eq_getElem?_getD, h1]; rfl
  refine ⟨fun i => cells.getD i .undef, V.row.congr fun i hi => ?_, fun i hi => ?_⟩
  · have hOB := he i hi
    obtain ⟨a, h1, _⟩ := hOB
    rw [Nat.mul_one, List.take_one, List.head?_drop, h1]
    show [a] = [cells.getD i .undef]
    rw [e i a h1]
  · have hOB := he i hi
    obtain ⟨a, h1, h2⟩ := hOB
    show IntRow h (cells.getD i .undef) _
    rw [e i a h1]; exact h2
theorem Beg.work {n : Nat} {L : List (List Int)} {S : Sr} (B : Beg n L S) : S.work = 0 := by
  induction B with
  | nil => rfl
  | taut _ _ _ ih => exact ih
  | add _ _ _ ha ih => rcases ha with ⟨_, rfl⟩ | ⟨y, _, ⟨_, rfl⟩ | ⟨_, rfl⟩ | ⟨_, rfl⟩⟩ | ⟨_, rfl⟩ <;> exact ih
/-- A chain of clauses each of which clashes by units with those before it, down to the empty one. -/
def Rup (n : Nat) (L P : List (List Int)) : Prop := P.getLast? = some [] ∧ ∀ i, i < P.length → Clash (L ++ P.take i) ((P.getD i []).map (- ·)) ∧ (∀ x ∈ P.getD i [], ok n x) ∧ (P.getD i []).Nodup
/-- What Solve answers of a valid set. -/
def SolveSays (h' : AH) (n : Nat) (L : List (List Int)) (r : AV) : Prop :=
  (∃ mv m, r = .tuple [.bool true, mv, .nilSlice, .int .i64 0] ∧ BoolRow h' mv m ∧ m.length = n ∧ allB L m) ∨
  (r = .tuple [.bool false, .nilSlice, .nilSlice, .int .i64 24] ∧ 12 < n ∧ ¬ Clash L []) ∨
  (∃ pv P, r = .tuple [.bool false, .nilSlice, pv, .int .i64 0] ∧ ListAt h' pv P ∧ ((Rup n L P ∧ P.length ≤ 20002) ∨ (n ≤ 12 ∧ P = splitL n (n + 1) ∧ ∀ s, s < 2 ^ n → ¬ allB L (bitsB s n))))
/-- The list that Solve answers is of rows that Solve has made. -/
def SolveOwn (B h' : AH) (r : AV) : Prop := ∃ s m pv e, r = .tuple [s, m, pv, e] ∧ (pv = .nilSlice ∨ ∃ id len cap ex cs, pv = .slice id 0 len cap ex ∧ B.t.get id = none ∧ h'.t.get id = some (.cells cs 35 false) ∧ len ≤ 2 ^ 40 ∧ ∀ i, i < len → ∃ a, cs[i]? = some a ∧ OwnV B h' a)
theorem SolveOwn.nil (B h' : AH) (s m e : AV) : SolveOwn B h' (.tuple [s, m, .nilSlice, e]) := ⟨_, _, _, _, rfl, .inl rfl⟩
theorem SolveOwn.row {B G h' : AH} {col : Nat → Nat} {c k : Nat} {s m pv e : AV} {cells : List AV} (S : HS G h' col) (hB : B.le G) (V : Vec col c h' 35 1 pv k cells) (h0 : c ≠ 0) (hk : k ≤ 2 ^ 40) (ho : ∀ i, i < k → ∃ a, cells[i]? = some a ∧ OwnV B h' a) : SolveOwn B h' (.tuple [s, m, pv, e]) := by
  refine ⟨_, _, _, _, rfl, ?_⟩
  have hc := V.count
  cases V with
  | nil => exact .inl rfl
  | @mk id _ cap ex _ tail hg hc' hn hx =>
    refine .inr ⟨id, k, cap, ex, _, rfl, Sa.HS.none S hB (by rw [hc']; exact h0), hg, hk, fun i hi => ?_⟩
    have hOB := ho i hi
    obtain ⟨a, h1, h2⟩ := hOB
    exact ⟨a, by rw [List.getElem?_append_left (by omega)]; exact h1, h2⟩
theorem found_model {n : Nat} {L : List (List Int)} {S : Sr} {bs : List Bool} (_hbl : bs.length = n) (hbs : ∀ v : Nat, v < n → bs.getD v false = decide (((v + 1 : Nat) : Int) ∈ S.s.tr)) (hcons : ∀ x, x ∈ S.s.tr → -x ∉ S.s.tr) (hall : ∀ l ∈ L, ∃ x ∈ l, x ∈ S.s.tr) (hL : ∀ l ∈ L, ∀ x ∈ l, ok n x) : allB L bs := by
  intro i hi
  have hm : L.getD i [] ∈ L := getDL_mem hi
  have hOB := hall _ hm
  obtain ⟨x, hx, hxt⟩ := hOB
  rw [List.any_eq_true]
  refine ⟨x, hx, ?_⟩
  have hOB := hL _ hm x hx
  obtain ⟨x0, x1, x2⟩ := hOB
  unfold holdsB absI
  by_cases hp : x > 0
  · rw [if_neg (by omega), hbs _ (by omega), show (((x - 1).toNat + 1 : Nat) : Int) = x by omega, decide_eq_true hxt, decide_eq_true hp]; rfl
  · rw [if_pos (by omega), hbs _ (by omega), show (((-x - 1).toNat + 1 : Nat) : Int) = -x by omega, decide_eq_false (hcons x hxt), decide_eq_false hp]; rfl
set_option maxHeartbeats 8000000 in
theorem solveO_spec {h : AH} (hw : WF h) {vars : Int} {cl : AV} {L : List (List Int)} {cv : Nat → AV} (C : CnfAt h vars cl L cv) :
    EvF (TT gt) X 39 [.agg [.int .i64 vars, cl]] h (fun r h' => (h.le h' ∧ WF h') ∧ ((¬ valid vars L ∧ r = .tuple [.bool false, .nilSlice, .nilSlice, .int .i64 2]) ∨ (valid vars L ∧ SolveSays h' vars.toNat L r ∧ SolveOwn h h' r))) := by
  have S0 := HS.all hw
  refine EvF.enter rfl rfl rfl ?_
  repeat (first | refine EvC.seq ?_ | refine EvC.region rfl ?_)
  (refine EvO.cons rfl rfl rfl (EvP.newR (b := .cells [.int .i64 vars, cl] 24 false) (mk := .ptr) S0 rfl rfl (fun h1 b A1 S1 hle1 o1 _ _ => ?_)))
  have f1 := loadAgg (T := TT gt) (t := 24) (off := 0) (n := 2) (r := [.int .i64 vars, cl]) o1 rfl rfl
  repeat (first | refine EvO.plain rfl rfl rfl rfl rfl rfl ?_ | refine EvO.plain rfl rfl rfl rfl rfl (by assumption) ?_ | refine EvC.seq ?_ | refine EvC.region rfl ?_ | refine EvO.nil ?_ | refine at_normal ?_)
  (refine EvO.cons rfl rfl rfl (EvP.callF rfl rfl rfl rfl (EvF.mono (valid_spec (facts gt) S1.wf (C.mono (fun i o e => S1.le _ _ (hle1 _ _ e)))) ?_)))
  rintro _ h2 _ ⟨hg2, rfl⟩
  have hle2 : h.le h2 := fun i o e => hg2.le _ _ (S1.le _ _ (hle1 _ _ e))
  clear f1
  by_cases hv : valid vars L
  · rw [decide_eq_true hv]
    have o2 := hg2.le _ _ o1
    have f2 := loadAgg (T := TT gt) (t := 24) (off := 0) (n := 2) (r := [.int .i64 vars, cl]) o2 rfl rfl
    repeat (first | refine EvO.plain rfl rfl rfl rfl rfl rfl ?_ | refine EvO.nil ?_ | refine at_normal ?_)
    refine EvC.cond (t := false) rfl (fun e => nomatch e) (fun _ => ?_)
    have hOB : ∃ n : Nat, vars = n := ⟨vars.toNat, by have := hv.1; omega⟩
    obtain ⟨n, rfl⟩ := hOB
    have S2 : HS h2 h2 (fun _ => 0) := HS.all hg2.wf
    have hLok : ∀ l ∈ L, ∀ x ∈ l, ok n x := fun l hl => by
      have hOB := List.getElem_of_mem hl
      obtain ⟨i, hi, rfl⟩ := hOB
      have := hv.2.2.2.2 i hi
      rwa [List.getD_eq_getElem?_getD, List.getElem?_eq_getElem hi] at this
    repeat (first | refine EvO.plain rfl rfl rfl rfl rfl (by assumption) ?_ | refine EvC.seq ?_ | refine EvC.region rfl ?_ | refine at_normal ?_ | refine EvC.skip ?_)
    (refine EvO.cons rfl rfl rfl (EvP.callF rfl rfl rfl rfl (EvF.mono (begin_spec S2 (fun _ e => nomatch e) (C.mono hle2) hv) ?_)))
    rintro _ h4 _ ⟨c4, V4, Z4, rfl, A4, C4, B4⟩
    have BI4 := B4.inv hLok
    clear f2
    have hLl : L.length ≤ 200000 := hv.2.2.1
    have CI4 : CI Z4.s := (BI4.ui []).ci
    repeat (first | refine EvO.plain rfl rfl rfl rfl rfl rfl ?_ | refine EvC.seq ?_ | refine EvC.region rfl ?_ | refine EvO.nil ?_ | refine at_normal ?_)
    (refine EvO.cons rfl rfl rfl (EvP.callF rfl rfl rfl rfl (EvF.mono (run_spec hLok hLl (Step.none A4 (by decide) (by decide) (fun _ e => nomatch e)) C4 BI4.W BI4.T CI4 (BI4.linv B4) B4.work B4.learnt BI4.cl BI4.en (B := h) hle2 (B4.own C4)) ?_)))
    rintro _ h5 _ ⟨k, G5, c5, V5, Z5, ⟨hG5, hO5⟩, rfl, hp5, S5, C5, hR⟩
    have hle5 : h.le h5 := fun i o e => S5.le _ _ (hG5 _ _ (hle2 _ _ e))
    have hall : ∀ i, i < L.length → ∀ x ∈ L.getD i [], ok n x := fun i hi => hLok _ (getDL_mem hi)
    rw [← hp5]
    rcases hR with ⟨rfl, hfull, hcons, hmod⟩ | ⟨rfl, hcalm⟩ | ⟨rfl, hcl, hll, hrup⟩
    · repeat (first | refine EvO.plain rfl rfl rfl rfl rfl rfl ?_ | refine EvC.seq ?_ | refine EvC.region rfl ?_ | refine EvO.nil ?_ | refine at_normal ?_ | refine EvC.block ?_)
      refine EvC.cond (t := true) rfl (fun _ => ?_) (fun e => nomatch e)
      repeat (first | refine EvO.plain rfl rfl rfl rfl rfl rfl ?_ | refine EvC.seq ?_ | refine EvC.region rfl ?_)
      (refine EvO.cons rfl rfl rfl (EvP.callF rfl rfl rfl rfl (EvF.mono (told_spec C5) ?_)))
      rintro r6 h6 _ ⟨c6, bs, S6, row6, hbl, hbs⟩
      repeat (first | refine EvO.plain rfl rfl rfl rfl rfl rfl ?_ | refine EvO.nil ?_ | refine at_normal ?_ | refine EvC.ret ?_ | refine at_ret ?_ | refine be_ret ?_)
      (refine ret_are (vs := [.bool true, r6, .nilSlice, .int .i64 0]) rfl rfl ?_)
      exact ⟨⟨fun i o e => S6.le _ _ (hG5 _ _ (hle2 _ _ e)), S6.wf⟩, .inr ⟨hv, .inl ⟨r6, bs, rfl, row6, hbl, found_model hbl hbs hcons hmod hLok⟩, SolveOwn.nil ..⟩⟩
    · have o5 := S5.le _ _ (hG5 _ _ o2)
      have f5 := load1 (T := TT gt) (t := 3) (off := 0) o5 rfl rfl rfl
      repeat (first | refine EvO.plain rfl rfl rfl rfl rfl rfl ?_ | refine EvC.seq ?_ | refine EvC.region rfl ?_ | refine EvO.nil ?_ | refine at_normal ?_ | refine EvC.block ?_)
      refine EvC.cond (t := false) rfl (fun e => nomatch e) (fun _ => ?_)
      repeat (first | refine EvO.plain rfl rfl rfl rfl rfl rfl ?_ | refine EvC.seq ?_ | refine EvC.region rfl ?_ | refine EvO.nil ?_ | refine at_normal ?_)
      refine EvC.cond (t := true) rfl (fun _ => ?_) (fun e => nomatch e)
      repeat (first | refine EvO.plain rfl rfl rfl rfl rfl rfl ?_ | refine EvO.plain rfl rfl rfl rfl rfl (by assumption) ?_ | refine EvC.seq ?_ | refine EvC.region rfl ?_ | refine EvO.nil ?_ | refine at_normal ?_)
      clear f5
      by_cases hn : (n : Int) > 12
      · refine EvC.cond (t := true) (isT (decide_eq_true hn)) (fun _ => ?_) (fun e => nomatch e)
        repeat (first | refine EvO.plain rfl rfl rfl rfl rfl rfl ?_ | refine EvC.seq ?_ | refine EvC.region rfl ?_ | refine EvO.nil ?_ | refine at_normal ?_ | refine EvC.ret ?_ | refine at_ret ?_ | refine be_ret ?_)
        (refine ret_are (vs := [.bool false, .nilSlice, .nilSlice, .int .i64 24]) rfl rfl ?_)
        exact ⟨⟨hle5, S5.wf⟩, .inr ⟨hv, .inr (.inl ⟨rfl, by show 12 < n; omega, hcalm⟩), SolveOwn.nil ..⟩⟩
      · refine EvC.cond (t := false) (isT (decide_eq_false hn)) (fun e => nomatch e) (fun _ => ?_)
        have f6 := loadAgg (T := TT gt) (t := 24) (off := 0) (n := 2) (r := [.int .i64 n, cl]) o5 rfl rfl
        repeat (first | refine EvO.plain rfl rfl rfl rfl rfl (by assumption) ?_ | refine EvC.seq ?_ | refine EvC.region rfl ?_ | refine at_normal ?_ | refine EvC.skip ?_)
        (refine EvO.cons rfl rfl rfl (EvP.callF rfl rfl rfl rfl (EvF.mono (through_spec S5.wf (by omega) (C.mono hle5) hall (ls := []) .nil (fun x hx => nomatch hx) (by decide)) ?_)))
        rintro _ h6 _ ⟨⟨hle6, hw6⟩, hT⟩
        clear f6
        have o6 := hle6 _ _ o5
        have hle06 : h.le h6 := fun i o e => hle6 _ _ (hle5 _ _ e)
        rcases hT with ⟨rfl, hno⟩ | ⟨id, m, rfl, rowm, hml, hA, _⟩
        · repeat (first | refine EvO.plain rfl rfl rfl rfl rfl rfl ?_ | refine EvC.seq ?_ | refine EvC.region rfl ?_ | refine EvO.nil ?_ | refine at_normal ?_)
          refine EvC.cond (t := false) rfl (fun e => nomatch e) (fun _ => ?_)
          have f7 := load1 (T := TT gt) (t := 3) (off := 0) o6 rfl rfl rfl
          repeat (first | refine EvO.plain rfl rfl rfl rfl rfl rfl ?_ | refine EvO.plain rfl rfl rfl rfl rfl (by assumption) ?_ | refine EvC.seq ?_ | refine EvC.region rfl ?_ | refine at_normal ?_ | refine EvC.skip ?_)
          (refine EvO.cons rfl rfl rfl (EvP.callF rfl rfl rfl rfl (EvF.mono (split_spec hw6 (n := n) (by omega)) ?_)))
          rintro r7 h7 _ ⟨⟨hle7, hw7⟩, G7, c7, hG7, S7, cells, V7, hc7⟩
          repeat (first | refine EvO.plain rfl rfl rfl rfl rfl rfl ?_ | refine EvO.nil ?_ | refine at_normal ?_ | refine EvC.ret ?_ | refine at_ret ?_ | refine be_ret ?_)
          (refine ret_are (vs := [.bool false, .nilSlice, r7, .int .i64 0]) rfl rfl ?_)
          exact ⟨⟨fun i o e => hle7 _ _ (hle06 _ _ e), hw7⟩, .inr ⟨hv, .inr (.inr ⟨r7, _, rfl, listAt V7 (fun i hi => by obtain ⟨a, h8, h9⟩ := hc7 i hi; exact ⟨a, h8, RowOf.mono S7.le h9.1⟩), .inr ⟨by show n ≤ 12; omega, rfl, fun s hs hA => hno s hs ⟨fun x hx => (nomatch hx), hA⟩⟩⟩), SolveOwn.row S7 (fun i o e => hG7 _ _ (hle06 _ _ e)) V7 (by decide) (by have h13 := splitL_len n (n + 1) (Nat.le_refl _); have h14 : (n + 1) * 2 ^ n ≤ 13 * 2 ^ 12 := Nat.mul_le_mul (by omega) (Nat.pow_le_pow_right (by decide) (by omega)); omega) (fun i hi => by obtain ⟨a, h8, h9, h10⟩ := hc7 i hi; exact ⟨a, h8, h10.base hle06 S7.le⟩)⟩⟩
        · repeat (first | refine EvO.plain rfl rfl rfl rfl rfl rfl ?_ | refine EvC.seq ?_ | refine EvC.region rfl ?_ | refine EvO.nil ?_ | refine at_normal ?_)
          refine EvC.cond (t := true) rfl (fun _ => ?_) (fun e => nomatch e)
          repeat (first | refine EvO.plain rfl rfl rfl rfl rfl rfl ?_ | refine EvC.seq ?_ | refine EvC.region rfl ?_ | refine EvO.nil ?_ | refine at_normal ?_ | refine EvC.ret ?_ | refine at_ret ?_ | refine be_ret ?_)
          (refine ret_are (vs := [.bool true, .slice id 0 n n true, .nilSlice, .int .i64 0]) rfl rfl ?_)
          exact ⟨⟨hle06, hw6⟩, .inr ⟨hv, .inl ⟨_, m, rfl, rowm, hml, hA⟩, SolveOwn.nil ..⟩⟩
    · repeat (first | refine EvO.plain rfl rfl rfl rfl rfl rfl ?_ | refine EvC.seq ?_ | refine EvC.region rfl ?_ | refine EvO.nil ?_ | refine at_normal ?_ | refine EvC.block ?_)
      refine EvC.cond (t := false) rfl (fun e => nomatch e) (fun _ => ?_)
      repeat (first | refine EvO.plain rfl rfl rfl rfl rfl rfl ?_ | refine EvC.seq ?_ | refine EvC.region rfl ?_ | refine EvO.nil ?_ | refine at_normal ?_)
      refine EvC.cond (t := false) rfl (fun e => nomatch e) (fun _ => ?_)
      have f6 := C5.fld (gt := gt) (t := 22) (off := 10) rfl rfl rfl
      repeat (first | refine EvO.plain rfl rfl rfl rfl rfl rfl ?_ | refine EvO.plain rfl rfl rfl rfl rfl (by assumption) ?_ | refine EvC.seq ?_ | refine EvC.region rfl ?_ | refine at_normal ?_ | refine EvC.skip ?_ | refine be_normal ?_)
      clear f6
      (refine EvO.cons rfl rfl rfl (EvP.newR (b := .cells [.nilSlice] 35 false) (mk := .slice 1 1 true) S5 rfl rfl (fun h6 id6 A6 S6 hle6 o6 _ _ => ?_)))
      have VL := C5.lea.step A6 S5.wf (fun e => e)
      skip
      refine EvO.cons rfl rfl rfl (EvP.appendC S6 VL (by decide) rfl rfl rfl rfl rfl rfl rfl rfl rfl (by decide) rfl rfl (afirst_all o6 rfl) rfl (by decide) rfl (by show (Z5.learnt.length + 1) * 24 ≤ 70368744177664; omega) (by omega) (fun pv h7 c7 A7 S7 X7 => ?_))
      repeat (first | refine EvO.plain rfl rfl rfl rfl rfl rfl ?_ | refine EvO.nil ?_ | refine at_normal ?_ | refine EvC.ret ?_)
      (refine ret_are (vs := [.bool false, .nilSlice, pv, .int .i64 0]) rfl rfl ?_)
      have hle7 : h.le h7 := fun i o e => S7.le _ _ (hle6 _ _ (hG5 _ _ (hle2 _ _ e)))
      have hrn : V5.rn.length = Z5.learnt.length := by have := C5.lea.count; omega
      refine ⟨⟨hle7, S7.wf⟩, .inr ⟨hv, .inr (.inr ⟨pv, Z5.learnt ++ [[]], rfl, listAt (by rw [List.length_append]; exact X7) (fun i hi => ?_), .inl ⟨⟨by simp, fun i hi => ?_⟩, by rw [List.length_append, List.length_singleton]; omega⟩⟩), SolveOwn.row S7 (fun i o e => hle6 _ _ (hG5 _ _ (hle2 _ _ e))) X7 (by decide) (by omega) fun i hi => ?_⟩⟩
      · rw [List.length_append, List.length_singleton] at hi
        have hOB := Nat.lt_or_ge i Z5.learnt.length
        rcases hOB with h8 | h8
        · have hOB := C5.lear i h8
          obtain ⟨a, h9, h10⟩ := hOB
          rw [List.getElem?_append_left (by omega), getD_app h8]
          exact ⟨a, h9, RowOf.mono (fun i o e => S7.le _ _ (hle6 _ _ e)) h10⟩
        · have hOB : i = Z5.learnt.length := by omega
          obtain rfl := hOB
          rw [List.getElem?_append_right (by omega), getD_new, hrn, Nat.sub_self]
          exact ⟨.nilSlice, rfl, .nil⟩
      · rw [List.length_append, List.length_singleton] at hi
        have hOB := Nat.lt_or_ge i Z5.learnt.length
        rcases hOB with h8 | h8
        · rw [List.take_append_of_le_length (by omega), getD_app h8]; exact hrup i h8
        · have hOB : i = Z5.learnt.length := by omega
          obtain rfl := hOB
          rw [List.take_append_of_le_length (Nat.le_refl _), List.take_length, getD_new]; exact ⟨hcl, fun x hx => (nomatch hx), List.nodup_nil⟩
      · have hO7 : OwnN h h7 (V5.rn ++ [.nilSlice]) := (hO5.mono (fun i o e => S7.le _ _ (hle6 _ _ e))).snoc (.inl rfl)
        have hi2 : i < (V5.rn ++ [AV.nilSlice]).length := by rw [List.length_append, List.length_singleton]; omega
        exact ⟨_, List.getElem?_eq_getElem hi2, hO7 _ (List.getElem_mem hi2)⟩
  · rw [decide_eq_false hv]
    repeat (first | refine EvO.plain rfl rfl rfl rfl rfl rfl ?_ | refine EvO.nil ?_ | refine at_normal ?_)
    refine EvC.cond (t := true) rfl (fun _ => ?_) (fun e => nomatch e)
    repeat (first | refine EvO.plain rfl rfl rfl rfl rfl rfl ?_ | refine EvC.seq ?_ | refine EvC.region rfl ?_ | refine EvO.nil ?_ | refine at_normal ?_ | refine EvC.ret ?_ | refine at_ret ?_)
    (refine ret_are (vs := [.bool false, .nilSlice, .nilSlice, .int .i64 2]) rfl rfl ?_)
    exact ⟨⟨hle2, hg2.wf⟩, .inl ⟨hv, rfl⟩⟩
theorem solve_spec {h : AH} (hw : WF h) {vars : Int} {cl : AV} {L : List (List Int)} {cv : Nat → AV} (C : CnfAt h vars cl L cv) :
    EvF (TT gt) X 39 [.agg [.int .i64 vars, cl]] h (fun r h' => (h.le h' ∧ WF h') ∧ ((¬ valid vars L ∧ r = .tuple [.bool false, .nilSlice, .nilSlice, .int .i64 2]) ∨ (valid vars L ∧ SolveSays h' vars.toNat L r))) :=
  EvF.mono (solveO_spec hw C) (by
    rintro r h' _ ⟨h1, h2 | ⟨h2, h3, _⟩⟩
    · exact ⟨h1, .inl h2⟩
    · exact ⟨h1, .inr ⟨h2, h3⟩⟩)
end Sa
end Pf
end Go.Proofs.YtfjloafebkjadaaGreatDoor
