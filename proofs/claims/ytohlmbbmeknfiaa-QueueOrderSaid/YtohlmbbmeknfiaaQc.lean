/- An item is moved to its place. -/
import Derived.Test.YtohlmbbmeknfiaaQb
namespace Go.Proofs.Ytohlmbbmeknfiaa
namespace Pf
open Go Go.AI Go.AI.Q Go.Proofs
variable {gt : Tree (List AV)}
theorem par_eq {i : Nat} (h0 : 0 < i) (hb : i ≤ 2 ^ 40) : abinOp (TT gt) .quo true 3 (.int .i64 ((i : Int) - 1)) (.int .i64 2) = some (.int .i64 (par i : Nat)) := by
  have e : ((i : Int) - 1).tdiv 2 = (par i : Nat) := by
    rw [Int.tdiv_eq_ediv_of_nonneg (by omega)]; unfold par; omega
  show (if (2 : Int) = 0 then none else some (AV.int .i64 (IntKind.i64.wrap (((i : Int) - 1).tdiv 2)))) = _
  rw [if_neg (by decide), e, IntWalk.i64_in _ (by have : par i ≤ i := by unfold par; omega
                                                  omega)]
theorem lt_le {a b c : It} (h : lt a b) (g : le b c) : lt a c := by unfold le lt at *; omega
theorem dbl_eq {i : Nat} : par (2 * i + 1) = i ∧ par (2 * i + 2) = i := by unfold par; omega
theorem kid {i j : Nat} (h0 : 0 < j) (h : par j = i) : j = 2 * i + 1 ∨ j = 2 * i + 2 := by unfold par at h; omega
set_option maxHeartbeats 4000000 in
theorem settle_spec {G h : AH} {col : Nat → Nat} {p : Nat} {hv mv : AV} {hp : List It} {m : List (Int × AV)} (q : QAt G h col p hv mv hp m) (fr : Free col) {i : Nat} (hi : i < hp.length) (B : But hp i) :
    EvF (TT gt) X 31 [.ptr p 0, .int .i64 i] h (fun r h' => Step R3 col h col h' ∧ ∃ hp' m', QAt G h' col p hv mv hp' m' ∧ Same hp hp' ∧ Hp hp') := by
  refine EvF.enter rfl rfl rfl ?_
  refine EvC.seq ?_
  refine EvC.join ((fun σ h' => ∃ (k : Nat) (hp' : List It) (m' : List (Int × AV)) (E : Nat → AV), Step R3 col h col h' ∧ QAt G h' col p hv mv hp' m' ∧ Same hp hp' ∧ k < hp'.length ∧ Dn hp' k ∧ σ = upds [(0, .ptr p 0), (1, .int .i64 k)] E)) ?_ ?_
  · refine EvC.block ?_
    refine EvC.loop (fun c σ h' => ∃ (k : Nat) (hp' : List It) (m' : List (Int × AV)) (E : Nat → AV), Step R3 col h col h' ∧ QAt G h' col p hv mv hp' m' ∧ Same hp hp' ∧ k < hp'.length ∧ But hp' k ∧ c = k ∧ σ = upds [(0, .ptr p 0), (1, .int .i64 k)] E) (i) ?_ ?_
    · exact ⟨i, hp, m, _, (Step.refl q.hs), q, Same.refl hp, hi, B, rfl, hold ⟨rfl, rfl, trivial⟩⟩
    · clear B hi
      rintro k _ h1 ⟨_, hp1, m1, E, A1, q1, s1, hk, B1, rfl, rfl⟩
      have hs := q1.sml
      have fq := q1.fld (gt := gt) (t := 51) (off := 1) rfl rfl rfl
      repeat (refine EvC.seq ?_)
      refine EvC.drawn (p := [⟨0, false, 0, 0⟩, ⟨1, false, 0, 0⟩, ⟨2, false, 0, 0⟩, ⟨3, false, 0, 0⟩, ⟨4, false, 0, 0⟩, ⟨5, false, 0, 0⟩, ⟨6, false, 0, 0⟩, ⟨7, false, 0, 0⟩, ⟨8, false, 0, 0⟩, ⟨9, false, 0, 0⟩, ⟨10, false, 0, 0⟩, ⟨11, false, 0, 0⟩, ⟨12, false, 0, 0⟩, ⟨13, false, 0, 0⟩, ⟨14, false, 0, 0⟩, ⟨15, false, 0, 0⟩, ⟨16, false, 0, 0⟩, ⟨17, false, 0, 0⟩, ⟨18, false, 0, 0⟩, ⟨19, true, 0, 1⟩, ⟨20, false, 1, 1⟩]) rfl (by kernel_rfl) (by kernel_rfl) rfl ?_
      repeat (refine EvR.plain rfl rfl rfl rfl rfl rfl rfl ?_)
      (refine EvR.cons rfl rfl rfl rfl (EvP.bool rfl rfl (fun q0 => ?_) (fun q0 => ?_)))
      · have q0 := of_decide_eq_true q0
        have k0 : 0 < k := by omega
        have hpk : par k < hp1.length := by unfold par; omega
        have hOB := q1.heap.at_ (T := TT gt) (t := 51) (t3 := 3) rfl rfl rfl rfl rfl rfl (k := .i64) (i := (k : Int)) (by omega) (by omega)
        obtain ⟨id, a1, a2, _, _⟩ := hOB
        have hOB := q1.heap.at_ (T := TT gt) (t := 51) (t3 := 3) rfl rfl rfl rfl rfl rfl (k := .i64) (i := (par k : Int)) (by omega) (by omega)
        obtain ⟨id', b1, b2, _, _⟩ := hOB
        rw [Int.toNat_natCast] at a1 a2 b1 b2
        repeat (first | refine EvR.plain rfl rfl rfl rfl rfl rfl rfl ?_ | refine EvR.plainOn rfl rfl rfl rfl rfl rfl rfl ?_ | refine EvR.plainOn rfl rfl rfl rfl rfl rfl (by assumption) ?_ | refine EvR.on rfl rfl rfl rfl (EvP.sub64 rfl rfl (by omega) ?_))
        (refine EvR.on rfl rfl rfl rfl (EvP.quiet rfl (par_eq (gt := gt) k0 (by omega)) ?_))
        repeat (refine EvR.plainOn rfl rfl rfl rfl rfl rfl (by assumption) ?_)
        (refine EvR.on rfl rfl rfl rfl (EvP.callF rfl rfl rfl rfl (EvF.mono (before_spec q1.hs (at' hp1 k) (at' hp1 (par k))) ?_)))
        rintro _ h2 _ ⟨rfl, A2, S2⟩
        have q2 := q1.other A2 (fun _ e => e.elim) S2
        have C2 := A1.trans (A2.mono fun _ e => e.elim)
        clear fq a1 a2 b1 b2
        repeat (first | refine at_normal ?_ | refine EvR.nil ?_ | refine EvR.plain rfl rfl rfl rfl rfl rfl rfl ?_)
        refine EvC.decide rfl (fun hlt => ?_) (fun hlt => ?_)
        · repeat (first | refine EvO.plain rfl rfl rfl rfl rfl rfl ?_ | refine EvC.seq ?_ | refine EvC.region rfl ?_ | refine at_normal ?_ | refine EvC.skip ?_ | refine EvC.block ?_ | refine EvO.cons rfl rfl rfl (EvP.sub64 rfl rfl (by omega) ?_))
          (refine EvO.cons rfl rfl rfl (EvP.quiet rfl (par_eq (gt := gt) k0 (by omega)) ?_))
          skip
          (refine EvO.cons rfl rfl rfl (EvP.callF rfl rfl rfl rfl (EvF.mono (swap_spec q2 fr hk hpk) ?_)))
          rintro _ h3 _ ⟨A3, m3, q3⟩
          repeat (first | refine EvO.plain rfl rfl rfl rfl rfl rfl ?_ | refine EvC.region rfl ?_ | refine EvO.nil ?_ | refine at_normal ?_ | refine EvO.cons rfl rfl rfl (EvP.sub64 rfl rfl (by omega) ?_))
          (refine EvO.cons rfl rfl rfl (EvP.quiet rfl (par_eq (gt := gt) k0 (by omega)) ?_))
          repeat (first | refine EvO.plain rfl rfl rfl rfl rfl rfl ?_ | refine EvO.nil ?_ | refine be_normal ?_ | refine ro_normal ?_)
          exact ⟨par k, by unfold par; omega, par k, _, m3, _, C2.trans A3, q3, s1.trans (Same.swap hk hpk), by rw [swap_len]; exact hpk, Go.AI.Q.up B1 k0 hk hlt, rfl, hold ⟨rfl, rfl, trivial⟩⟩
        · repeat (first | refine EvC.exit ?_ | refine at_exit ?_ | refine be_same rfl ?_ | refine ro_exit ?_ | refine jo_normal ?_)
          exact ⟨k, hp1, m1, _, C2, q2, s1, hk, ⟨B1, fun _ => hlt⟩, hold ⟨rfl, rfl, trivial⟩⟩
      · have q0 := of_decide_eq_false q0
        clear fq
        repeat (first | refine at_normal ?_ | refine EvR.nil ?_ | refine EvR.plain rfl rfl rfl rfl rfl rfl rfl ?_ | refine EvR.off rfl rfl rfl rfl ?_)
        refine EvC.cond (t := false) rfl (fun e => nomatch e) (fun _ => ?_)
        repeat (first | refine EvC.exit ?_ | refine at_exit ?_ | refine be_same rfl ?_ | refine ro_exit ?_ | refine jo_normal ?_)
        exact ⟨k, hp1, m1, _, A1, q1, s1, hk, ⟨B1, fun e => by omega⟩, hold ⟨rfl, rfl, trivial⟩⟩
  · rintro σ h1 ⟨k, hp1, m1, E, A1, q1, s1, hk, D1, rfl⟩
    refine at_normal ?_
    refine EvC.block ?_
    refine EvC.loop (fun c σ h' => ∃ (k : Nat) (hp' : List It) (m' : List (Int × AV)) (E : Nat → AV), Step R3 col h col h' ∧ QAt G h' col p hv mv hp' m' ∧ Same hp hp' ∧ k < hp'.length ∧ Dn hp' k ∧ c = hp.length - k ∧ σ = upds [(0, .ptr p 0), (1, .int .i64 k)] E) (hp.length - k) ?_ ?_
    · exact ⟨k, hp1, m1, _, A1, q1, s1, hk, D1, rfl, hold ⟨rfl, rfl, trivial⟩⟩
    · clear A1 q1 s1 hk D1 B hi
      rintro _ _ h2 ⟨i, hp2, m2, E, A2, q2, s2, hi, D2, rfl, rfl⟩
      have hs := q2.sml
      have hl2 := s2.len
      refine EvC.block ?_
      repeat (first | refine EvO.plain rfl rfl rfl rfl rfl rfl ?_ | refine EvC.seq ?_ | refine EvC.region rfl ?_ | refine EvO.nil ?_ | refine at_normal ?_ | refine EvC.block ?_ | refine EvO.cons rfl rfl rfl (EvP.add64 rfl rfl (by omega) ?_) | refine EvO.cons rfl rfl rfl (EvP.mul64 rfl rfl (by omega) ?_))
      refine EvC.mono (Q := fun ex σ h' => ex = AExit.exit 4 ∧ ∃ (l : Nat) (E : Nat → AV), Step R3 col h col h' ∧ QAt G h' col p hv mv hp2 m2 ∧ l < hp2.length ∧ (l = i ∨ (0 < l ∧ par l = i ∧ lt (at' hp2 l) (at' hp2 i))) ∧ le (at' hp2 l) (at' hp2 i) ∧ (∀ j, 0 < j → j < hp2.length → par j = i → le (at' hp2 l) (at' hp2 j)) ∧ σ = upds [(0, .ptr p 0), (1, .int .i64 i), (4, .int .i64 l)] E) ?_ ?_
      · refine EvC.loop (fun c σ h' => ∃ (l ch : Nat) (E : Nat → AV), Step R3 col h col h' ∧ QAt G h' col p hv mv hp2 m2 ∧ l < hp2.length ∧ (l = i ∨ (0 < l ∧ par l = i ∧ lt (at' hp2 l) (at' hp2 i))) ∧ le (at' hp2 l) (at' hp2 i) ∧ (∀ j, 0 < j → j < hp2.length → par j = i → j < ch → le (at' hp2 l) (at' hp2 j)) ∧ 2 * i + 1 ≤ ch ∧ ch ≤ 2 * i + 3 ∧ c = 2 * i + 3 - ch ∧ σ = upds [(0, .ptr p 0), (1, .int .i64 i), (4, .int .i64 l), (5, .int .i64 ch)] E) (2) ?_ ?_
        · exact ⟨i, 2 * i + 1, _, A2, q2, hi, .inl rfl, le_refl _, fun j j0 _ hj hc => by have := kid j0 hj; omega, Nat.le_refl _, by omega, by omega, hold ⟨rfl, rfl, rfl, congrArg (AV.int .i64) (by omega), trivial⟩⟩
        · clear A2 q2
          rintro _ _ h3 ⟨l, ch, E, A3, q3, hl, hli, hle, hmin, c1, c2, rfl, rfl⟩
          have fq := q3.fld (gt := gt) (t := 51) (off := 1) rfl rfl rfl
          have ln := q3.heap.row.len_any (T := TT gt) (t := 51) rfl h3
          repeat (first | refine EvO.plain rfl rfl rfl rfl rfl rfl ?_ | refine EvC.seq ?_ | refine EvC.region rfl ?_ | refine EvO.cons rfl rfl rfl (EvP.add64 rfl rfl (by omega) ?_) | refine EvO.cons rfl rfl rfl (EvP.mul64 rfl rfl (by omega) ?_))
          (refine EvO.cons rfl rfl rfl (EvP.bool rfl rfl (fun q0 => ?_) (fun q0 => ?_)))
          · have q0 := of_decide_eq_true q0
            repeat (first | refine EvO.plain rfl rfl rfl rfl rfl rfl ?_ | refine EvO.plainOn rfl rfl rfl rfl rfl rfl ?_ | refine EvO.plainOn rfl rfl rfl rfl rfl (by assumption) ?_)
            refine EvO.on rfl rfl rfl (EvP.quiet rfl rfl ?_)
            repeat (first | refine EvO.plain rfl rfl rfl rfl rfl rfl ?_ | refine EvO.nil ?_ | refine at_normal ?_)
            clear ln
            refine EvC.decide rfl (fun hc => ?_) (fun hc => ?_)
            · have hch : ch < hp2.length := by omega
              have hOB := q3.heap.at_ (T := TT gt) (t := 51) (t3 := 3) rfl rfl rfl rfl rfl rfl (k := .i64) (i := (ch : Int)) (by omega) (by omega)
              obtain ⟨id, a1, a2, _, _⟩ := hOB
              have hOB := q3.heap.at_ (T := TT gt) (t := 51) (t3 := 3) rfl rfl rfl rfl rfl rfl (k := .i64) (i := (l : Int)) (by omega) (by omega)
              obtain ⟨id', b1, b2, _, _⟩ := hOB
              rw [Int.toNat_natCast] at a1 a2 b1 b2
              have hpc : par ch = i := by
                have : ch = 2 * i + 1 ∨ ch = 2 * i + 2 := by omega
                rcases this with e | e <;> rw [e]
                · exact dbl_eq.1
                · exact dbl_eq.2
              repeat (first | refine EvC.seq ?_ | refine at_normal ?_ | refine EvC.skip ?_ | refine EvC.block ?_)
              refine EvC.drawn (p := [⟨0, false, 0, 0⟩, ⟨1, false, 0, 0⟩, ⟨2, false, 0, 0⟩, ⟨3, false, 0, 0⟩, ⟨4, false, 0, 0⟩, ⟨5, false, 0, 0⟩, ⟨6, false, 0, 0⟩, ⟨7, false, 0, 0⟩, ⟨8, false, 0, 0⟩, ⟨9, false, 0, 0⟩, ⟨10, false, 0, 0⟩, ⟨11, false, 0, 0⟩, ⟨12, false, 0, 0⟩, ⟨13, false, 0, 0⟩, ⟨14, true, 0, 1⟩]) rfl (by kernel_rfl) (by kernel_rfl) rfl ?_
              repeat (first | refine EvR.plain rfl rfl rfl rfl rfl rfl rfl ?_ | refine EvR.plain rfl rfl rfl rfl rfl rfl (by assumption) ?_)
              (refine EvR.cons rfl rfl rfl rfl (EvP.callF rfl rfl rfl rfl (EvF.mono (before_spec q3.hs (at' hp2 ch) (at' hp2 l)) ?_)))
              rintro _ h4 _ ⟨rfl, A4, S4⟩
              have q4 := q3.other A4 (fun _ e => e.elim) S4
              have C4 := A3.trans (A4.mono fun _ e => e.elim)
              clear fq a1 a2 b1 b2
              repeat (first | refine at_normal ?_ | refine EvR.nil ?_)
              refine EvC.decide rfl (fun hlt => ?_) (fun hlt => ?_)
              · repeat (first | refine EvO.plain rfl rfl rfl rfl rfl rfl ?_ | refine EvC.region rfl ?_ | refine EvO.nil ?_ | refine at_normal ?_ | refine be_normal ?_ | refine ro_normal ?_ | refine EvO.cons rfl rfl rfl (EvP.add64 rfl rfl (by omega) ?_))
                refine ⟨2 * i + 3 - (ch + 1), by omega, ch, ch + 1, _, C4, q4, hch, .inr ⟨by omega, hpc, ?_⟩, le_trans (le_of_lt hlt) hle, fun j j0 hj hpj hjc => ?_, by omega, by omega, rfl, hold ⟨rfl, rfl, rfl, rfl, trivial⟩⟩
                · exact lt_le hlt hle
                · have hOB := Nat.lt_or_ge j ch
                  rcases hOB with h' | h'
                  · exact le_trans (le_of_lt hlt) (hmin j j0 hj hpj h')
                  · have hOB : j = ch := by omega
                    obtain rfl := hOB
                    exact le_refl _
              · repeat (first | refine EvO.plain rfl rfl rfl rfl rfl rfl ?_ | refine EvC.region rfl ?_ | refine EvO.nil ?_ | refine at_normal ?_ | refine EvC.skip ?_ | refine be_normal ?_ | refine ro_normal ?_ | refine EvO.cons rfl rfl rfl (EvP.add64 rfl rfl (by omega) ?_))
                refine ⟨2 * i + 3 - (ch + 1), by omega, l, ch + 1, _, C4, q4, hl, hli, hle, fun j j0 hj hpj hjc => ?_, by omega, by omega, rfl, hold ⟨rfl, rfl, rfl, rfl, trivial⟩⟩
                have hOB := Nat.lt_or_ge j ch
                rcases hOB with h' | h'
                · exact hmin j j0 hj hpj h'
                · have hOB : j = ch := by omega
                  obtain rfl := hOB
                  exact hlt
            · clear fq
              repeat (first | refine EvC.exit ?_ | refine at_exit ?_ | refine ro_exit ?_)
              exact ⟨rfl, l, _, A3, q3, hl, hli, hle, fun j j0 hj hpj => hmin j j0 hj hpj (by omega), hold ⟨rfl, rfl, rfl, trivial⟩⟩
          · have q0 := of_decide_eq_false q0
            clear fq ln
            repeat (first | refine EvO.plain rfl rfl rfl rfl rfl rfl ?_ | refine EvO.nil ?_ | refine at_normal ?_ | refine EvO.off rfl rfl rfl ?_)
            refine EvC.cond (t := false) rfl (fun e => nomatch e) (fun _ => ?_)
            repeat (first | refine EvC.exit ?_ | refine at_exit ?_ | refine ro_exit ?_)
            exact ⟨rfl, l, _, A3, q3, hl, hli, hle, fun j j0 hj hpj => hmin j j0 hj hpj (by have := kid j0 hpj; omega), hold ⟨rfl, rfl, rfl, trivial⟩⟩
      · rintro _ σ h3 _ ⟨rfl, l, E, A3, q3, hl, hli, hle, hmin, rfl⟩
        repeat (first | refine EvO.plain rfl rfl rfl rfl rfl rfl ?_ | refine EvC.seq ?_ | refine EvC.region rfl ?_ | refine EvO.nil ?_ | refine at_normal ?_ | refine be_same rfl ?_)
        by_cases e : l = i
        · refine EvC.cond (t := true) (isT (by rw [e, beq_self_eq_true])) (fun _ => ?_) (fun e => nomatch e)
          repeat (first | refine EvC.ret ?_ | refine at_ret ?_ | refine be_ret ?_ | refine ro_ret ?_)
          exact end_ret rfl ⟨A3, hp2, m2, q3, s2, Go.AI.Q.done D2 (by rw [e] at hmin; exact hmin)⟩
        · refine EvC.cond (t := false) (isT (by rw [beq_eq_false_iff_ne]; omega)) (fun e => nomatch e) (fun _ => ?_)
          rcases hli with h' | ⟨l0, lp, llt⟩
          · exact absurd h' e
          · repeat (first | refine EvO.plain rfl rfl rfl rfl rfl rfl ?_ | refine EvC.seq ?_ | refine EvC.region rfl ?_ | refine at_normal ?_ | refine EvC.skip ?_)
            (refine EvO.cons rfl rfl rfl (EvP.callF rfl rfl rfl rfl (EvF.mono (swap_spec q3 fr hi hl) ?_)))
            rintro _ h4 _ ⟨A4, m4, q4⟩
            repeat (first | refine EvO.plain rfl rfl rfl rfl rfl rfl ?_ | refine EvC.region rfl ?_ | refine EvO.nil ?_ | refine at_normal ?_ | refine be_normal ?_ | refine ro_normal ?_)
            have hil : i < l := by unfold par at lp; omega
            exact ⟨hp.length - l, by omega, l, _, m4, _, A3.trans A4, q4, s2.trans (Same.swap hi hl), by rw [swap_len]; exact hl, Go.AI.Q.down D2 l0 hl lp llt hmin, rfl, hold ⟨rfl, rfl, trivial⟩⟩
end Pf
end Go.Proofs.Ytohlmbbmeknfiaa
