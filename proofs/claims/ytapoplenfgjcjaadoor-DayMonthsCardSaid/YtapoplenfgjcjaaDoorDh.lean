/- What the statements about the day compute: DayMonths. Own work. -/
import Derived.Test.YtapoplenfgjcjaaDoorDg
set_option maxRecDepth 100000
set_option linter.unusedSimpArgs false
set_option linter.unusedVariables false
namespace Go.Proofs.YtapoplenfgjcjaaDoor
open Go GoV

theorem mon_out {n k : Int} (h : ¬(0 ≤ n ∧ n ≤ 40000)) : mon n k = (0, 13) := by
  unfold mon; rw [if_neg (fun hh => h ⟨hh.1, hh.2.1⟩)]

theorem mon_zero {n : Int} (h : 0 ≤ n ∧ n ≤ 40000) : mon n 0 = (n, 0) := by
  obtain ⟨s1, s2, ⟨v1, v2, v3, v4⟩, s4⟩ := dat_spec h
  unfold mon
  rw [if_pos ⟨h.1, h.2, by omega, by omega, by omega⟩]
  have e1 : (12 * (dat n).1 + (dat n).2.1 - 1 + 0) / 12 = (dat n).1 := by omega
  have e2 : (12 * (dat n).1 + (dat n).2.1 - 1 + 0) % 12 + 1 = (dat n).2.1 := by omega
  simp only [e1, e2]
  have e3 : min (dat n).2.2 (mlen (dat n).1 (dat n).2.1) = (dat n).2.2 := by omega
  rw [e3, if_pos ⟨s1, s2, by omega⟩, s4]

/-- What a month's step gives. -/
theorem mon_some {n k : Int} (h : (mon n k).2 = 0) : ∃ Y Mo Da y m d : Int, dat n = (Y, Mo, Da) ∧ 2000 ≤ Y ∧ Valid Y Mo Da ∧ num Y Mo Da = n ∧ 0 ≤ n ∧ n ≤ 40000 ∧ -12000 ≤ k ∧ k ≤ 12000 ∧
    2000 ≤ y ∧ y ≤ 2109 ∧ Valid y m d ∧ d = min Da (mlen y m) ∧ 12 * y + m = 12 * Y + Mo + k ∧ num y m d ≤ 40000 ∧ mon n k = (num y m d, 0) ∧ dat (num y m d) = (y, m, d) ∧ 0 ≤ num y m d := by
  unfold mon at h
  split at h
  case isFalse => simp at h
  rename_i hk
  simp only at h
  split at h
  case isFalse => simp at h
  rename_i hi
  obtain ⟨s1, s2, ⟨v1, v2, v3, v4⟩, s4⟩ := dat_spec (n := n) ⟨hk.1, hk.2.1⟩
  have hmm : mon n k = (num ((12 * (dat n).1 + (dat n).2.1 - 1 + k) / 12) ((12 * (dat n).1 + (dat n).2.1 - 1 + k) % 12 + 1) (min (dat n).2.2 (mlen ((12 * (dat n).1 + (dat n).2.1 - 1 + k) / 12) ((12 * (dat n).1 + (dat n).2.1 - 1 + k) % 12 + 1))), 0) := by
    unfold mon; rw [if_pos hk]; simp only; rw [if_pos hi]
  have l1 := mlen_le ((12 * (dat n).1 + (dat n).2.1 - 1 + k) / 12) ((12 * (dat n).1 + (dat n).2.1 - 1 + k) % 12 + 1)
  have hv : Valid ((12 * (dat n).1 + (dat n).2.1 - 1 + k) / 12) ((12 * (dat n).1 + (dat n).2.1 - 1 + k) % 12 + 1) (min (dat n).2.2 (mlen ((12 * (dat n).1 + (dat n).2.1 - 1 + k) / 12) ((12 * (dat n).1 + (dat n).2.1 - 1 + k) % 12 + 1))) :=
    ⟨by omega, by omega, by omega, by omega⟩
  exact ⟨(dat n).1, (dat n).2.1, (dat n).2.2, _, _, _, rfl, s1, ⟨v1, v2, v3, v4⟩, s4, hk.1, hk.2.1, hk.2.2.1, hk.2.2.2.1, hi.1, hi.2.1, hv, rfl, by omega, hi.2.2, hmm, dat_num hi.1 hv hi.2.2, num_nonneg hv hi⟩

theorem mon_val (n k : Int) : (mon n k).2 = 0 ∨ mon n k = (0, 13) := by
  unfold mon
  split
  · simp only; split
    · exact .inl rfl
    · exact .inr rfl
  · exact .inr rfl

/-- Back. -/
theorem mon_back {n k Y Mo Da y m d : Int} (h0 : dat n = (Y, Mo, Da)) (h1 : 2000 ≤ Y) (h2 : Valid Y Mo Da) (h3 : num Y Mo Da = n) (h4 : n ≤ 40000) (k1 : -12000 ≤ k) (k2 : k ≤ 12000)
    (g1 : 2000 ≤ y) (g2 : Valid y m d) (g3 : d = min Da (mlen y m)) (g4 : 12 * y + m = 12 * Y + Mo + k) (g5 : num y m d ≤ 40000) : ∃ b, mon (num y m d) (0 - k) = (b, 0) ∧ b ≤ n ∧ n - 3 ≤ b := by
  have g0 : 0 ≤ num y m d := num_nonneg g2 ⟨g1, year_le g1 g2 g5, g5⟩
  have gd := dat_num g1 g2 g5
  obtain ⟨v1, v2, v3, v4⟩ := h2
  obtain ⟨u1, u2, u3, u4⟩ := g2
  have l1 := mlen_le y m
  have l2 := mlen_le Y Mo
  refine ⟨num Y Mo d, ?_, by unfold num at *; omega, by unfold num at *; omega⟩
  unfold mon
  rw [gd]
  simp only
  have e0 : 12 * y + m - 1 + (0 - k) = 12 * Y + Mo - 1 := by omega
  rw [e0]
  have e1 : (12 * Y + Mo - 1) / 12 = Y := by omega
  have e2 : (12 * Y + Mo - 1) % 12 + 1 = Mo := by omega
  simp only [e1, e2]
  have e3 : min d (mlen Y Mo) = d := by omega
  rw [e3, if_pos ⟨g0, g5, by omega, by omega, by omega⟩, if_pos ⟨h1, year_le h1 ⟨v1, v2, v3, v4⟩ (by omega), by unfold num at *; omega⟩]

theorem DayMonths_p (n k : Int) (k1 : -9223372036854775808 ≤ k) (k2 : k ≤ 9223372036854775807) : Pur M 5 [.int .i64 n, .int .i64 k] (.bool true) := by
  refine ok5 rfl ?_
  rw [i5]
  unfold c5
  have hm := months_p n k k1 k2
  have hs := months_p n 0 (by decide) (by decide)
  by_cases h : 0 ≤ n ∧ n ≤ 40000
  case neg =>
    rw [mon_out h] at hm hs
    simp only at hm hs
    repeat' (first
    | with_reducible apply swp_seq
    | with_reducible apply swp_reg
    | with_reducible apply swp_regD
    | with_reducible apply swp_block
    | with_reducible apply swp_exit
    | with_reducible apply swp_ret
    | with_reducible apply swp_skip
    | with_reducible apply swp_cd
    | simp only [go_sem, Nat.reduceAdd, Nat.reduceSub, Nat.reduceMul, Nat.reduceEqDiff, Nat.reduceLeDiff, Nat.reduceLT, Int.reduceEq, Int.reduceNe, Int.reduceLT, Int.reduceLE, Int.reduceAdd, Int.reduceSub, Int.reduceMul, Int.reduceNeg, Int.reduceToNat, Int.reduceTDiv, Int.reduceTMod, Int.reduceBEq, Int.reduceBNe, decide_true, decide_false, reduceCtorEq, reduceIte, P5, q5, eqDs, beq_self_eq_true, Bool.and_true]
    | simp (disch := omega) only [w64]
    | with_reducible apply cd_dec
    | with_reducible apply cd_eq
    | with_reducible apply cd_ne
    | with_reducible apply cd_split
    | with_reducible apply gd_dec
    | with_reducible apply gd_eq
    | with_reducible apply gd_ne
    | with_reducible apply gd_split
    | with_reducible apply gq_dec
    | with_reducible apply gq_eq
    | with_reducible apply gq_ne
    | with_reducible apply gq_split
    | ((with_reducible refine o_call (head_p) ?he ?hc ?_); (case he => rfl); (case hc => rfl))
    | ((with_reducible refine p_call (head_p) ?he ?hc ?_); (case he => rfl); (case hc => rfl))
    | ((with_reducible refine o_call (hm) ?he ?hc ?_); (case he => rfl); (case hc => rfl))
    | ((with_reducible refine p_call (hm) ?he ?hc ?_); (case he => rfl); (case hc => rfl))
    | ((with_reducible refine o_call (hs) ?he ?hc ?_); (case he => rfl); (case hc => rfl))
    | ((with_reducible refine p_call (hs) ?he ?hc ?_); (case he => rfl); (case hc => rfl))
    | ((with_reducible refine And.intro ?hw ?_); (case hw => omega))
    | with_reducible intro _)
    all_goals first
      | omega
      | (simp [D.closed, D.er, D.closedL, D.erL]; done)
      | contradiction
      | (simp_all; done)
      | (exfalso; simp_all; omega)
      | trace_state
  case pos =>
    rw [mon_zero h] at hs
    simp only at hs
    rcases mon_val n k with h2 | h2
    case inr =>
      rw [h2] at hm
      simp only at hm
      repeat' (first
    | with_reducible apply swp_seq
    | with_reducible apply swp_reg
    | with_reducible apply swp_regD
    | with_reducible apply swp_block
    | with_reducible apply swp_exit
    | with_reducible apply swp_ret
    | with_reducible apply swp_skip
    | with_reducible apply swp_cd
    | simp only [go_sem, Nat.reduceAdd, Nat.reduceSub, Nat.reduceMul, Nat.reduceEqDiff, Nat.reduceLeDiff, Nat.reduceLT, Int.reduceEq, Int.reduceNe, Int.reduceLT, Int.reduceLE, Int.reduceAdd, Int.reduceSub, Int.reduceMul, Int.reduceNeg, Int.reduceToNat, Int.reduceTDiv, Int.reduceTMod, Int.reduceBEq, Int.reduceBNe, decide_true, decide_false, reduceCtorEq, reduceIte, P5, q5, eqDs, beq_self_eq_true, Bool.and_true]
    | simp (disch := omega) only [w64]
    | with_reducible apply cd_dec
    | with_reducible apply cd_eq
    | with_reducible apply cd_ne
    | with_reducible apply cd_split
    | with_reducible apply gd_dec
    | with_reducible apply gd_eq
    | with_reducible apply gd_ne
    | with_reducible apply gd_split
    | with_reducible apply gq_dec
    | with_reducible apply gq_eq
    | with_reducible apply gq_ne
    | with_reducible apply gq_split
    | ((with_reducible refine o_call (head_p) ?he ?hc ?_); (case he => rfl); (case hc => rfl))
    | ((with_reducible refine p_call (head_p) ?he ?hc ?_); (case he => rfl); (case hc => rfl))
    | ((with_reducible refine o_call (hm) ?he ?hc ?_); (case he => rfl); (case hc => rfl))
    | ((with_reducible refine p_call (hm) ?he ?hc ?_); (case he => rfl); (case hc => rfl))
    | ((with_reducible refine o_call (hs) ?he ?hc ?_); (case he => rfl); (case hc => rfl))
    | ((with_reducible refine p_call (hs) ?he ?hc ?_); (case he => rfl); (case hc => rfl))
    | ((with_reducible refine And.intro ?hw ?_); (case hw => omega))
    | with_reducible intro _)
      all_goals first
        | omega
        | (simp [D.closed, D.er, D.closedL, D.erL]; done)
        | contradiction
        | (simp_all; done)
        | (exfalso; simp_all; omega)
        | trace_state
    case inl =>
      obtain ⟨Y, Mo, Da, y, m, d, e0, e1, e2, e3, e4, e5, e6, e7, e8, e9, e10, e11, e12, e13, e14, e15, e16⟩ := mon_some h2
      obtain ⟨b, b1, b2, b3⟩ := mon_back e0 e1 e2 e3 e5 e6 e7 e8 e10 e11 e12 e13
      have y1 := year_le e1 e2 (by omega)
      obtain ⟨v1, v2, v3, v4⟩ := e2
      obtain ⟨u1, u2, u3, u4⟩ := e10
      have l1 := mlen_le y m
      have l2 := mlen_le Y Mo
      rw [e14] at hm
      have ho := of_p n
      have hp := of_p (num y m d)
      have f1 : dayE n = 0 := by unfold dayE; rw [if_pos h]
      have f2 : dayE (num y m d) = 0 := by unfold dayE; rw [if_pos ⟨e16, e13⟩]
      rw [f1, e0] at ho
      rw [f2, e15] at hp
      have hb := months_p (num y m d) (0 - k) (by omega) (by omega)
      rw [b1] at hb
      simp only at hm ho hp hb
      generalize num y m d = r at *
      by_cases hd : d < Da
      · have hq := number_p y m (d + 1)
        have f3 : nmb y m (d + 1) = (0, 1) := by unfold nmb; rw [if_neg (fun hh => by have := hh.2.2.2; omega)]
        rw [f3] at hq
        simp only at hq
        repeat' (first
    | with_reducible apply swp_seq
    | with_reducible apply swp_reg
    | with_reducible apply swp_regD
    | with_reducible apply swp_block
    | with_reducible apply swp_exit
    | with_reducible apply swp_ret
    | with_reducible apply swp_skip
    | with_reducible apply swp_cd
    | simp only [go_sem, Nat.reduceAdd, Nat.reduceSub, Nat.reduceMul, Nat.reduceEqDiff, Nat.reduceLeDiff, Nat.reduceLT, Int.reduceEq, Int.reduceNe, Int.reduceLT, Int.reduceLE, Int.reduceAdd, Int.reduceSub, Int.reduceMul, Int.reduceNeg, Int.reduceToNat, Int.reduceTDiv, Int.reduceTMod, Int.reduceBEq, Int.reduceBNe, decide_true, decide_false, reduceCtorEq, reduceIte, P5, q5, eqDs, beq_self_eq_true, Bool.and_true]
    | simp (disch := omega) only [w64]
    | with_reducible apply cd_dec
    | with_reducible apply cd_eq
    | with_reducible apply cd_ne
    | with_reducible apply cd_split
    | with_reducible apply gd_dec
    | with_reducible apply gd_eq
    | with_reducible apply gd_ne
    | with_reducible apply gd_split
    | with_reducible apply gq_dec
    | with_reducible apply gq_eq
    | with_reducible apply gq_ne
    | with_reducible apply gq_split
    | ((with_reducible refine o_call (head_p) ?he ?hc ?_); (case he => rfl); (case hc => rfl))
    | ((with_reducible refine p_call (head_p) ?he ?hc ?_); (case he => rfl); (case hc => rfl))
    | ((with_reducible refine o_call (hm) ?he ?hc ?_); (case he => rfl); (case hc => rfl))
    | ((with_reducible refine p_call (hm) ?he ?hc ?_); (case he => rfl); (case hc => rfl))
    | ((with_reducible refine o_call (hs) ?he ?hc ?_); (case he => rfl); (case hc => rfl))
    | ((with_reducible refine p_call (hs) ?he ?hc ?_); (case he => rfl); (case hc => rfl))
    | ((with_reducible refine o_call (ho) ?he ?hc ?_); (case he => rfl); (case hc => rfl))
    | ((with_reducible refine p_call (ho) ?he ?hc ?_); (case he => rfl); (case hc => rfl))
    | ((with_reducible refine o_call (hp) ?he ?hc ?_); (case he => rfl); (case hc => rfl))
    | ((with_reducible refine p_call (hp) ?he ?hc ?_); (case he => rfl); (case hc => rfl))
    | ((with_reducible refine o_call (hq) ?he ?hc ?_); (case he => rfl); (case hc => rfl))
    | ((with_reducible refine p_call (hq) ?he ?hc ?_); (case he => rfl); (case hc => rfl))
    | ((with_reducible refine o_call (hb) ?he ?hc ?_); (case he => rfl); (case hc => rfl))
    | ((with_reducible refine p_call (hb) ?he ?hc ?_); (case he => rfl); (case hc => rfl))
    | ((with_reducible refine And.intro ?hw ?_); (case hw => omega))
    | with_reducible intro _)
        all_goals first
          | omega
          | (simp [D.closed, D.er, D.closedL, D.erL]; done)
          | (simp [D.closed, D.er, D.closedL, D.erL]; omega)
          | contradiction
          | (simp_all; done)
          | (exfalso; simp_all; omega)
          | trace_state
      · repeat' (first
    | with_reducible apply swp_seq
    | with_reducible apply swp_reg
    | with_reducible apply swp_regD
    | with_reducible apply swp_block
    | with_reducible apply swp_exit
    | with_reducible apply swp_ret
    | with_reducible apply swp_skip
    | with_reducible apply swp_cd
    | simp only [go_sem, Nat.reduceAdd, Nat.reduceSub, Nat.reduceMul, Nat.reduceEqDiff, Nat.reduceLeDiff, Nat.reduceLT, Int.reduceEq, Int.reduceNe, Int.reduceLT, Int.reduceLE, Int.reduceAdd, Int.reduceSub, Int.reduceMul, Int.reduceNeg, Int.reduceToNat, Int.reduceTDiv, Int.reduceTMod, Int.reduceBEq, Int.reduceBNe, decide_true, decide_false, reduceCtorEq, reduceIte, P5, q5, eqDs, beq_self_eq_true, Bool.and_true]
    | simp (disch := omega) only [w64]
    | with_reducible apply cd_dec
    | with_reducible apply cd_eq
    | with_reducible apply cd_ne
    | with_reducible apply cd_split
    | with_reducible apply gd_dec
    | with_reducible apply gd_eq
    | with_reducible apply gd_ne
    | with_reducible apply gd_split
    | with_reducible apply gq_dec
    | with_reducible apply gq_eq
    | with_reducible apply gq_ne
    | with_reducible apply gq_split
    | ((with_reducible refine o_call (head_p) ?he ?hc ?_); (case he => rfl); (case hc => rfl))
    | ((with_reducible refine p_call (head_p) ?he ?hc ?_); (case he => rfl); (case hc => rfl))
    | ((with_reducible refine o_call (hm) ?he ?hc ?_); (case he => rfl); (case hc => rfl))
    | ((with_reducible refine p_call (hm) ?he ?hc ?_); (case he => rfl); (case hc => rfl))
    | ((with_reducible refine o_call (hs) ?he ?hc ?_); (case he => rfl); (case hc => rfl))
    | ((with_reducible refine p_call (hs) ?he ?hc ?_); (case he => rfl); (case hc => rfl))
    | ((with_reducible refine o_call (ho) ?he ?hc ?_); (case he => rfl); (case hc => rfl))
    | ((with_reducible refine p_call (ho) ?he ?hc ?_); (case he => rfl); (case hc => rfl))
    | ((with_reducible refine o_call (hp) ?he ?hc ?_); (case he => rfl); (case hc => rfl))
    | ((with_reducible refine p_call (hp) ?he ?hc ?_); (case he => rfl); (case hc => rfl))
    | ((with_reducible refine o_call (hb) ?he ?hc ?_); (case he => rfl); (case hc => rfl))
    | ((with_reducible refine p_call (hb) ?he ?hc ?_); (case he => rfl); (case hc => rfl))
    | ((with_reducible refine And.intro ?hw ?_); (case hw => omega))
    | with_reducible intro _)
        all_goals first
          | omega
          | (simp [D.closed, D.er, D.closedL, D.erL]; done)
          | (simp [D.closed, D.er, D.closedL, D.erL]; omega)
          | contradiction
          | (simp_all; done)
          | (exfalso; simp_all; omega)
          | trace_state
end Go.Proofs.YtapoplenfgjcjaaDoor
