/- What the statements about the day compute: DayDates. Own work. -/
import Derived.Test.YtapoplenfgjcjaaDoorDt
import Derived.Test.YtapoplenfgjcjaaDoorEt
set_option maxRecDepth 100000
set_option linter.unusedSimpArgs false
set_option linter.unusedVariables false
namespace Go.Proofs.YtapoplenfgjcjaaDoor
open Go GoV

theorem nmb_dat {n : Int} (h : 0 ≤ n ∧ n ≤ 40000) : nmb (dat n).1 (dat n).2.1 (dat n).2.2 = (n, 0) := by
  obtain ⟨s1, s2, s3, s4⟩ := dat_spec h
  unfold nmb
  rw [if_pos s3, if_pos ⟨s1, s2, by omega⟩, s4]

theorem nmb_no {y m d : Int} (h : (nmb y m d).2 ≠ 0) : (nmb y m d).1 = 0 := by
  unfold nmb at *
  split
  · split
    · rename_i h1 h2; rw [if_pos h1, if_pos h2] at h; exact absurd rfl h
    · rfl
  · rfl

theorem nmb_ok {y m d : Int} (h : (nmb y m d).2 = 0) : Valid y m d ∧ inDays y m d ∧ nmb y m d = (num y m d, 0) := by
  unfold nmb at *
  split
  · rename_i h1
    rw [if_pos h1] at h
    split
    · rename_i h2; exact ⟨h1, h2, rfl⟩
    · rename_i h2; rw [if_neg h2] at h; simp at h
  · rename_i h1; rw [if_neg h1] at h; simp at h

theorem num_nonneg {y m d : Int} (h : Valid y m d) (h2 : inDays y m d) : 0 ≤ num y m d := by
  have a := num_lt (by have := h2.1; omega) h
  have := jan_mono (y := 2000) (y' := y) h2.1
  have e : jan 2000 = 0 := by decide
  omega

theorem DayDates_p (n y m d : Int) : Pur M 3 [.int .i64 n, .int .i64 y, .int .i64 m, .int .i64 d] (.bool true) := by
  refine ok3 rfl ?_
  rw [i3]
  unfold c3
  have ho := of_p n
  have hn := number_p (dat n).1 (dat n).2.1 (dat n).2.2
  have hq := number_p y m d
  by_cases hg : (nmb y m d).2 = 0
  case pos =>
    obtain ⟨g1, g2, g3⟩ := nmb_ok hg
    have g0 := num_nonneg g1 g2
    have hx := of_p (num y m d)
    rw [dat_num g2.1 g1 g2.2.2] at hx
    have ex : dayE (num y m d) = 0 := by unfold dayE; rw [if_pos ⟨g0, g2.2.2⟩]
    rw [ex] at hx
    rw [g3] at hq
    simp only at hq hx
    by_cases h : 0 ≤ n ∧ n ≤ 40000
    case pos =>
      have e : dayE n = 0 := by unfold dayE; rw [if_pos h]
      obtain ⟨s1, s2, ⟨v1, v2, v3, v4⟩, s4⟩ := dat_spec h
      rw [nmb_dat h] at hn
      rw [e] at ho
      have ml := mlen_le (dat n).1 (dat n).2.1
      simp only at hn
      generalize dat n = p at *
      obtain ⟨Y, Mo, Da⟩ := p
      simp only at *
      repeat' (first
    | with_reducible apply swp_seq
    | with_reducible apply swp_reg
    | with_reducible apply swp_regD
    | with_reducible apply swp_block
    | with_reducible apply swp_exit
    | with_reducible apply swp_ret
    | with_reducible apply swp_skip
    | with_reducible apply swp_cd
    | simp only [go_sem, Nat.reduceAdd, Nat.reduceSub, Nat.reduceMul, Nat.reduceEqDiff, Nat.reduceLeDiff, Nat.reduceLT, Int.reduceEq, Int.reduceNe, Int.reduceLT, Int.reduceLE, Int.reduceAdd, Int.reduceSub, Int.reduceMul, Int.reduceNeg, Int.reduceToNat, Int.reduceTDiv, Int.reduceTMod, Int.reduceBEq, Int.reduceBNe, decide_true, decide_false, reduceCtorEq, reduceIte, P3, q3, eqDs, beq_self_eq_true, Bool.and_true]
    | with_reducible apply cd_dec
    | with_reducible apply cd_eq
    | with_reducible apply cd_ne
    | with_reducible apply cd_split
    | with_reducible apply gd_dec
    | with_reducible apply gd_eq
    | with_reducible apply gd_ne
    | with_reducible apply gd_split
    | with_reducible apply gq_dec
    | with_reducible apply gq_eq
    | with_reducible apply gq_ne
    | with_reducible apply gq_split
    | ((with_reducible refine o_call (head_p) ?he ?hc ?_); (case he => rfl); (case hc => rfl))
    | ((with_reducible refine p_call (head_p) ?he ?hc ?_); (case he => rfl); (case hc => rfl))
    | ((with_reducible refine o_call (ho) ?he ?hc ?_); (case he => rfl); (case hc => rfl))
    | ((with_reducible refine p_call (ho) ?he ?hc ?_); (case he => rfl); (case hc => rfl))
    | ((with_reducible refine o_call (hn) ?he ?hc ?_); (case he => rfl); (case hc => rfl))
    | ((with_reducible refine p_call (hn) ?he ?hc ?_); (case he => rfl); (case hc => rfl))
    | ((with_reducible refine o_call (hq) ?he ?hc ?_); (case he => rfl); (case hc => rfl))
    | ((with_reducible refine p_call (hq) ?he ?hc ?_); (case he => rfl); (case hc => rfl))
    | ((with_reducible refine o_call (hx) ?he ?hc ?_); (case he => rfl); (case hc => rfl))
    | ((with_reducible refine p_call (hx) ?he ?hc ?_); (case he => rfl); (case hc => rfl))
    | ((with_reducible refine And.intro ?hw ?_); (case hw => omega))
    | with_reducible intro _)
      all_goals first
        | omega
        | (simp_all [D.closed, D.er, D.closedL, D.erL]; done)
        | (simp_all [D.closed, D.er, D.closedL, D.erL]; omega)
        | trace_state
    case neg =>
      have e : dayE n = 13 := by unfold dayE; rw [if_neg h]
      rw [e, dat_out h] at ho
      simp only at ho
      repeat' (first
    | with_reducible apply swp_seq
    | with_reducible apply swp_reg
    | with_reducible apply swp_regD
    | with_reducible apply swp_block
    | with_reducible apply swp_exit
    | with_reducible apply swp_ret
    | with_reducible apply swp_skip
    | with_reducible apply swp_cd
    | simp only [go_sem, Nat.reduceAdd, Nat.reduceSub, Nat.reduceMul, Nat.reduceEqDiff, Nat.reduceLeDiff, Nat.reduceLT, Int.reduceEq, Int.reduceNe, Int.reduceLT, Int.reduceLE, Int.reduceAdd, Int.reduceSub, Int.reduceMul, Int.reduceNeg, Int.reduceToNat, Int.reduceTDiv, Int.reduceTMod, Int.reduceBEq, Int.reduceBNe, decide_true, decide_false, reduceCtorEq, reduceIte, P3, q3, eqDs, beq_self_eq_true, Bool.and_true]
    | with_reducible apply cd_dec
    | with_reducible apply cd_eq
    | with_reducible apply cd_ne
    | with_reducible apply cd_split
    | with_reducible apply gd_dec
    | with_reducible apply gd_eq
    | with_reducible apply gd_ne
    | with_reducible apply gd_split
    | with_reducible apply gq_dec
    | with_reducible apply gq_eq
    | with_reducible apply gq_ne
    | with_reducible apply gq_split
    | ((with_reducible refine o_call (head_p) ?he ?hc ?_); (case he => rfl); (case hc => rfl))
    | ((with_reducible refine p_call (head_p) ?he ?hc ?_); (case he => rfl); (case hc => rfl))
    | ((with_reducible refine o_call (ho) ?he ?hc ?_); (case he => rfl); (case hc => rfl))
    | ((with_reducible refine p_call (ho) ?he ?hc ?_); (case he => rfl); (case hc => rfl))
    | ((with_reducible refine o_call (hn) ?he ?hc ?_); (case he => rfl); (case hc => rfl))
    | ((with_reducible refine p_call (hn) ?he ?hc ?_); (case he => rfl); (case hc => rfl))
    | ((with_reducible refine o_call (hq) ?he ?hc ?_); (case he => rfl); (case hc => rfl))
    | ((with_reducible refine p_call (hq) ?he ?hc ?_); (case he => rfl); (case hc => rfl))
    | ((with_reducible refine o_call (hx) ?he ?hc ?_); (case he => rfl); (case hc => rfl))
    | ((with_reducible refine p_call (hx) ?he ?hc ?_); (case he => rfl); (case hc => rfl))
    | ((with_reducible refine And.intro ?hw ?_); (case hw => omega))
    | with_reducible intro _)
      all_goals first
        | omega
        | (simp_all [D.closed, D.er, D.closedL, D.erL]; done)
        | (simp_all [D.closed, D.er, D.closedL, D.erL]; omega)
        | trace_state
  case neg =>
    rw [nmb_no hg] at hq
    have hgg : ((nmb y m d).2 != 0) = true := by simpa using hg
    generalize (nmb y m d).2 = er at *
    by_cases h : 0 ≤ n ∧ n ≤ 40000
    case pos =>
      have e : dayE n = 0 := by unfold dayE; rw [if_pos h]
      obtain ⟨s1, s2, ⟨v1, v2, v3, v4⟩, s4⟩ := dat_spec h
      rw [nmb_dat h] at hn
      rw [e] at ho
      have ml := mlen_le (dat n).1 (dat n).2.1
      simp only at hn
      generalize dat n = p at *
      obtain ⟨Y, Mo, Da⟩ := p
      simp only at *
      repeat' (first
    | with_reducible apply swp_seq
    | with_reducible apply swp_reg
    | with_reducible apply swp_regD
    | with_reducible apply swp_block
    | with_reducible apply swp_exit
    | with_reducible apply swp_ret
    | with_reducible apply swp_skip
    | with_reducible apply swp_cd
    | simp only [go_sem, Nat.reduceAdd, Nat.reduceSub, Nat.reduceMul, Nat.reduceEqDiff, Nat.reduceLeDiff, Nat.reduceLT, Int.reduceEq, Int.reduceNe, Int.reduceLT, Int.reduceLE, Int.reduceAdd, Int.reduceSub, Int.reduceMul, Int.reduceNeg, Int.reduceToNat, Int.reduceTDiv, Int.reduceTMod, Int.reduceBEq, Int.reduceBNe, decide_true, decide_false, reduceCtorEq, reduceIte, P3, q3, hgg, eqDs, beq_self_eq_true, Bool.and_true]
    | with_reducible apply cd_dec
    | with_reducible apply cd_eq
    | with_reducible apply cd_ne
    | with_reducible apply cd_split
    | with_reducible apply gd_dec
    | with_reducible apply gd_eq
    | with_reducible apply gd_ne
    | with_reducible apply gd_split
    | with_reducible apply gq_dec
    | with_reducible apply gq_eq
    | with_reducible apply gq_ne
    | with_reducible apply gq_split
    | ((with_reducible refine o_call (head_p) ?he ?hc ?_); (case he => rfl); (case hc => rfl))
    | ((with_reducible refine p_call (head_p) ?he ?hc ?_); (case he => rfl); (case hc => rfl))
    | ((with_reducible refine o_call (ho) ?he ?hc ?_); (case he => rfl); (case hc => rfl))
    | ((with_reducible refine p_call (ho) ?he ?hc ?_); (case he => rfl); (case hc => rfl))
    | ((with_reducible refine o_call (hn) ?he ?hc ?_); (case he => rfl); (case hc => rfl))
    | ((with_reducible refine p_call (hn) ?he ?hc ?_); (case he => rfl); (case hc => rfl))
    | ((with_reducible refine o_call (hq) ?he ?hc ?_); (case he => rfl); (case hc => rfl))
    | ((with_reducible refine p_call (hq) ?he ?hc ?_); (case he => rfl); (case hc => rfl))
    | ((with_reducible refine And.intro ?hw ?_); (case hw => omega))
    | with_reducible intro _)
      all_goals first
        | omega
        | (simp_all [D.closed, D.er, D.closedL, D.erL]; done)
        | (simp_all [D.closed, D.er, D.closedL, D.erL]; omega)
        | trace_state
    case neg =>
      have e : dayE n = 13 := by unfold dayE; rw [if_neg h]
      rw [e, dat_out h] at ho
      simp only at ho
      repeat' (first
    | with_reducible apply swp_seq
    | with_reducible apply swp_reg
    | with_reducible apply swp_regD
    | with_reducible apply swp_block
    | with_reducible apply swp_exit
    | with_reducible apply swp_ret
    | with_reducible apply swp_skip
    | with_reducible apply swp_cd
    | simp only [go_sem, Nat.reduceAdd, Nat.reduceSub, Nat.reduceMul, Nat.reduceEqDiff, Nat.reduceLeDiff, Nat.reduceLT, Int.reduceEq, Int.reduceNe, Int.reduceLT, Int.reduceLE, Int.reduceAdd, Int.reduceSub, Int.reduceMul, Int.reduceNeg, Int.reduceToNat, Int.reduceTDiv, Int.reduceTMod, Int.reduceBEq, Int.reduceBNe, decide_true, decide_false, reduceCtorEq, reduceIte, P3, q3, hgg, eqDs, beq_self_eq_true, Bool.and_true]
    | with_reducible apply cd_dec
    | with_reducible apply cd_eq
    | with_reducible apply cd_ne
    | with_reducible apply cd_split
    | with_reducible apply gd_dec
    | with_reducible apply gd_eq
    | with_reducible apply gd_ne
    | with_reducible apply gd_split
    | with_reducible apply gq_dec
    | with_reducible apply gq_eq
    | with_reducible apply gq_ne
    | with_reducible apply gq_split
    | ((with_reducible refine o_call (head_p) ?he ?hc ?_); (case he => rfl); (case hc => rfl))
    | ((with_reducible refine p_call (head_p) ?he ?hc ?_); (case he => rfl); (case hc => rfl))
    | ((with_reducible refine o_call (ho) ?he ?hc ?_); (case he => rfl); (case hc => rfl))
    | ((with_reducible refine p_call (ho) ?he ?hc ?_); (case he => rfl); (case hc => rfl))
    | ((with_reducible refine o_call (hn) ?he ?hc ?_); (case he => rfl); (case hc => rfl))
    | ((with_reducible refine p_call (hn) ?he ?hc ?_); (case he => rfl); (case hc => rfl))
    | ((with_reducible refine o_call (hq) ?he ?hc ?_); (case he => rfl); (case hc => rfl))
    | ((with_reducible refine p_call (hq) ?he ?hc ?_); (case he => rfl); (case hc => rfl))
    | ((with_reducible refine And.intro ?hw ?_); (case hw => omega))
    | with_reducible intro _)
      all_goals first
        | omega
        | (simp_all [D.closed, D.er, D.closedL, D.erL]; done)
        | (simp_all [D.closed, D.er, D.closedL, D.erL]; omega)
        | trace_state
end Go.Proofs.YtapoplenfgjcjaaDoor
