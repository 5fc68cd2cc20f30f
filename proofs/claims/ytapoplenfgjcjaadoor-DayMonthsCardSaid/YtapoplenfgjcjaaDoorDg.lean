/- What the statements about the day compute: DayNext. Own work. -/
import Derived.Test.YtapoplenfgjcjaaDoorDf
set_option maxRecDepth 100000
set_option linter.unusedSimpArgs false
set_option linter.unusedVariables false
namespace Go.Proofs.YtapoplenfgjcjaaDoor
open Go GoV

theorem mlen_400 {y : Int} (m : Int) (h : 0 ≤ y) : mlen (y + 400) m = mlen y m := by
  have : leap (y + 400) = leap y := by
    rw [Bool.eq_iff_iff, leap_iff (by omega), leap_iff h]; omega
  unfold mlen; rw [this]

theorem nmb_400 {y m d : Int} (h : 2000 ≤ y) : nmb (y + 400) m d = if Valid y m d then (0, 13) else (0, 1) := by
  have hv : Valid (y + 400) m d ↔ Valid y m d := by unfold Valid; rw [mlen_400 m (by omega)]
  unfold nmb
  by_cases g : Valid y m d
  · rw [if_pos (hv.2 g), if_pos g, if_neg (fun hi => by have := hi.2.1; omega)]
  · rw [if_neg (fun hh => g (hv.1 hh)), if_neg g]

theorem DayNext_p (raw : Int) (hw : (Lit.int .u16 raw).wf = true) : Pur M 4 [.int .u16 raw] (.bool true) := by
  refine ok4 rfl ?_
  rw [i4]
  unfold c4
  have hb : 0 ≤ raw ∧ raw ≤ 65535 := by simpa [Lit.wf, IntKind.min, IntKind.max, IntKind.bits, IntKind.signed] using hw
  have t1 : raw.tmod 40000 = raw % 40000 := Int.tmod_eq_emod_of_nonneg hb.1
  have t2 : 0 ≤ raw % 40000 ∧ raw % 40000 ≤ 39999 := by omega
  generalize raw % 40000 = n at *
  have ho := of_p n
  have hp := of_p (n + 1)
  have e : dayE n = 0 := by unfold dayE; rw [if_pos (by omega)]
  have e' : dayE (n + 1) = 0 := by unfold dayE; rw [if_pos (by omega)]
  obtain ⟨s1, s2, ⟨v1, v2, v3, v4⟩, s4⟩ := dat_spec (n := n) (by omega)
  rw [e] at ho
  rw [e'] at hp
  generalize dat n = p at *
  obtain ⟨Y, Mo, Da⟩ := p
  simp only at *
  have ml := mlen_le Y Mo
  have hq := number_p Y Mo (Da + 1)
  have hr := number_p (Y + 400) Mo (Da + 1)
  rw [nmb_400 s1] at hr
  by_cases hd : Da + 1 ≤ mlen Y Mo
  · have hv : Valid Y Mo (Da + 1) := ⟨v1, v2, by omega, hd⟩
    have hn : num Y Mo (Da + 1) = n + 1 := by unfold num at *; omega
    have d1 : dat (n + 1) = (Y, Mo, Da + 1) := dat_at s1 hv hn (by omega)
    have d2 : nmb Y Mo (Da + 1) = (n + 1, 0) := by
      have := nmb_dat (n := n + 1) (by omega)
      rw [d1] at this; exact this
    rw [d1] at hp
    rw [d2] at hq
    rw [if_pos hv] at hr
    simp only at hp hq hr
    repeat' (first
    | with_reducible apply swp_seq
    | with_reducible apply swp_reg
    | with_reducible apply swp_regD
    | with_reducible apply swp_block
    | with_reducible apply swp_exit
    | with_reducible apply swp_ret
    | with_reducible apply swp_skip
    | with_reducible apply swp_cd
    | simp only [go_sem, Nat.reduceAdd, Nat.reduceSub, Nat.reduceMul, Nat.reduceEqDiff, Nat.reduceLeDiff, Nat.reduceLT, Int.reduceEq, Int.reduceNe, Int.reduceLT, Int.reduceLE, Int.reduceAdd, Int.reduceSub, Int.reduceMul, Int.reduceNeg, Int.reduceToNat, Int.reduceTDiv, Int.reduceTMod, Int.reduceBEq, Int.reduceBNe, decide_true, decide_false, reduceCtorEq, reduceIte, P4, q4, t1, eqDs, beq_self_eq_true, Bool.and_true]
    | simp (disch := omega) only [w64]
    | with_reducible apply cd_dec
    | with_reducible apply cd_eq
    | with_reducible apply cd_ne
    | with_reducible apply cd_split
    | with_reducible apply gd_dec
    | with_reducible apply gd_eq
    | with_reducible apply gd_ne
    | with_reducible apply gd_split
    | with_reducible apply gq_dec
    | with_reducible apply gq_eq
    | with_reducible apply gq_ne
    | with_reducible apply gq_split
    | ((with_reducible refine o_call (head_p) ?he ?hc ?_); (case he => rfl); (case hc => rfl))
    | ((with_reducible refine p_call (head_p) ?he ?hc ?_); (case he => rfl); (case hc => rfl))
    | ((with_reducible refine o_call (ho) ?he ?hc ?_); (case he => rfl); (case hc => rfl))
    | ((with_reducible refine p_call (ho) ?he ?hc ?_); (case he => rfl); (case hc => rfl))
    | ((with_reducible refine o_call (hp) ?he ?hc ?_); (case he => rfl); (case hc => rfl))
    | ((with_reducible refine p_call (hp) ?he ?hc ?_); (case he => rfl); (case hc => rfl))
    | ((with_reducible refine o_call (hq) ?he ?hc ?_); (case he => rfl); (case hc => rfl))
    | ((with_reducible refine p_call (hq) ?he ?hc ?_); (case he => rfl); (case hc => rfl))
    | ((with_reducible refine o_call (hr) ?he ?hc ?_); (case he => rfl); (case hc => rfl))
    | ((with_reducible refine p_call (hr) ?he ?hc ?_); (case he => rfl); (case hc => rfl))
    | ((with_reducible refine And.intro ?hw ?_); (case hw => omega))
    | with_reducible intro _)
    all_goals first
      | omega
      | (simp [D.closed, D.er, D.closedL, D.erL]; done)
      | trace_state
  · have hv : ¬Valid Y Mo (Da + 1) := fun hh => hd hh.2.2.2
    have d2 : nmb Y Mo (Da + 1) = (0, 1) := by unfold nmb; rw [if_neg hv]
    rw [d2] at hq
    rw [if_neg hv] at hr
    by_cases hm : Mo = 12
    · subst hm
      have hn : num (Y + 1) 1 1 = n + 1 := by
        have a1 := jan_succ (y := Y) (by omega)
        have a2 := cum_last Y
        have a3 : mlen Y 12 = 31 := by simp [mlen]
        have a4 : cum (Y + 1) 1 = 0 := by simp [cum]
        unfold num at *; omega
      have d1 : dat (n + 1) = (Y + 1, 1, 1) := dat_at (by omega) ⟨by omega, by omega, by omega, by have := mlen_le (Y + 1) 1; omega⟩ hn (by omega)
      rw [d1] at hp
      simp only at hp hq hr
      repeat' (first
    | with_reducible apply swp_seq
    | with_reducible apply swp_reg
    | with_reducible apply swp_regD
    | with_reducible apply swp_block
    | with_reducible apply swp_exit
    | with_reducible apply swp_ret
    | with_reducible apply swp_skip
    | with_reducible apply swp_cd
    | simp only [go_sem, Nat.reduceAdd, Nat.reduceSub, Nat.reduceMul, Nat.reduceEqDiff, Nat.reduceLeDiff, Nat.reduceLT, Int.reduceEq, Int.reduceNe, Int.reduceLT, Int.reduceLE, Int.reduceAdd, Int.reduceSub, Int.reduceMul, Int.reduceNeg, Int.reduceToNat, Int.reduceTDiv, Int.reduceTMod, Int.reduceBEq, Int.reduceBNe, decide_true, decide_false, reduceCtorEq, reduceIte, P4, q4, t1, eqDs, beq_self_eq_true, Bool.and_true]
    | simp (disch := omega) only [w64]
    | with_reducible apply cd_dec
    | with_reducible apply cd_eq
    | with_reducible apply cd_ne
    | with_reducible apply cd_split
    | with_reducible apply gd_dec
    | with_reducible apply gd_eq
    | with_reducible apply gd_ne
    | with_reducible apply gd_split
    | with_reducible apply gq_dec
    | with_reducible apply gq_eq
    | with_reducible apply gq_ne
    | with_reducible apply gq_split
    | ((with_reducible refine o_call (head_p) ?he ?hc ?_); (case he => rfl); (case hc => rfl))
    | ((with_reducible refine p_call (head_p) ?he ?hc ?_); (case he => rfl); (case hc => rfl))
    | ((with_reducible refine o_call (ho) ?he ?hc ?_); (case he => rfl); (case hc => rfl))
    | ((with_reducible refine p_call (ho) ?he ?hc ?_); (case he => rfl); (case hc => rfl))
    | ((with_reducible refine o_call (hp) ?he ?hc ?_); (case he => rfl); (case hc => rfl))
    | ((with_reducible refine p_call (hp) ?he ?hc ?_); (case he => rfl); (case hc => rfl))
    | ((with_reducible refine o_call (hq) ?he ?hc ?_); (case he => rfl); (case hc => rfl))
    | ((with_reducible refine p_call (hq) ?he ?hc ?_); (case he => rfl); (case hc => rfl))
    | ((with_reducible refine o_call (hr) ?he ?hc ?_); (case he => rfl); (case hc => rfl))
    | ((with_reducible refine p_call (hr) ?he ?hc ?_); (case he => rfl); (case hc => rfl))
    | ((with_reducible refine And.intro ?hw ?_); (case hw => omega))
    | with_reducible intro _)
      all_goals first
        | omega
        | (simp [D.closed, D.er, D.closedL, D.erL]; done)
        | trace_state
    · have hn : num Y (Mo + 1) 1 = n + 1 := by
        have := cum_succ Y v1 (by omega)
        unfold num at *; omega
      have d1 : dat (n + 1) = (Y, Mo + 1, 1) := dat_at (by omega) ⟨by omega, by omega, by omega, by have := mlen_le Y (Mo + 1); omega⟩ hn (by omega)
      rw [d1] at hp
      simp only at hp hq hr
      repeat' (first
    | with_reducible apply swp_seq
    | with_reducible apply swp_reg
    | with_reducible apply swp_regD
    | with_reducible apply swp_block
    | with_reducible apply swp_exit
    | with_reducible apply swp_ret
    | with_reducible apply swp_skip
    | with_reducible apply swp_cd
    | simp only [go_sem, Nat.reduceAdd, Nat.reduceSub, Nat.reduceMul, Nat.reduceEqDiff, Nat.reduceLeDiff, Nat.reduceLT, Int.reduceEq, Int.reduceNe, Int.reduceLT, Int.reduceLE, Int.reduceAdd, Int.reduceSub, Int.reduceMul, Int.reduceNeg, Int.reduceToNat, Int.reduceTDiv, Int.reduceTMod, Int.reduceBEq, Int.reduceBNe, decide_true, decide_false, reduceCtorEq, reduceIte, P4, q4, t1, eqDs, beq_self_eq_true, Bool.and_true]
    | simp (disch := omega) only [w64]
    | with_reducible apply cd_dec
    | with_reducible apply cd_eq
    | with_reducible apply cd_ne
    | with_reducible apply cd_split
    | with_reducible apply gd_dec
    | with_reducible apply gd_eq
    | with_reducible apply gd_ne
    | with_reducible apply gd_split
    | with_reducible apply gq_dec
    | with_reducible apply gq_eq
    | with_reducible apply gq_ne
    | with_reducible apply gq_split
    | ((with_reducible refine o_call (head_p) ?he ?hc ?_); (case he => rfl); (case hc => rfl))
    | ((with_reducible refine p_call (head_p) ?he ?hc ?_); (case he => rfl); (case hc => rfl))
    | ((with_reducible refine o_call (ho) ?he ?hc ?_); (case he => rfl); (case hc => rfl))
    | ((with_reducible refine p_call (ho) ?he ?hc ?_); (case he => rfl); (case hc => rfl))
    | ((with_reducible refine o_call (hp) ?he ?hc ?_); (case he => rfl); (case hc => rfl))
    | ((with_reducible refine p_call (hp) ?he ?hc ?_); (case he => rfl); (case hc => rfl))
    | ((with_reducible refine o_call (hq) ?he ?hc ?_); (case he => rfl); (case hc => rfl))
    | ((with_reducible refine p_call (hq) ?he ?hc ?_); (case he => rfl); (case hc => rfl))
    | ((with_reducible refine o_call (hr) ?he ?hc ?_); (case he => rfl); (case hc => rfl))
    | ((with_reducible refine p_call (hr) ?he ?hc ?_); (case he => rfl); (case hc => rfl))
    | ((with_reducible refine And.intro ?hw ?_); (case hw => omega))
    | with_reducible intro _)
      all_goals first
        | omega
        | (simp [D.closed, D.er, D.closedL, D.erL]; done)
        | trace_state
end Go.Proofs.YtapoplenfgjcjaaDoor
