/- What the reference functions of the day compute: the walks, fifth part: Months. Own work. -/
import Derived.Test.YtapoplenfgjcjaaDoorRz
set_option maxRecDepth 100000
set_option linter.unusedSimpArgs false
set_option linter.unusedVariables false
namespace Go.Proofs.YtapoplenfgjcjaaDoor
open Go GoV

set_option maxHeartbeats 2000000 in
theorem rmonths_p (n k : Int) (k1 : -9223372036854775808 ≤ k) (k2 : k ≤ 9223372036854775807) : Pur M 18 [.int .i64 n, .int .i64 k] (.tup [.int .i64 (mon n k).1, .int .i64 (mon n k).2]) := by
  refine ok18 rfl ?_
  rw [i18]
  unfold c18
  have hr := rdate_p n
  by_cases h : 0 ≤ n ∧ n ≤ 40000
  case neg =>
    have e : dayE n = 13 := by unfold dayE; rw [if_neg h]
    rw [mon_out h]
    repeat' (first
    | with_reducible apply swp_seq
    | with_reducible apply swp_reg
    | with_reducible apply swp_regD
    | with_reducible apply swp_block
    | with_reducible apply swp_exit
    | with_reducible apply swp_ret
    | with_reducible apply swp_skip
    | with_reducible apply swp_cd
    | simp only [go_sem, Nat.reduceAdd, Nat.reduceSub, Nat.reduceMul, Nat.reduceEqDiff, Nat.reduceLeDiff, Nat.reduceLT, Int.reduceEq, Int.reduceNe, Int.reduceLT, Int.reduceLE, Int.reduceAdd, Int.reduceSub, Int.reduceMul, Int.reduceNeg, Int.reduceToNat, Int.reduceTDiv, Int.reduceTMod, Int.reduceBEq, Int.reduceBNe, decide_true, decide_false, reduceCtorEq, reduceIte, P18, q18, e]
    | simp (disch := omega) only [w64, w32, wu8, wu16, wu32, wu64]
    | ((with_reducible refine o_call (hr) ?he ?hc ?_); (case he => first | rfl | (simp [D.erL, D.er]; done)); (case hc => first | rfl | (simp [D.closedL, D.closed]; done)))
    | with_reducible apply cd_dec
    | with_reducible apply cd_eq
    | with_reducible apply cd_ne
    | with_reducible apply cd_split
    | with_reducible apply gd_dec
    | with_reducible apply gd_eq
    | with_reducible apply gd_ne
    | with_reducible apply gd_split
    | ((with_reducible refine And.intro ?hw ?_); (case hw => first | omega | rfl | exact ⟨_, _, rfl⟩ | assumption | (simp only [List.length_cons, List.length_nil, List.length_append, List.length_map, List.length_replicate, List.length_take, List.length_drop] <;> omega)))
    | with_reducible intro _)
    all_goals first
      | omega
      | simp [D.closed, D.er, D.closedL, D.erL]
  case pos =>
    have e : dayE n = 0 := by unfold dayE; rw [if_pos h]
    have hds := dat_spec h
    rw [e] at hr
    have hm : mon n k = if -12000 ≤ k ∧ k ≤ 12000 ∧ 24000 ≤ 12 * (dat n).1 + (dat n).2.1 - 1 + k then
        (if inDays ((12 * (dat n).1 + (dat n).2.1 - 1 + k) / 12) ((12 * (dat n).1 + (dat n).2.1 - 1 + k) % 12 + 1) (min (dat n).2.2 (mlen ((12 * (dat n).1 + (dat n).2.1 - 1 + k) / 12) ((12 * (dat n).1 + (dat n).2.1 - 1 + k) % 12 + 1))) then
          (num ((12 * (dat n).1 + (dat n).2.1 - 1 + k) / 12) ((12 * (dat n).1 + (dat n).2.1 - 1 + k) % 12 + 1) (min (dat n).2.2 (mlen ((12 * (dat n).1 + (dat n).2.1 - 1 + k) / 12) ((12 * (dat n).1 + (dat n).2.1 - 1 + k) % 12 + 1))), 0) else (0, 13)) else (0, 13) := by
      unfold mon; simp [h.1, h.2]
    generalize mon n k = res at *
    generalize dat n = p at *
    obtain ⟨Y, Mo, Da⟩ := p
    simp only at hds hm hr
    obtain ⟨s1, s2, ⟨v1, v2, v3, v4⟩, s4⟩ := hds
    have ml := mlen_le Y Mo
    by_cases hk0 : -12000 ≤ k ∧ k ≤ 12000
    case neg =>
      rw [if_neg (fun hh => hk0 ⟨hh.1, hh.2.1⟩)] at hm
      subst hm
      repeat' (first
    | with_reducible apply swp_seq
    | with_reducible apply swp_reg
    | with_reducible apply swp_regD
    | with_reducible apply swp_block
    | with_reducible apply swp_exit
    | with_reducible apply swp_ret
    | with_reducible apply swp_skip
    | with_reducible apply swp_cd
    | simp only [go_sem, Nat.reduceAdd, Nat.reduceSub, Nat.reduceMul, Nat.reduceEqDiff, Nat.reduceLeDiff, Nat.reduceLT, Int.reduceEq, Int.reduceNe, Int.reduceLT, Int.reduceLE, Int.reduceAdd, Int.reduceSub, Int.reduceMul, Int.reduceNeg, Int.reduceToNat, Int.reduceTDiv, Int.reduceTMod, Int.reduceBEq, Int.reduceBNe, decide_true, decide_false, reduceCtorEq, reduceIte, P18, q18]
    | simp (disch := omega) only [w64, w32, wu8, wu16, wu32, wu64]
    | ((with_reducible refine o_call (hr) ?he ?hc ?_); (case he => first | rfl | (simp [D.erL, D.er]; done)); (case hc => first | rfl | (simp [D.closedL, D.closed]; done)))
    | with_reducible apply cd_dec
    | with_reducible apply cd_eq
    | with_reducible apply cd_ne
    | with_reducible apply cd_split
    | with_reducible apply gd_dec
    | with_reducible apply gd_eq
    | with_reducible apply gd_ne
    | with_reducible apply gd_split
    | ((with_reducible refine And.intro ?hw ?_); (case hw => first | omega | rfl | exact ⟨_, _, rfl⟩ | assumption | (simp only [List.length_cons, List.length_nil, List.length_append, List.length_map, List.length_replicate, List.length_take, List.length_drop] <;> omega)))
    | with_reducible intro _)
      all_goals first
        | omega
        | simp [D.closed, D.er, D.closedL, D.erL]
    case pos =>
      have t1 : (12 * Y + Mo - 1 + k).tdiv 12 = (12 * Y + Mo - 1 + k) / 12 := Int.tdiv_eq_ediv_of_nonneg (by omega)
      have t2 : (12 * Y + Mo - 1 + k).tmod 12 = (12 * Y + Mo - 1 + k) % 12 := Int.tmod_eq_emod_of_nonneg (by omega)
      by_cases hk : 24000 ≤ 12 * Y + Mo - 1 + k
      case neg =>
        rw [if_neg (fun hh => hk hh.2.2)] at hm
        subst hm
        repeat' (first
    | with_reducible apply swp_seq
    | with_reducible apply swp_reg
    | with_reducible apply swp_regD
    | with_reducible apply swp_block
    | with_reducible apply swp_exit
    | with_reducible apply swp_ret
    | with_reducible apply swp_skip
    | with_reducible apply swp_cd
    | simp only [go_sem, Nat.reduceAdd, Nat.reduceSub, Nat.reduceMul, Nat.reduceEqDiff, Nat.reduceLeDiff, Nat.reduceLT, Int.reduceEq, Int.reduceNe, Int.reduceLT, Int.reduceLE, Int.reduceAdd, Int.reduceSub, Int.reduceMul, Int.reduceNeg, Int.reduceToNat, Int.reduceTDiv, Int.reduceTMod, Int.reduceBEq, Int.reduceBNe, decide_true, decide_false, reduceCtorEq, reduceIte, P18, q18, t1, t2]
    | simp (disch := omega) only [w64, w32, wu8, wu16, wu32, wu64]
    | ((with_reducible refine o_call (hr) ?he ?hc ?_); (case he => first | rfl | (simp [D.erL, D.er]; done)); (case hc => first | rfl | (simp [D.closedL, D.closed]; done)))
    | with_reducible apply cd_dec
    | with_reducible apply cd_eq
    | with_reducible apply cd_ne
    | with_reducible apply cd_split
    | with_reducible apply gd_dec
    | with_reducible apply gd_eq
    | with_reducible apply gd_ne
    | with_reducible apply gd_split
    | ((with_reducible refine And.intro ?hw ?_); (case hw => first | omega | rfl | exact ⟨_, _, rfl⟩ | assumption | (simp only [List.length_cons, List.length_nil, List.length_append, List.length_map, List.length_replicate, List.length_take, List.length_drop] <;> omega)))
    | with_reducible intro _)
        all_goals first
          | omega
          | simp [D.closed, D.er, D.closedL, D.erL]
      case pos =>
        rw [if_pos ⟨hk0.1, hk0.2, hk⟩] at hm
        have t3 : 0 ≤ (12 * Y + Mo - 1 + k) % 12 ∧ (12 * Y + Mo - 1 + k) % 12 ≤ 11 := by omega
        have t4 : 2000 ≤ (12 * Y + Mo - 1 + k) / 12 ∧ (12 * Y + Mo - 1 + k) / 12 ≤ 3200 := by omega
        have ha : 24000 ≤ 12 * Y + Mo - 1 + k ∧ 12 * Y + Mo - 1 + k ≤ 40000 := by omega
        generalize hy : (12 * Y + Mo - 1 + k) / 12 = y' at *
        generalize hm' : (12 * Y + Mo - 1 + k) % 12 = m' at *
        have ml' := mlen_le y' (m' + 1)
        have hmin : (if mlen y' (m' + 1) < Da then mlen y' (m' + 1) else Da) = min Da (mlen y' (m' + 1)) := by omega
        have hv : Valid y' (m' + 1) (min Da (mlen y' (m' + 1))) := ⟨by omega, by omega, by omega, by omega⟩
        have hq := rnumber_p y' (m' + 1) (min Da (mlen y' (m' + 1)))
        have lp := rlen_p y' (m' + 1)
        have hnm : nmb y' (m' + 1) (min Da (mlen y' (m' + 1))) = res := by
          rw [hm]; unfold nmb; rw [if_pos hv]
        rw [hnm] at hq
        have hout : 2109 < y' → res = (0, 13) := fun g => by rw [hm, if_neg (fun hh => by have := hh.2.1; omega)]
        clear hm hnm
        generalize mlen y' (m' + 1) = L at *
        generalize min Da L = d' at *
        repeat' (first
    | with_reducible apply swp_seq
    | with_reducible apply swp_reg
    | with_reducible apply swp_regD
    | with_reducible apply swp_block
    | with_reducible apply swp_exit
    | with_reducible apply swp_ret
    | with_reducible apply swp_skip
    | with_reducible apply swp_cd
    | simp only [go_sem, Nat.reduceAdd, Nat.reduceSub, Nat.reduceMul, Nat.reduceEqDiff, Nat.reduceLeDiff, Nat.reduceLT, Int.reduceEq, Int.reduceNe, Int.reduceLT, Int.reduceLE, Int.reduceAdd, Int.reduceSub, Int.reduceMul, Int.reduceNeg, Int.reduceToNat, Int.reduceTDiv, Int.reduceTMod, Int.reduceBEq, Int.reduceBNe, decide_true, decide_false, reduceCtorEq, reduceIte, P18, q18, foldI, t1, t2, hmin]
    | simp (disch := omega) only [w64, w32, wu8, wu16, wu32, wu64]
    | ((with_reducible refine o_call (hr) ?he ?hc ?_); (case he => first | rfl | (simp [D.erL, D.er]; done)); (case hc => first | rfl | (simp [D.closedL, D.closed]; done)))
    | ((with_reducible refine o_call (lp) ?he ?hc ?_); (case he => first | rfl | (simp [D.erL, D.er]; done)); (case hc => first | rfl | (simp [D.closedL, D.closed]; done)))
    | ((with_reducible refine o_call (hq) ?he ?hc ?_); (case he => first | rfl | (simp [D.erL, D.er]; done)); (case hc => first | rfl | (simp [D.closedL, D.closed]; done)))
    | with_reducible apply cd_dec
    | with_reducible apply cd_eq
    | with_reducible apply cd_ne
    | with_reducible apply cd_split
    | with_reducible apply gd_dec
    | with_reducible apply gd_eq
    | with_reducible apply gd_ne
    | with_reducible apply gd_split
    | ((with_reducible refine And.intro ?hw ?_); (case hw => first | omega | rfl | exact ⟨_, _, rfl⟩ | assumption | (simp only [List.length_cons, List.length_nil, List.length_append, List.length_map, List.length_replicate, List.length_take, List.length_drop] <;> omega)))
    | with_reducible intro _)
        all_goals first
          | omega
          | (simp [D.closed, D.er, D.closedL, D.erL]; done)
          | (simp [D.closed, D.er, D.closedL, D.erL, hout (by assumption)]; done)
          | trace_state
end Go.Proofs.YtapoplenfgjcjaaDoor
