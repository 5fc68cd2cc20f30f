/- What the functions of the day compute: the walks, fifth part: Months. Own work. -/
import Derived.Test.YtapoplenfgjcjaaDoorDz
set_option maxRecDepth 100000
set_option linter.unusedSimpArgs false
set_option linter.unusedVariables false
namespace Go.Proofs.YtapoplenfgjcjaaDoor
open Go GoV

theorem months_p (n k : Int) (k1 : -9223372036854775808 ≤ k) (k2 : k ≤ 9223372036854775807) : Pur M 11 [.int .i64 n, .int .i64 k] (.tup [.int .i64 (mon n k).1, .int .i64 (mon n k).2]) := by
  refine ok11 rfl ?_
  rw [i11]
  unfold c11
  by_cases h : 0 ≤ n ∧ n ≤ 40000
  case neg =>
    have e : dayE n = 13 := by unfold dayE; rw [if_neg h]
    have e2 : mon n k = (0, 13) := by unfold mon; rw [if_neg (fun hh => h ⟨hh.1, hh.2.1⟩)]
    rw [e2]
    repeat' (first
    | with_reducible apply swp_seq
    | with_reducible apply swp_reg
    | with_reducible apply swp_regD
    | with_reducible apply swp_block
    | with_reducible apply swp_exit
    | with_reducible apply swp_ret
    | with_reducible apply swp_skip
    | with_reducible apply swp_cd
    | simp only [go_sem, Nat.reduceAdd, Nat.reduceSub, Nat.reduceMul, Nat.reduceEqDiff, Nat.reduceLeDiff, Nat.reduceLT, Int.reduceEq, Int.reduceNe, Int.reduceLT, Int.reduceLE, Int.reduceAdd, Int.reduceSub, Int.reduceMul, Int.reduceNeg, Int.reduceToNat, Int.reduceTDiv, Int.reduceTMod, Int.reduceBEq, Int.reduceBNe, decide_true, decide_false, reduceCtorEq, reduceIte, P11, q11, e]
    | simp (disch := omega) only [w64, w32, wu8, wu16, wu32, wu64]
    | ((with_reducible refine o_call (dateOf_p n) ?he ?hc ?_); (case he => first | rfl | (simp [D.erL, D.er]; done)); (case hc => first | rfl | (simp [D.closedL, D.closed]; done)))
    | ((with_reducible refine p_call (dateOf_p n) ?he ?hc ?_); (case he => first | rfl | (simp [D.erL, D.er]; done)); (case hc => first | rfl | (simp [D.closedL, D.closed]; done)))
    | ((with_reducible refine c_call (dateOf_p n) ?he ?hc ?_); (case he => first | rfl | (simp [D.erL, D.er]; done)); (case hc => first | rfl | (simp [D.closedL, D.closed]; done)))
    | with_reducible apply cd_dec
    | with_reducible apply cd_eq
    | with_reducible apply cd_ne
    | with_reducible apply cd_split
    | with_reducible apply gd_dec
    | with_reducible apply gd_eq
    | with_reducible apply gd_ne
    | with_reducible apply gd_split
    | ((with_reducible refine And.intro ?hw ?_); (case hw => first | omega | rfl | exact ⟨_, _, rfl⟩ | assumption | (simp only [List.length_cons, List.length_nil, List.length_append, List.length_map, List.length_replicate, List.length_take, List.length_drop] <;> omega)))
    | with_reducible intro _)
    all_goals first
      | omega
      | simp [D.closed, D.er, D.closedL, D.erL]
  case pos =>
    have e : dayE n = 0 := by unfold dayE; rw [if_pos h]
    have hds := dat_spec h
    have hm : mon n k = if -12000 ≤ k ∧ k ≤ 12000 ∧ 24000 ≤ 12 * (dat n).1 + (dat n).2.1 - 1 + k then
        (if inDays ((12 * (dat n).1 + (dat n).2.1 - 1 + k) / 12) ((12 * (dat n).1 + (dat n).2.1 - 1 + k) % 12 + 1) (min (dat n).2.2 (mlen ((12 * (dat n).1 + (dat n).2.1 - 1 + k) / 12) ((12 * (dat n).1 + (dat n).2.1 - 1 + k) % 12 + 1))) then
          (num ((12 * (dat n).1 + (dat n).2.1 - 1 + k) / 12) ((12 * (dat n).1 + (dat n).2.1 - 1 + k) % 12 + 1) (min (dat n).2.2 (mlen ((12 * (dat n).1 + (dat n).2.1 - 1 + k) / 12) ((12 * (dat n).1 + (dat n).2.1 - 1 + k) % 12 + 1))), 0) else (0, 13)) else (0, 13) := by
      unfold mon; simp [h.1, h.2]
    have hdp := dateOf_p n
    rw [e] at hdp
    generalize mon n k = res at *
    generalize dat n = p at *
    obtain ⟨Y, Mo, Da⟩ := p
    simp only at hds hm hdp
    obtain ⟨s1, s2, ⟨v1, v2, v3, v4⟩, s4⟩ := hds
    have ml := mlen_le Y Mo
    by_cases hk : -12000 ≤ k ∧ k ≤ 12000 ∧ 24000 ≤ 12 * Y + Mo - 1 + k
    case neg =>
      rw [if_neg hk] at hm
      subst hm
      by_cases hmin : k = -9223372036854775808
      · subst hmin
        have hw : IntKind.i64.wrap (0 - -9223372036854775808) = -9223372036854775808 := by rw [IntKind.wrap_i64]; decide
        repeat' (first
    | with_reducible apply swp_seq
    | with_reducible apply swp_reg
    | with_reducible apply swp_regD
    | with_reducible apply swp_block
    | with_reducible apply swp_exit
    | with_reducible apply swp_ret
    | with_reducible apply swp_skip
    | with_reducible apply swp_cd
    | simp only [go_sem, Nat.reduceAdd, Nat.reduceSub, Nat.reduceMul, Nat.reduceEqDiff, Nat.reduceLeDiff, Nat.reduceLT, Int.reduceEq, Int.reduceNe, Int.reduceLT, Int.reduceLE, Int.reduceAdd, Int.reduceSub, Int.reduceMul, Int.reduceNeg, Int.reduceToNat, Int.reduceTDiv, Int.reduceTMod, Int.reduceBEq, Int.reduceBNe, decide_true, decide_false, reduceCtorEq, reduceIte, P11, q11, hw, foldI, Option.bind_some]
    | simp (disch := omega) only [w64, w32, wu8, wu16, wu32, wu64]
    | ((with_reducible refine o_call (hdp) ?he ?hc ?_); (case he => first | rfl | (simp [D.erL, D.er]; done)); (case hc => first | rfl | (simp [D.closedL, D.closed]; done)))
    | ((with_reducible refine p_call (hdp) ?he ?hc ?_); (case he => first | rfl | (simp [D.erL, D.er]; done)); (case hc => first | rfl | (simp [D.closedL, D.closed]; done)))
    | ((with_reducible refine c_call (hdp) ?he ?hc ?_); (case he => first | rfl | (simp [D.erL, D.er]; done)); (case hc => first | rfl | (simp [D.closedL, D.closed]; done)))
    | with_reducible apply cd_dec
    | with_reducible apply cd_eq
    | with_reducible apply cd_ne
    | with_reducible apply cd_split
    | with_reducible apply gd_dec
    | with_reducible apply gd_eq
    | with_reducible apply gd_ne
    | with_reducible apply gd_split
    | ((with_reducible refine And.intro ?hw ?_); (case hw => first | omega | rfl | exact ⟨_, _, rfl⟩ | assumption | (simp only [List.length_cons, List.length_nil, List.length_append, List.length_map, List.length_replicate, List.length_take, List.length_drop] <;> omega)))
    | with_reducible intro _)
        all_goals first
          | omega
          | simp [D.closed, D.er, D.closedL, D.erL]
      · repeat' (first
    | with_reducible apply swp_seq
    | with_reducible apply swp_reg
    | with_reducible apply swp_regD
    | with_reducible apply swp_block
    | with_reducible apply swp_exit
    | with_reducible apply swp_ret
    | with_reducible apply swp_skip
    | with_reducible apply swp_cd
    | simp only [go_sem, Nat.reduceAdd, Nat.reduceSub, Nat.reduceMul, Nat.reduceEqDiff, Nat.reduceLeDiff, Nat.reduceLT, Int.reduceEq, Int.reduceNe, Int.reduceLT, Int.reduceLE, Int.reduceAdd, Int.reduceSub, Int.reduceMul, Int.reduceNeg, Int.reduceToNat, Int.reduceTDiv, Int.reduceTMod, Int.reduceBEq, Int.reduceBNe, decide_true, decide_false, reduceCtorEq, reduceIte, P11, q11, foldI]
    | simp (disch := omega) only [w64, w32, wu8, wu16, wu32, wu64]
    | ((with_reducible refine o_call (hdp) ?he ?hc ?_); (case he => first | rfl | (simp [D.erL, D.er]; done)); (case hc => first | rfl | (simp [D.closedL, D.closed]; done)))
    | ((with_reducible refine p_call (hdp) ?he ?hc ?_); (case he => first | rfl | (simp [D.erL, D.er]; done)); (case hc => first | rfl | (simp [D.closedL, D.closed]; done)))
    | ((with_reducible refine c_call (hdp) ?he ?hc ?_); (case he => first | rfl | (simp [D.erL, D.er]; done)); (case hc => first | rfl | (simp [D.closedL, D.closed]; done)))
    | with_reducible apply cd_dec
    | with_reducible apply cd_eq
    | with_reducible apply cd_ne
    | with_reducible apply cd_split
    | with_reducible apply gd_dec
    | with_reducible apply gd_eq
    | with_reducible apply gd_ne
    | with_reducible apply gd_split
    | ((with_reducible refine And.intro ?hw ?_); (case hw => first | omega | rfl | exact ⟨_, _, rfl⟩ | assumption | (simp only [List.length_cons, List.length_nil, List.length_append, List.length_map, List.length_replicate, List.length_take, List.length_drop] <;> omega)))
    | with_reducible intro _)
        all_goals first
          | omega
          | simp [D.closed, D.er, D.closedL, D.erL]
          | trace_state
    case pos =>
      rw [if_pos hk] at hm
      have t1 : (12 * Y + Mo - 1 + k).tdiv 12 = (12 * Y + Mo - 1 + k) / 12 := Int.tdiv_eq_ediv_of_nonneg (by omega)
      have t2 : (12 * Y + Mo - 1 + k).tmod 12 = (12 * Y + Mo - 1 + k) % 12 := Int.tmod_eq_emod_of_nonneg (by omega)
      have t3 : 0 ≤ (12 * Y + Mo - 1 + k) % 12 ∧ (12 * Y + Mo - 1 + k) % 12 ≤ 11 := by omega
      have t4 : 2000 ≤ (12 * Y + Mo - 1 + k) / 12 ∧ (12 * Y + Mo - 1 + k) / 12 ≤ 3200 := by omega
      have ha : 24000 ≤ 12 * Y + Mo - 1 + k ∧ 12 * Y + Mo - 1 + k ≤ 40000 := by omega
      generalize hy : (12 * Y + Mo - 1 + k) / 12 = y' at *
      generalize hm' : (12 * Y + Mo - 1 + k) % 12 = m' at *
      have ml' := mlen_le y' (m' + 1)
      have hz : (y' == 0) = false := by rw [beq_eq_false_iff_ne]; omega
      have hmin : (if mlen y' (m' + 1) < Da then mlen y' (m' + 1) else Da) = min Da (mlen y' (m' + 1)) := by omega
      have hb : 1 ≤ min Da (mlen y' (m' + 1)) ∧ min Da (mlen y' (m' + 1)) ≤ 31 := by omega
      have lp := len_p y' (m' + 1) 1 (by omega) (by omega)
      generalize mlen y' (m' + 1) = L at *
      generalize min Da L = d' at *
      by_cases hi : inDays y' (m' + 1) d'
      · have d2 : decide (inDays y' (m' + 1) d') = true := decide_eq_true hi
        rw [if_pos hi] at hm
        subst hm
        obtain ⟨i1, i2, i3⟩ := hi
        repeat' (first
    | with_reducible apply swp_seq
    | with_reducible apply swp_reg
    | with_reducible apply swp_regD
    | with_reducible apply swp_block
    | with_reducible apply swp_exit
    | with_reducible apply swp_ret
    | with_reducible apply swp_skip
    | with_reducible apply swp_cd
    | simp only [go_sem, Nat.reduceAdd, Nat.reduceSub, Nat.reduceMul, Nat.reduceEqDiff, Nat.reduceLeDiff, Nat.reduceLT, Int.reduceEq, Int.reduceNe, Int.reduceLT, Int.reduceLE, Int.reduceAdd, Int.reduceSub, Int.reduceMul, Int.reduceNeg, Int.reduceToNat, Int.reduceTDiv, Int.reduceTMod, Int.reduceBEq, Int.reduceBNe, decide_true, decide_false, reduceCtorEq, reduceIte, P11, q11, foldI, t1, t2, hmin, d2, eqDs, hz, Bool.false_and, Bool.not_false, Bool.not_true]
    | simp (disch := omega) only [w64, w32, wu8, wu16, wu32, wu64]
    | ((with_reducible refine o_call (hdp) ?he ?hc ?_); (case he => first | rfl | (simp [D.erL, D.er]; done)); (case hc => first | rfl | (simp [D.closedL, D.closed]; done)))
    | ((with_reducible refine p_call (hdp) ?he ?hc ?_); (case he => first | rfl | (simp [D.erL, D.er]; done)); (case hc => first | rfl | (simp [D.closedL, D.closed]; done)))
    | ((with_reducible refine c_call (hdp) ?he ?hc ?_); (case he => first | rfl | (simp [D.erL, D.er]; done)); (case hc => first | rfl | (simp [D.closedL, D.closed]; done)))
    | ((with_reducible refine o_call (lp) ?he ?hc ?_); (case he => first | rfl | (simp [D.erL, D.er]; done)); (case hc => first | rfl | (simp [D.closedL, D.closed]; done)))
    | ((with_reducible refine p_call (lp) ?he ?hc ?_); (case he => first | rfl | (simp [D.erL, D.er]; done)); (case hc => first | rfl | (simp [D.closedL, D.closed]; done)))
    | ((with_reducible refine c_call (lp) ?he ?hc ?_); (case he => first | rfl | (simp [D.erL, D.er]; done)); (case hc => first | rfl | (simp [D.closedL, D.closed]; done)))
    | ((with_reducible refine o_call (in_p y' (m' + 1) d' (by omega) (by omega) (by omega) (by omega)) ?he ?hc ?_); (case he => first | rfl | (simp [D.erL, D.er]; done)); (case hc => first | rfl | (simp [D.closedL, D.closed]; done)))
    | ((with_reducible refine p_call (in_p y' (m' + 1) d' (by omega) (by omega) (by omega) (by omega)) ?he ?hc ?_); (case he => first | rfl | (simp [D.erL, D.er]; done)); (case hc => first | rfl | (simp [D.closedL, D.closed]; done)))
    | ((with_reducible refine c_call (in_p y' (m' + 1) d' (by omega) (by omega) (by omega) (by omega)) ?he ?hc ?_); (case he => first | rfl | (simp [D.erL, D.er]; done)); (case hc => first | rfl | (simp [D.closedL, D.closed]; done)))
    | ((with_reducible refine o_call (num_p y' (m' + 1) d' (by omega) (by omega) (by omega) (by omega) (by omega) (by omega)) ?he ?hc ?_); (case he => first | rfl | (simp [D.erL, D.er]; done)); (case hc => first | rfl | (simp [D.closedL, D.closed]; done)))
    | ((with_reducible refine p_call (num_p y' (m' + 1) d' (by omega) (by omega) (by omega) (by omega) (by omega) (by omega)) ?he ?hc ?_); (case he => first | rfl | (simp [D.erL, D.er]; done)); (case hc => first | rfl | (simp [D.closedL, D.closed]; done)))
    | ((with_reducible refine c_call (num_p y' (m' + 1) d' (by omega) (by omega) (by omega) (by omega) (by omega) (by omega)) ?he ?hc ?_); (case he => first | rfl | (simp [D.erL, D.er]; done)); (case hc => first | rfl | (simp [D.closedL, D.closed]; done)))
    | with_reducible apply cd_dec
    | with_reducible apply cd_eq
    | with_reducible apply cd_ne
    | with_reducible apply cd_split
    | with_reducible apply gd_dec
    | with_reducible apply gd_eq
    | with_reducible apply gd_ne
    | with_reducible apply gd_split
    | ((with_reducible refine And.intro ?hw ?_); (case hw => first | omega | rfl | exact ⟨_, _, rfl⟩ | assumption | (simp only [List.length_cons, List.length_nil, List.length_append, List.length_map, List.length_replicate, List.length_take, List.length_drop] <;> omega)))
    | with_reducible intro _)
        all_goals first
          | omega
          | simp [D.closed, D.er, D.closedL, D.erL]
          | trace_state
      · have d2 : decide (inDays y' (m' + 1) d') = false := decide_eq_false hi
        rw [if_neg hi] at hm
        subst hm
        repeat' (first
    | with_reducible apply swp_seq
    | with_reducible apply swp_reg
    | with_reducible apply swp_regD
    | with_reducible apply swp_block
    | with_reducible apply swp_exit
    | with_reducible apply swp_ret
    | with_reducible apply swp_skip
    | with_reducible apply swp_cd
    | simp only [go_sem, Nat.reduceAdd, Nat.reduceSub, Nat.reduceMul, Nat.reduceEqDiff, Nat.reduceLeDiff, Nat.reduceLT, Int.reduceEq, Int.reduceNe, Int.reduceLT, Int.reduceLE, Int.reduceAdd, Int.reduceSub, Int.reduceMul, Int.reduceNeg, Int.reduceToNat, Int.reduceTDiv, Int.reduceTMod, Int.reduceBEq, Int.reduceBNe, decide_true, decide_false, reduceCtorEq, reduceIte, P11, q11, foldI, t1, t2, hmin, d2, eqDs, hz, Bool.false_and, Bool.not_false, Bool.not_true]
    | simp (disch := omega) only [w64, w32, wu8, wu16, wu32, wu64]
    | ((with_reducible refine o_call (hdp) ?he ?hc ?_); (case he => first | rfl | (simp [D.erL, D.er]; done)); (case hc => first | rfl | (simp [D.closedL, D.closed]; done)))
    | ((with_reducible refine p_call (hdp) ?he ?hc ?_); (case he => first | rfl | (simp [D.erL, D.er]; done)); (case hc => first | rfl | (simp [D.closedL, D.closed]; done)))
    | ((with_reducible refine c_call (hdp) ?he ?hc ?_); (case he => first | rfl | (simp [D.erL, D.er]; done)); (case hc => first | rfl | (simp [D.closedL, D.closed]; done)))
    | ((with_reducible refine o_call (lp) ?he ?hc ?_); (case he => first | rfl | (simp [D.erL, D.er]; done)); (case hc => first | rfl | (simp [D.closedL, D.closed]; done)))
    | ((with_reducible refine p_call (lp) ?he ?hc ?_); (case he => first | rfl | (simp [D.erL, D.er]; done)); (case hc => first | rfl | (simp [D.closedL, D.closed]; done)))
    | ((with_reducible refine c_call (lp) ?he ?hc ?_); (case he => first | rfl | (simp [D.erL, D.er]; done)); (case hc => first | rfl | (simp [D.closedL, D.closed]; done)))
    | ((with_reducible refine o_call (in_p y' (m' + 1) d' (by omega) (by omega) (by omega) (by omega)) ?he ?hc ?_); (case he => first | rfl | (simp [D.erL, D.er]; done)); (case hc => first | rfl | (simp [D.closedL, D.closed]; done)))
    | ((with_reducible refine p_call (in_p y' (m' + 1) d' (by omega) (by omega) (by omega) (by omega)) ?he ?hc ?_); (case he => first | rfl | (simp [D.erL, D.er]; done)); (case hc => first | rfl | (simp [D.closedL, D.closed]; done)))
    | ((with_reducible refine c_call (in_p y' (m' + 1) d' (by omega) (by omega) (by omega) (by omega)) ?he ?hc ?_); (case he => first | rfl | (simp [D.erL, D.er]; done)); (case hc => first | rfl | (simp [D.closedL, D.closed]; done)))
    | with_reducible apply cd_dec
    | with_reducible apply cd_eq
    | with_reducible apply cd_ne
    | with_reducible apply cd_split
    | with_reducible apply gd_dec
    | with_reducible apply gd_eq
    | with_reducible apply gd_ne
    | with_reducible apply gd_split
    | ((with_reducible refine And.intro ?hw ?_); (case hw => first | omega | rfl | exact ⟨_, _, rfl⟩ | assumption | (simp only [List.length_cons, List.length_nil, List.length_append, List.length_map, List.length_replicate, List.length_take, List.length_drop] <;> omega)))
    | with_reducible intro _)
        all_goals first
          | omega
          | simp [D.closed, D.er, D.closedL, D.erL]
          | trace_state

theorem mon_out {n k : Int} (h : ¬(0 ≤ n ∧ n ≤ 40000)) : mon n k = (0, 13) := by
  unfold mon; rw [if_neg (fun hh => h ⟨hh.1, hh.2.1⟩)]
end Go.Proofs.YtapoplenfgjcjaaDoor
