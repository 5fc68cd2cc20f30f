/- What the reference functions of the day compute: the walks, fourth part: Number. Own work. -/
import Derived.Test.YtapoplenfgjcjaaDoorRy
set_option maxRecDepth 100000
set_option linter.unusedSimpArgs false
set_option linter.unusedVariables false
namespace Go.Proofs.YtapoplenfgjcjaaDoor
open Go GoV

set_option maxHeartbeats 2000000 in
theorem rnumber_p (y m d : Int) : Pur M 13 [.int .i64 y, .int .i64 m, .int .i64 d] (.tup [.int .i64 (nmb y m d).1, .int .i64 (nmb y m d).2]) := by
  refine ok13 rfl ?_
  rw [i13]
  unfold c13
  by_cases hv : Valid y m d
  case neg =>
    have e : nmb y m d = (0, 1) := by unfold nmb; rw [if_neg hv]
    rw [e]
    have hv' : ¬(1 ≤ m ∧ m ≤ 12 ∧ 1 ≤ d ∧ d ≤ mlen y m) := hv
    repeat' (first
    | with_reducible apply swp_seq
    | with_reducible apply swp_reg
    | with_reducible apply swp_regD
    | with_reducible apply swp_block
    | with_reducible apply swp_exit
    | with_reducible apply swp_ret
    | with_reducible apply swp_skip
    | with_reducible apply swp_cd
    | simp only [go_sem, Nat.reduceAdd, Nat.reduceSub, Nat.reduceMul, Nat.reduceEqDiff, Nat.reduceLeDiff, Nat.reduceLT, Int.reduceEq, Int.reduceNe, Int.reduceLT, Int.reduceLE, Int.reduceAdd, Int.reduceSub, Int.reduceMul, Int.reduceNeg, Int.reduceToNat, Int.reduceTDiv, Int.reduceTMod, Int.reduceBEq, Int.reduceBNe, decide_true, decide_false, reduceCtorEq, reduceIte, P13, q13]
    | simp (disch := omega) only [w64, w32, wu8, wu16, wu32, wu64]
    | ((with_reducible refine o_call (rlen_p y m) ?he ?hc ?_); (case he => first | rfl | (simp [D.erL, D.er]; done)); (case hc => first | rfl | (simp [D.closedL, D.closed]; done)))
    | with_reducible apply cd_dec
    | with_reducible apply cd_eq
    | with_reducible apply cd_ne
    | with_reducible apply cd_split
    | with_reducible apply gd_dec
    | with_reducible apply gd_eq
    | with_reducible apply gd_ne
    | with_reducible apply gd_split
    | ((with_reducible refine And.intro ?hw ?_); (case hw => first | omega | rfl | exact ⟨_, _, rfl⟩ | assumption | (simp only [List.length_cons, List.length_nil, List.length_append, List.length_map, List.length_replicate, List.length_take, List.length_drop] <;> omega)))
    | with_reducible intro _)
    all_goals first
      | omega
      | (simp [D.closed, D.er, D.closedL, D.erL]; done)
      | trace_state
  case pos =>
    obtain ⟨h1, h2, h3, h4⟩ := hv
    have hv : Valid y m d := ⟨h1, h2, h3, h4⟩
    have hml := mlen_le y m
    by_cases hy : 2000 ≤ y ∧ y ≤ 2109
    case neg =>
      have e : nmb y m d = (0, 13) := by unfold nmb; rw [if_pos hv, if_neg (fun hi => hy ⟨hi.1, hi.2.1⟩)]
      rw [e]
      repeat' (first
    | with_reducible apply swp_seq
    | with_reducible apply swp_reg
    | with_reducible apply swp_regD
    | with_reducible apply swp_block
    | with_reducible apply swp_exit
    | with_reducible apply swp_ret
    | with_reducible apply swp_skip
    | with_reducible apply swp_cd
    | simp only [go_sem, Nat.reduceAdd, Nat.reduceSub, Nat.reduceMul, Nat.reduceEqDiff, Nat.reduceLeDiff, Nat.reduceLT, Int.reduceEq, Int.reduceNe, Int.reduceLT, Int.reduceLE, Int.reduceAdd, Int.reduceSub, Int.reduceMul, Int.reduceNeg, Int.reduceToNat, Int.reduceTDiv, Int.reduceTMod, Int.reduceBEq, Int.reduceBNe, decide_true, decide_false, reduceCtorEq, reduceIte, P13, q13]
    | simp (disch := omega) only [w64, w32, wu8, wu16, wu32, wu64]
    | ((with_reducible refine o_call (rlen_p y m) ?he ?hc ?_); (case he => first | rfl | (simp [D.erL, D.er]; done)); (case hc => first | rfl | (simp [D.closedL, D.closed]; done)))
    | with_reducible apply cd_dec
    | with_reducible apply cd_eq
    | with_reducible apply cd_ne
    | with_reducible apply cd_split
    | with_reducible apply gd_dec
    | with_reducible apply gd_eq
    | with_reducible apply gd_ne
    | with_reducible apply gd_split
    | ((with_reducible refine And.intro ?hw ?_); (case hw => first | omega | rfl | exact ⟨_, _, rfl⟩ | assumption | (simp only [List.length_cons, List.length_nil, List.length_append, List.length_map, List.length_replicate, List.length_take, List.length_drop] <;> omega)))
    | with_reducible intro _)
      all_goals first
        | omega
        | (simp [D.closed, D.er, D.closedL, D.erL]; done)
        | trace_state
    case pos =>
      have e : nmb y m d = if num y m d ≤ 40000 then (num y m d, 0) else (0, 13) := by
        unfold nmb; rw [if_pos hv]
        by_cases g : num y m d ≤ 40000
        · rw [if_pos g, if_pos ⟨hy.1, hy.2, g⟩]
        · rw [if_neg g, if_neg (fun hi => g hi.2.2)]
      rw [e]
      have jb := jan_bnd (y := y) hy.1 (by omega)
      have cb := cum_le y h1 h2
      repeat' (first
    | with_reducible apply swp_seq
    | with_reducible apply swp_reg
    | with_reducible apply swp_regD
    | with_reducible apply swp_block
    | with_reducible apply swp_exit
    | with_reducible apply swp_ret
    | with_reducible apply swp_skip
    | with_reducible apply swp_cd
    | simp only [go_sem, Nat.reduceAdd, Nat.reduceSub, Nat.reduceMul, Nat.reduceEqDiff, Nat.reduceLeDiff, Nat.reduceLT, Int.reduceEq, Int.reduceNe, Int.reduceLT, Int.reduceLE, Int.reduceAdd, Int.reduceSub, Int.reduceMul, Int.reduceNeg, Int.reduceToNat, Int.reduceTDiv, Int.reduceTMod, Int.reduceBEq, Int.reduceBNe, decide_true, decide_false, reduceCtorEq, reduceIte, P13, q13]
    | simp (disch := omega) only [w64, w32, wu8, wu16, wu32, wu64]
    | ((with_reducible refine o_call (rlen_p y m) ?he ?hc ?_); (case he => first | rfl | (simp [D.erL, D.er]; done)); (case hc => first | rfl | (simp [D.closedL, D.closed]; done)))
    | with_reducible apply cd_dec
    | with_reducible apply cd_eq
    | with_reducible apply cd_ne
    | with_reducible apply cd_split
    | with_reducible apply gd_dec
    | with_reducible apply gd_eq
    | with_reducible apply gd_ne
    | with_reducible apply gd_split
    | ((with_reducible refine And.intro ?hw ?_); (case hw => first | omega | rfl | exact ⟨_, _, rfl⟩ | assumption | (simp only [List.length_cons, List.length_nil, List.length_append, List.length_map, List.length_replicate, List.length_take, List.length_drop] <;> omega)))
    | with_reducible intro _)
      all_goals first
        | omega
        | skip
      refine swp_fam [0, 1, 2, 3, 4, 5, 6] (fun y0 : Int => ⟨[.int .i64 y, .int .i64 m, .int .i64 d, .int .i64 0, .int .i64 0, .int .i64 (d - 1 + preY y m y0), .int .i64 y0, .undef, .undef, .undef, .undef, .undef, .undef, .undef], [], ⟨[], []⟩⟩)
        (fun y0 => 2000 ≤ y0 ∧ y0 ≤ y + 1) (fun y0 => (y + 1 - y0).toNat) 2000 ⟨by omega, by omega⟩ ?_ ?_
      · have : preY y m 2000 = 0 := by unfold preY; rw [if_pos hy.1]; decide
        simp [keepE, St.keep, this]
      · rintro y0 ⟨g1, g2⟩
        have hpy : 0 ≤ preY y m y0 ∧ preY y m y0 ≤ 41000 := by
          unfold preY; split
          · have := jan_bnd (y := y0) g1 (by omega); omega
          · split at cb <;> omega
        repeat' (first
    | with_reducible apply swp_seq
    | with_reducible apply swp_reg
    | with_reducible apply swp_regD
    | with_reducible apply swp_block
    | with_reducible apply swp_exit
    | with_reducible apply swp_ret
    | with_reducible apply swp_skip
    | with_reducible apply swp_cd
    | simp only [go_sem, Nat.reduceAdd, Nat.reduceSub, Nat.reduceMul, Nat.reduceEqDiff, Nat.reduceLeDiff, Nat.reduceLT, Int.reduceEq, Int.reduceNe, Int.reduceLT, Int.reduceLE, Int.reduceAdd, Int.reduceSub, Int.reduceMul, Int.reduceNeg, Int.reduceToNat, Int.reduceTDiv, Int.reduceTMod, Int.reduceBEq, Int.reduceBNe, decide_true, decide_false, reduceCtorEq, reduceIte, P13, q13]
    | simp (disch := omega) only [w64, w32, wu8, wu16, wu32, wu64]
    | with_reducible apply cd_dec
    | with_reducible apply cd_eq
    | with_reducible apply cd_ne
    | with_reducible apply cd_split
    | with_reducible apply gd_dec
    | with_reducible apply gd_eq
    | with_reducible apply gd_ne
    | with_reducible apply gd_split
    | ((with_reducible refine And.intro ?hw ?_); (case hw => first | omega | rfl | exact ⟨_, _, rfl⟩ | assumption | (simp only [List.length_cons, List.length_nil, List.length_append, List.length_map, List.length_replicate, List.length_take, List.length_drop] <;> omega)))
    | with_reducible intro _)
        · refine swp_fam [0, 1, 2, 3, 4, 5, 6, 7] (fun m0 : Int => ⟨[.int .i64 y, .int .i64 m, .int .i64 d, .int .i64 0, .int .i64 0, .int .i64 (d - 1 + (jan y0 + preM y m y0 m0)), .int .i64 y0, .int .i64 m0, .undef, .undef, .undef, .undef, .undef, .undef], [], ⟨[], []⟩⟩)
            (fun m0 => 1 ≤ m0 ∧ m0 ≤ 13) (fun m0 => (13 - m0).toNat) 1 ⟨by omega, by omega⟩ ?_ ?_
          · have : preY y m y0 = jan y0 := by unfold preY; rw [if_pos (by omega)]
            simp [keepE, St.keep, this, preM_one h1]
          · rintro m0 ⟨f1, f2⟩
            have pb := preM_bnd (y := y) (y0 := y0) h1 h2 f1 f2
            have jb0 := jan_bnd (y := y0) g1 (by omega)
            have lb := mlen_le y0 m0
            repeat' (first
    | with_reducible apply swp_seq
    | with_reducible apply swp_reg
    | with_reducible apply swp_regD
    | with_reducible apply swp_block
    | with_reducible apply swp_exit
    | with_reducible apply swp_ret
    | with_reducible apply swp_skip
    | with_reducible apply swp_cd
    | simp only [go_sem, Nat.reduceAdd, Nat.reduceSub, Nat.reduceMul, Nat.reduceEqDiff, Nat.reduceLeDiff, Nat.reduceLT, Int.reduceEq, Int.reduceNe, Int.reduceLT, Int.reduceLE, Int.reduceAdd, Int.reduceSub, Int.reduceMul, Int.reduceNeg, Int.reduceToNat, Int.reduceTDiv, Int.reduceTMod, Int.reduceBEq, Int.reduceBNe, decide_true, decide_false, reduceCtorEq, reduceIte, P13, q13]
    | simp (disch := omega) only [w64, w32, wu8, wu16, wu32, wu64]
    | ((with_reducible refine o_call (rlen_p y0 m0) ?he ?hc ?_); (case he => first | rfl | (simp [D.erL, D.er]; done)); (case hc => first | rfl | (simp [D.closedL, D.closed]; done)))
    | with_reducible apply cd_dec
    | with_reducible apply cd_eq
    | with_reducible apply cd_ne
    | with_reducible apply cd_split
    | with_reducible apply gd_dec
    | with_reducible apply gd_eq
    | with_reducible apply gd_ne
    | with_reducible apply gd_split
    | ((with_reducible refine And.intro ?hw ?_); (case hw => first | omega | rfl | exact ⟨_, _, rfl⟩ | assumption | (simp only [List.length_cons, List.length_nil, List.length_append, List.length_map, List.length_replicate, List.length_take, List.length_drop] <;> omega)))
    | with_reducible intro _)
            · refine ⟨m0 + 1, ⟨by omega, by omega⟩, by omega, ?_⟩
              simp [keepE, St.keep]
              rw [preM_step h1 h2 (by omega) f1 (by omega) (.inl (by assumption))]
              omega
            · refine ⟨m0 + 1, ⟨by omega, by omega⟩, by omega, ?_⟩
              simp [keepE, St.keep]
              rw [preM_step h1 h2 (by omega) f1 (by omega) (.inr (by assumption))]
              omega
            · refine ⟨m0 + 1, ⟨by omega, by omega⟩, by omega, ?_⟩
              simp [keepE, St.keep]
              rw [preM_stay (by assumption) (by assumption)]
            · have e13 : m0 = 13 := by omega
              subst e13
              have ee := preM_end (y := y) (m := m) (y0 := y0) h2 (by omega) (by omega)
              refine ⟨y0 + 1, ⟨by omega, by omega⟩, by omega, ?_⟩
              simp [keepE, St.keep]
              omega
        · have ey : y0 = y + 1 := by omega
          subst ey
          have hn : d - 1 + preY y m (y + 1) = num y m d := by unfold preY num; rw [if_neg (by omega)]; omega
          have hnn : 0 ≤ num y m d := by unfold num; omega
          have hi := is_p (num y m d)
          rw [hn]
          generalize num y m d = r at *
          by_cases g : r ≤ 40000
          · have d1 : decide (0 ≤ r ∧ r ≤ 40000) = true := decide_eq_true ⟨hnn, g⟩
            rw [if_pos g]
            rw [d1] at hi
            repeat' (first
    | with_reducible apply swp_seq
    | with_reducible apply swp_reg
    | with_reducible apply swp_regD
    | with_reducible apply swp_block
    | with_reducible apply swp_exit
    | with_reducible apply swp_ret
    | with_reducible apply swp_skip
    | with_reducible apply swp_cd
    | simp only [go_sem, Nat.reduceAdd, Nat.reduceSub, Nat.reduceMul, Nat.reduceEqDiff, Nat.reduceLeDiff, Nat.reduceLT, Int.reduceEq, Int.reduceNe, Int.reduceLT, Int.reduceLE, Int.reduceAdd, Int.reduceSub, Int.reduceMul, Int.reduceNeg, Int.reduceToNat, Int.reduceTDiv, Int.reduceTMod, Int.reduceBEq, Int.reduceBNe, decide_true, decide_false, reduceCtorEq, reduceIte, P13, q13, Bool.not_true]
    | simp (disch := omega) only [w64, w32, wu8, wu16, wu32, wu64]
    | ((with_reducible refine o_call (hi) ?he ?hc ?_); (case he => first | rfl | (simp [D.erL, D.er]; done)); (case hc => first | rfl | (simp [D.closedL, D.closed]; done)))
    | with_reducible apply cd_dec
    | with_reducible apply cd_eq
    | with_reducible apply cd_ne
    | with_reducible apply cd_split
    | with_reducible apply gd_dec
    | with_reducible apply gd_eq
    | with_reducible apply gd_ne
    | with_reducible apply gd_split
    | ((with_reducible refine And.intro ?hw ?_); (case hw => first | omega | rfl | exact ⟨_, _, rfl⟩ | assumption | (simp only [List.length_cons, List.length_nil, List.length_append, List.length_map, List.length_replicate, List.length_take, List.length_drop] <;> omega)))
    | with_reducible intro _)
            all_goals simp [D.closed, D.er, D.closedL, D.erL]
          · have d1 : decide (0 ≤ r ∧ r ≤ 40000) = false := decide_eq_false (fun hh => g hh.2)
            rw [if_neg g]
            rw [d1] at hi
            repeat' (first
    | with_reducible apply swp_seq
    | with_reducible apply swp_reg
    | with_reducible apply swp_regD
    | with_reducible apply swp_block
    | with_reducible apply swp_exit
    | with_reducible apply swp_ret
    | with_reducible apply swp_skip
    | with_reducible apply swp_cd
    | simp only [go_sem, Nat.reduceAdd, Nat.reduceSub, Nat.reduceMul, Nat.reduceEqDiff, Nat.reduceLeDiff, Nat.reduceLT, Int.reduceEq, Int.reduceNe, Int.reduceLT, Int.reduceLE, Int.reduceAdd, Int.reduceSub, Int.reduceMul, Int.reduceNeg, Int.reduceToNat, Int.reduceTDiv, Int.reduceTMod, Int.reduceBEq, Int.reduceBNe, decide_true, decide_false, reduceCtorEq, reduceIte, P13, q13, Bool.not_false]
    | simp (disch := omega) only [w64, w32, wu8, wu16, wu32, wu64]
    | ((with_reducible refine o_call (hi) ?he ?hc ?_); (case he => first | rfl | (simp [D.erL, D.er]; done)); (case hc => first | rfl | (simp [D.closedL, D.closed]; done)))
    | with_reducible apply cd_dec
    | with_reducible apply cd_eq
    | with_reducible apply cd_ne
    | with_reducible apply cd_split
    | with_reducible apply gd_dec
    | with_reducible apply gd_eq
    | with_reducible apply gd_ne
    | with_reducible apply gd_split
    | ((with_reducible refine And.intro ?hw ?_); (case hw => first | omega | rfl | exact ⟨_, _, rfl⟩ | assumption | (simp only [List.length_cons, List.length_nil, List.length_append, List.length_map, List.length_replicate, List.length_take, List.length_drop] <;> omega)))
    | with_reducible intro _)
            all_goals simp [D.closed, D.er, D.closedL, D.erL]
end Go.Proofs.YtapoplenfgjcjaaDoor
