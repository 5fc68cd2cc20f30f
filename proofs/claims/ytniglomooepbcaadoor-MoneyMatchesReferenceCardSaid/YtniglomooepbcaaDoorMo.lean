/- The laws of money: matching the reference, texts. Own work. -/
import Derived.Test.YtniglomooepbcaaDoorMk
import Derived.Test.YtniglomooepbcaaDoorMn
set_option maxRecDepth 100000
set_option linter.unusedSimpArgs false
set_option linter.unusedVariables false
namespace Go.Proofs.YtniglomooepbcaaDoor
open Go GoV

theorem l3_p (n : Int) (ws : List Int) (p : Int) (s : List UInt8) (hn : -9223372036854775808 ≤ n ∧ n ≤ 9223372036854775807)  :
    Pur M 3 [.int .i64 n, .slice (ils ws) .no, .int .i64 p, .str s] (.bool true) := by
  refine ok3 rfl ?_
  rw [i3]
  unfold c3
  by_cases h1 : ws.length ≤ 40 ∧ s.length ≤ 100
  · obtain ⟨h1, h2⟩ := h1
    have hs : s.length ≤ 4611686018427387904 := by omega
    have c1 := split_p n ws (by omega) hn
    have c2 := rsplit_p n ws (by omega) hn
    have c3 := pct_p n p
    have c4 := rpct_p n p
    have c5 := text_p n
    have c6 := rtext_p n
    have c7 := parse_p s hs
    have c8 := rparse_p s hs
    have hl : (spl n ws).1.length < 1000000 := by
      unfold spl
      split
      · simp [shr, splL, bs_len]; omega
      · simp
    have d1 := ints_p (spl n ws).1 (spl n ws).1 hl hl
    rw [decide_eq_true rfl] at d1
    generalize spl n ws = A at *
    generalize pct n p = B at *
    generalize txtR n = t at *
    generalize txtE n = te at *
    generalize prs s = D at *
    repeat' (first
    | with_reducible apply swp_seq
    | with_reducible apply swp_reg
    | with_reducible apply swp_regD
    | with_reducible apply swp_block
    | with_reducible apply swp_exit
    | with_reducible apply swp_ret
    | with_reducible apply swp_skip
    | with_reducible apply swp_cd
    | simp only [go_sem, Nat.reduceAdd, Nat.reduceSub, Nat.reduceMul, Nat.reduceEqDiff, Nat.reduceLeDiff, Nat.reduceLT, Int.reduceEq, Int.reduceNe, Int.reduceLT, Int.reduceLE, Int.reduceAdd, Int.reduceSub, Int.reduceMul, Int.reduceNeg, Int.reduceToNat, Int.reduceTDiv, Int.reduceTMod, Int.reduceBEq, Int.reduceBNe, decide_true, decide_false, reduceCtorEq, reduceIte, P3, q3, List.length_map, beq_self_eq_true]
    | simp (disch := omega) only [w64, w32, wu8, wu16, wu32, wu64]
    | ((with_reducible refine o_call (head_p) ?he ?hc ?_); (case he => first | rfl | (simp [D.erL, D.er]; done)); (case hc => first | rfl | (simp [D.closedL, D.closed]; done)))
    | ((with_reducible refine o_call (c1) ?he ?hc ?_); (case he => first | rfl | (simp [D.erL, D.er]; done)); (case hc => first | rfl | (simp [D.closedL, D.closed]; done)))
    | ((with_reducible refine o_call (c2) ?he ?hc ?_); (case he => first | rfl | (simp [D.erL, D.er]; done)); (case hc => first | rfl | (simp [D.closedL, D.closed]; done)))
    | ((with_reducible refine o_call (c3) ?he ?hc ?_); (case he => first | rfl | (simp [D.erL, D.er]; done)); (case hc => first | rfl | (simp [D.closedL, D.closed]; done)))
    | ((with_reducible refine o_call (c4) ?he ?hc ?_); (case he => first | rfl | (simp [D.erL, D.er]; done)); (case hc => first | rfl | (simp [D.closedL, D.closed]; done)))
    | ((with_reducible refine o_call (c5) ?he ?hc ?_); (case he => first | rfl | (simp [D.erL, D.er]; done)); (case hc => first | rfl | (simp [D.closedL, D.closed]; done)))
    | ((with_reducible refine o_call (c6) ?he ?hc ?_); (case he => first | rfl | (simp [D.erL, D.er]; done)); (case hc => first | rfl | (simp [D.closedL, D.closed]; done)))
    | ((with_reducible refine o_call (c7) ?he ?hc ?_); (case he => first | rfl | (simp [D.erL, D.er]; done)); (case hc => first | rfl | (simp [D.closedL, D.closed]; done)))
    | ((with_reducible refine o_call (c8) ?he ?hc ?_); (case he => first | rfl | (simp [D.erL, D.er]; done)); (case hc => first | rfl | (simp [D.closedL, D.closed]; done)))
    | ((with_reducible refine o_call (d1) ?he ?hc ?_); (case he => first | rfl | (simp [D.erL, D.er]; done)); (case hc => first | rfl | (simp [D.closedL, D.closed]; done)))
    | with_reducible apply cd_dec
    | with_reducible apply cd_eq
    | with_reducible apply cd_ne
    | with_reducible apply cd_split
    | with_reducible apply gd_dec
    | with_reducible apply gd_eq
    | with_reducible apply gd_ne
    | with_reducible apply gd_split
    | ((with_reducible refine And.intro ?hw ?_); (case hw => first | omega | rfl | exact ⟨_, _, rfl⟩ | assumption | (simp only [List.length_cons, List.length_nil, List.length_append, List.length_map, List.length_replicate, List.length_take, List.length_drop] <;> omega)))
    | with_reducible intro _)
    all_goals first
      | omega
      | contradiction
      | (simp [D.closed, D.er]; done)
      | (simp [D.closed, D.er]; omega)
  · repeat' (first
    | with_reducible apply swp_seq
    | with_reducible apply swp_reg
    | with_reducible apply swp_regD
    | with_reducible apply swp_block
    | with_reducible apply swp_exit
    | with_reducible apply swp_ret
    | with_reducible apply swp_skip
    | with_reducible apply swp_cd
    | simp only [go_sem, Nat.reduceAdd, Nat.reduceSub, Nat.reduceMul, Nat.reduceEqDiff, Nat.reduceLeDiff, Nat.reduceLT, Int.reduceEq, Int.reduceNe, Int.reduceLT, Int.reduceLE, Int.reduceAdd, Int.reduceSub, Int.reduceMul, Int.reduceNeg, Int.reduceToNat, Int.reduceTDiv, Int.reduceTMod, Int.reduceBEq, Int.reduceBNe, decide_true, decide_false, reduceCtorEq, reduceIte, P3, q3, List.length_map]
    | simp (disch := omega) only [w64, w32, wu8, wu16, wu32, wu64]
    | ((with_reducible refine o_call (head_p) ?he ?hc ?_); (case he => first | rfl | (simp [D.erL, D.er]; done)); (case hc => first | rfl | (simp [D.closedL, D.closed]; done)))
    | with_reducible apply cd_dec
    | with_reducible apply cd_eq
    | with_reducible apply cd_ne
    | with_reducible apply cd_split
    | with_reducible apply gd_dec
    | with_reducible apply gd_eq
    | with_reducible apply gd_ne
    | with_reducible apply gd_split
    | ((with_reducible refine And.intro ?hw ?_); (case hw => first | omega | rfl | exact ⟨_, _, rfl⟩ | assumption | (simp only [List.length_cons, List.length_nil, List.length_append, List.length_map, List.length_replicate, List.length_take, List.length_drop] <;> omega)))
    | with_reducible intro _)
    all_goals first
      | omega
      | contradiction
      | (simp [D.closed, D.er]; done)
      | (simp [D.closed, D.er]; omega)

theorem l7_p (n : Int) (s : List UInt8) (hn : -9223372036854775808 ≤ n ∧ n ≤ 9223372036854775807) :
    Pur M 7 [.int .i64 n, .str s] (.bool true) := by
  refine ok7 rfl ?_
  rw [i7]
  unfold c7
  by_cases hlen : s.length ≤ 100
  case neg =>
    repeat' (first
    | with_reducible apply swp_seq
    | with_reducible apply swp_reg
    | with_reducible apply swp_regD
    | with_reducible apply swp_block
    | with_reducible apply swp_exit
    | with_reducible apply swp_ret
    | with_reducible apply swp_skip
    | with_reducible apply swp_cd
    | simp only [go_sem, Nat.reduceAdd, Nat.reduceSub, Nat.reduceMul, Nat.reduceEqDiff, Nat.reduceLeDiff, Nat.reduceLT, Int.reduceEq, Int.reduceNe, Int.reduceLT, Int.reduceLE, Int.reduceAdd, Int.reduceSub, Int.reduceMul, Int.reduceNeg, Int.reduceToNat, Int.reduceTDiv, Int.reduceTMod, Int.reduceBEq, Int.reduceBNe, decide_true, decide_false, reduceCtorEq, reduceIte, P7, q7, beq_self_eq_true]
    | simp (disch := omega) only [w64, w32, wu8, wu16, wu32, wu64]
    | ((with_reducible refine o_call (head_p) ?he ?hc ?_); (case he => first | rfl | (simp [D.erL, D.er]; done)); (case hc => first | rfl | (simp [D.closedL, D.closed]; done)))
    | with_reducible apply cd_dec
    | with_reducible apply cd_eq
    | with_reducible apply cd_ne
    | with_reducible apply cd_split
    | with_reducible apply gd_dec
    | with_reducible apply gd_eq
    | with_reducible apply gd_ne
    | with_reducible apply gd_split
    | ((with_reducible refine And.intro ?hw ?_); (case hw => first | omega | rfl | exact ⟨_, _, rfl⟩ | assumption | (simp only [List.length_cons, List.length_nil, List.length_append, List.length_map, List.length_replicate, List.length_take, List.length_drop] <;> omega)))
    | with_reducible intro _)
    all_goals first
      | omega
      | contradiction
      | (simp [D.closed, D.er]; done)
  have hs : s.length ≤ 4611686018427387904 := by omega
  by_cases hA : Am n
  · have c1 := text_p n
    rw [show txtR n = txt n by unfold txtR; rw [if_pos hA], show txtE n = 0 by unfold txtE; rw [if_pos hA]] at c1
    have hl := txt_len hA
    have c2 := parse_p (txt n) (by omega)
    rw [prs_txt hA] at c2
    by_cases hp : ∃ m, Am m ∧ txt m = s
    · obtain ⟨m, hm, rfl⟩ := hp
      have hm' := hm
      unfold Am at hm'
      have c3 := parse_p (txt m) hs
      rw [prs_txt hm] at c3
      have c4 := text_p m
      rw [show txtR m = txt m by unfold txtR; rw [if_pos hm], show txtE m = 0 by unfold txtE; rw [if_pos hm]] at c4
      have hA' := hA
      unfold Am at hA'
      repeat' (first
    | with_reducible apply swp_seq
    | with_reducible apply swp_reg
    | with_reducible apply swp_regD
    | with_reducible apply swp_block
    | with_reducible apply swp_exit
    | with_reducible apply swp_ret
    | with_reducible apply swp_skip
    | with_reducible apply swp_cd
    | simp only [go_sem, Nat.reduceAdd, Nat.reduceSub, Nat.reduceMul, Nat.reduceEqDiff, Nat.reduceLeDiff, Nat.reduceLT, Int.reduceEq, Int.reduceNe, Int.reduceLT, Int.reduceLE, Int.reduceAdd, Int.reduceSub, Int.reduceMul, Int.reduceNeg, Int.reduceToNat, Int.reduceTDiv, Int.reduceTMod, Int.reduceBEq, Int.reduceBNe, decide_true, decide_false, reduceCtorEq, reduceIte, P7, q7, beq_self_eq_true]
    | simp (disch := omega) only [w64, w32, wu8, wu16, wu32, wu64]
    | ((with_reducible refine o_call (head_p) ?he ?hc ?_); (case he => first | rfl | (simp [D.erL, D.er]; done)); (case hc => first | rfl | (simp [D.closedL, D.closed]; done)))
    | ((with_reducible refine o_call (c1) ?he ?hc ?_); (case he => first | rfl | (simp [D.erL, D.er]; done)); (case hc => first | rfl | (simp [D.closedL, D.closed]; done)))
    | ((with_reducible refine o_call (c2) ?he ?hc ?_); (case he => first | rfl | (simp [D.erL, D.er]; done)); (case hc => first | rfl | (simp [D.closedL, D.closed]; done)))
    | ((with_reducible refine o_call (c3) ?he ?hc ?_); (case he => first | rfl | (simp [D.erL, D.er]; done)); (case hc => first | rfl | (simp [D.closedL, D.closed]; done)))
    | ((with_reducible refine o_call (c4) ?he ?hc ?_); (case he => first | rfl | (simp [D.erL, D.er]; done)); (case hc => first | rfl | (simp [D.closedL, D.closed]; done)))
    | with_reducible apply cd_dec
    | with_reducible apply cd_eq
    | with_reducible apply cd_ne
    | with_reducible apply cd_split
    | with_reducible apply gd_dec
    | with_reducible apply gd_eq
    | with_reducible apply gd_ne
    | with_reducible apply gd_split
    | ((with_reducible refine And.intro ?hw ?_); (case hw => first | omega | rfl | exact ⟨_, _, rfl⟩ | assumption | (simp only [List.length_cons, List.length_nil, List.length_append, List.length_map, List.length_replicate, List.length_take, List.length_drop] <;> omega)))
    | with_reducible intro _)
      all_goals first
        | omega
        | contradiction
        | (simp [D.closed, D.er]; done)
        | (simp [D.closed, D.er]; omega)
    · have c3 := parse_p s hs
      rw [prs_no (fun m h1 h2 => hp ⟨m, h1, h2⟩)] at c3
      have hA' := hA
      unfold Am at hA'
      repeat' (first
    | with_reducible apply swp_seq
    | with_reducible apply swp_reg
    | with_reducible apply swp_regD
    | with_reducible apply swp_block
    | with_reducible apply swp_exit
    | with_reducible apply swp_ret
    | with_reducible apply swp_skip
    | with_reducible apply swp_cd
    | simp only [go_sem, Nat.reduceAdd, Nat.reduceSub, Nat.reduceMul, Nat.reduceEqDiff, Nat.reduceLeDiff, Nat.reduceLT, Int.reduceEq, Int.reduceNe, Int.reduceLT, Int.reduceLE, Int.reduceAdd, Int.reduceSub, Int.reduceMul, Int.reduceNeg, Int.reduceToNat, Int.reduceTDiv, Int.reduceTMod, Int.reduceBEq, Int.reduceBNe, decide_true, decide_false, reduceCtorEq, reduceIte, P7, q7, beq_self_eq_true]
    | simp (disch := omega) only [w64, w32, wu8, wu16, wu32, wu64]
    | ((with_reducible refine o_call (head_p) ?he ?hc ?_); (case he => first | rfl | (simp [D.erL, D.er]; done)); (case hc => first | rfl | (simp [D.closedL, D.closed]; done)))
    | ((with_reducible refine o_call (c1) ?he ?hc ?_); (case he => first | rfl | (simp [D.erL, D.er]; done)); (case hc => first | rfl | (simp [D.closedL, D.closed]; done)))
    | ((with_reducible refine o_call (c2) ?he ?hc ?_); (case he => first | rfl | (simp [D.erL, D.er]; done)); (case hc => first | rfl | (simp [D.closedL, D.closed]; done)))
    | ((with_reducible refine o_call (c3) ?he ?hc ?_); (case he => first | rfl | (simp [D.erL, D.er]; done)); (case hc => first | rfl | (simp [D.closedL, D.closed]; done)))
    | with_reducible apply cd_dec
    | with_reducible apply cd_eq
    | with_reducible apply cd_ne
    | with_reducible apply cd_split
    | with_reducible apply gd_dec
    | with_reducible apply gd_eq
    | with_reducible apply gd_ne
    | with_reducible apply gd_split
    | ((with_reducible refine And.intro ?hw ?_); (case hw => first | omega | rfl | exact ⟨_, _, rfl⟩ | assumption | (simp only [List.length_cons, List.length_nil, List.length_append, List.length_map, List.length_replicate, List.length_take, List.length_drop] <;> omega)))
    | with_reducible intro _)
      all_goals first
        | omega
        | contradiction
        | (simp [D.closed, D.er]; done)
        | (simp [D.closed, D.er]; omega)
  · have c1 := text_p n
    rw [show txtR n = [] by unfold txtR; rw [if_neg hA], show txtE n = 1 by unfold txtE; rw [if_neg hA]] at c1
    by_cases hp : ∃ m, Am m ∧ txt m = s
    · obtain ⟨m, hm, rfl⟩ := hp
      have hm' := hm
      unfold Am at hm'
      have c3 := parse_p (txt m) hs
      rw [prs_txt hm] at c3
      have c4 := text_p m
      rw [show txtR m = txt m by unfold txtR; rw [if_pos hm], show txtE m = 0 by unfold txtE; rw [if_pos hm]] at c4
      have hA' := hA
      unfold Am at hA'
      repeat' (first
    | with_reducible apply swp_seq
    | with_reducible apply swp_reg
    | with_reducible apply swp_regD
    | with_reducible apply swp_block
    | with_reducible apply swp_exit
    | with_reducible apply swp_ret
    | with_reducible apply swp_skip
    | with_reducible apply swp_cd
    | simp only [go_sem, Nat.reduceAdd, Nat.reduceSub, Nat.reduceMul, Nat.reduceEqDiff, Nat.reduceLeDiff, Nat.reduceLT, Int.reduceEq, Int.reduceNe, Int.reduceLT, Int.reduceLE, Int.reduceAdd, Int.reduceSub, Int.reduceMul, Int.reduceNeg, Int.reduceToNat, Int.reduceTDiv, Int.reduceTMod, Int.reduceBEq, Int.reduceBNe, decide_true, decide_false, reduceCtorEq, reduceIte, P7, q7, beq_self_eq_true]
    | simp (disch := omega) only [w64, w32, wu8, wu16, wu32, wu64]
    | ((with_reducible refine o_call (head_p) ?he ?hc ?_); (case he => first | rfl | (simp [D.erL, D.er]; done)); (case hc => first | rfl | (simp [D.closedL, D.closed]; done)))
    | ((with_reducible refine o_call (c1) ?he ?hc ?_); (case he => first | rfl | (simp [D.erL, D.er]; done)); (case hc => first | rfl | (simp [D.closedL, D.closed]; done)))
    | ((with_reducible refine o_call (c3) ?he ?hc ?_); (case he => first | rfl | (simp [D.erL, D.er]; done)); (case hc => first | rfl | (simp [D.closedL, D.closed]; done)))
    | ((with_reducible refine o_call (c4) ?he ?hc ?_); (case he => first | rfl | (simp [D.erL, D.er]; done)); (case hc => first | rfl | (simp [D.closedL, D.closed]; done)))
    | with_reducible apply cd_dec
    | with_reducible apply cd_eq
    | with_reducible apply cd_ne
    | with_reducible apply cd_split
    | with_reducible apply gd_dec
    | with_reducible apply gd_eq
    | with_reducible apply gd_ne
    | with_reducible apply gd_split
    | ((with_reducible refine And.intro ?hw ?_); (case hw => first | omega | rfl | exact ⟨_, _, rfl⟩ | assumption | (simp only [List.length_cons, List.length_nil, List.length_append, List.length_map, List.length_replicate, List.length_take, List.length_drop] <;> omega)))
    | with_reducible intro _)
      all_goals first
        | omega
        | contradiction
        | (simp [D.closed, D.er]; done)
        | (simp [D.closed, D.er]; omega)
    · have c3 := parse_p s hs
      rw [prs_no (fun m h1 h2 => hp ⟨m, h1, h2⟩)] at c3
      have hA' := hA
      unfold Am at hA'
      repeat' (first
    | with_reducible apply swp_seq
    | with_reducible apply swp_reg
    | with_reducible apply swp_regD
    | with_reducible apply swp_block
    | with_reducible apply swp_exit
    | with_reducible apply swp_ret
    | with_reducible apply swp_skip
    | with_reducible apply swp_cd
    | simp only [go_sem, Nat.reduceAdd, Nat.reduceSub, Nat.reduceMul, Nat.reduceEqDiff, Nat.reduceLeDiff, Nat.reduceLT, Int.reduceEq, Int.reduceNe, Int.reduceLT, Int.reduceLE, Int.reduceAdd, Int.reduceSub, Int.reduceMul, Int.reduceNeg, Int.reduceToNat, Int.reduceTDiv, Int.reduceTMod, Int.reduceBEq, Int.reduceBNe, decide_true, decide_false, reduceCtorEq, reduceIte, P7, q7, beq_self_eq_true]
    | simp (disch := omega) only [w64, w32, wu8, wu16, wu32, wu64]
    | ((with_reducible refine o_call (head_p) ?he ?hc ?_); (case he => first | rfl | (simp [D.erL, D.er]; done)); (case hc => first | rfl | (simp [D.closedL, D.closed]; done)))
    | ((with_reducible refine o_call (c1) ?he ?hc ?_); (case he => first | rfl | (simp [D.erL, D.er]; done)); (case hc => first | rfl | (simp [D.closedL, D.closed]; done)))
    | ((with_reducible refine o_call (c3) ?he ?hc ?_); (case he => first | rfl | (simp [D.erL, D.er]; done)); (case hc => first | rfl | (simp [D.closedL, D.closed]; done)))
    | with_reducible apply cd_dec
    | with_reducible apply cd_eq
    | with_reducible apply cd_ne
    | with_reducible apply cd_split
    | with_reducible apply gd_dec
    | with_reducible apply gd_eq
    | with_reducible apply gd_ne
    | with_reducible apply gd_split
    | ((with_reducible refine And.intro ?hw ?_); (case hw => first | omega | rfl | exact ⟨_, _, rfl⟩ | assumption | (simp only [List.length_cons, List.length_nil, List.length_append, List.length_map, List.length_replicate, List.length_take, List.length_drop] <;> omega)))
    | with_reducible intro _)
      all_goals first
        | omega
        | contradiction
        | (simp [D.closed, D.er]; done)
        | (simp [D.closed, D.er]; omega)
end Go.Proofs.YtniglomooepbcaaDoor
