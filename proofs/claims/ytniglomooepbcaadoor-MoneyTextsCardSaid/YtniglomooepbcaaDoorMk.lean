/- What the functions of money compute: the walks, ninth part: the chapter's examples. Own work. -/
import Derived.Test.YtniglomooepbcaaDoorMj
set_option maxRecDepth 100000
set_option linter.unusedSimpArgs false
set_option linter.unusedVariables false
namespace Go.Proofs.YtniglomooepbcaaDoor
open Go GoV

theorem ex1 : spl 100 [1, 1, 1] = ([34, 33, 33], 0) := by decide
theorem ex2 : spl 5 [3, 0, 1] = ([4, 0, 1], 0) := by decide
theorem ex3 : pct 50 1 = (0, 0) := by decide
theorem ex4 : pct 150 1 = (2, 0) := by decide
theorem ex5 : pct 51 1 = (1, 0) := by decide
theorem ex6 : txtR 5 = [48, 46, 48, 53] := by
  unfold txtR; rw [if_pos (by decide)]
  simp [txt, Lib.decDigits]
theorem ex7 : txtR 123456 = [49, 50, 51, 52, 46, 53, 54] := by
  unfold txtR; rw [if_pos (by decide)]
  simp [txt, Lib.decDigits]
theorem ex8 : prs [48, 49, 46, 48, 48] = (0, 8) := by
  refine prs_no fun n hn h => ?_
  have := congrArg (fun l => ((l.foldl stp 0 : Nat) : Int)) h
  simp only [fold_txt hn] at this
  have e : n = 100 := by rw [this]; decide
  subst e
  revert h
  simp [txt, Lib.decDigits]
theorem ex9 : prs [49, 46, 53] = (0, 8) := by
  refine prs_no fun n hn h => ?_
  have := congrArg (fun l => ((l.foldl stp 0 : Nat) : Int)) h
  simp only [fold_txt hn] at this
  have e : n = 15 := by rw [this]; decide
  subst e
  revert h
  simp [txt, Lib.decDigits]

theorem head_p : Pur M 8 [] (.bool true) := by
  refine ok8 rfl ?_
  rw [i8]
  unfold c8
  have c1 := split_p 100 [1, 1, 1] (by decide) (by decide)
  have c2 := split_p 5 [3, 0, 1] (by decide) (by decide)
  have c3 := pct_p 50 1
  have c4 := pct_p 150 1
  have c5 := pct_p 51 1
  have c6 := text_p 5
  have c7 := text_p 123456
  have c8 := parse_p [48, 49, 46, 48, 48] (by decide)
  have c9 := parse_p [49, 46, 53] (by decide)
  rw [ex1] at c1
  rw [ex2] at c2
  rw [ex3] at c3
  rw [ex4] at c4
  rw [ex5] at c5
  rw [ex6, show txtE 5 = 0 by decide] at c6
  rw [ex7, show txtE 123456 = 0 by decide] at c7
  rw [ex8] at c8
  rw [ex9] at c9
  have d1 := ints_p [34, 33, 33] [34, 33, 33] (by decide) (by decide)
  have d2 := ints_p [4, 0, 1] [4, 0, 1] (by decide) (by decide)
  simp only [ils, List.map_cons, List.map_nil, decide_true] at c1 c2 d1 d2
  repeat' (first
    | with_reducible apply swp_seq
    | with_reducible apply swp_reg
    | with_reducible apply swp_regD
    | with_reducible apply swp_block
    | with_reducible apply swp_exit
    | with_reducible apply swp_ret
    | with_reducible apply swp_skip
    | with_reducible apply swp_cd
    | simp only [go_sem, Nat.reduceAdd, Nat.reduceSub, Nat.reduceMul, Nat.reduceEqDiff, Nat.reduceLeDiff, Nat.reduceLT, Int.reduceEq, Int.reduceNe, Int.reduceLT, Int.reduceLE, Int.reduceAdd, Int.reduceSub, Int.reduceMul, Int.reduceNeg, Int.reduceToNat, Int.reduceTDiv, Int.reduceTMod, Int.reduceBEq, Int.reduceBNe, decide_true, decide_false, reduceCtorEq, reduceIte, P8, q8, beq_self_eq_true]
    | simp (disch := omega) only [w64, w32, wu8, wu16, wu32, wu64]
    | ((with_reducible refine o_call (c1) ?he ?hc ?_); (case he => first | rfl | (simp [D.erL, D.er]; done)); (case hc => first | rfl | (simp [D.closedL, D.closed]; done)))
    | ((with_reducible refine o_call (c2) ?he ?hc ?_); (case he => first | rfl | (simp [D.erL, D.er]; done)); (case hc => first | rfl | (simp [D.closedL, D.closed]; done)))
    | ((with_reducible refine o_call (c3) ?he ?hc ?_); (case he => first | rfl | (simp [D.erL, D.er]; done)); (case hc => first | rfl | (simp [D.closedL, D.closed]; done)))
    | ((with_reducible refine o_call (c4) ?he ?hc ?_); (case he => first | rfl | (simp [D.erL, D.er]; done)); (case hc => first | rfl | (simp [D.closedL, D.closed]; done)))
    | ((with_reducible refine o_call (c5) ?he ?hc ?_); (case he => first | rfl | (simp [D.erL, D.er]; done)); (case hc => first | rfl | (simp [D.closedL, D.closed]; done)))
    | ((with_reducible refine o_call (c6) ?he ?hc ?_); (case he => first | rfl | (simp [D.erL, D.er]; done)); (case hc => first | rfl | (simp [D.closedL, D.closed]; done)))
    | ((with_reducible refine o_call (c7) ?he ?hc ?_); (case he => first | rfl | (simp [D.erL, D.er]; done)); (case hc => first | rfl | (simp [D.closedL, D.closed]; done)))
    | ((with_reducible refine o_call (c8) ?he ?hc ?_); (case he => first | rfl | (simp [D.erL, D.er]; done)); (case hc => first | rfl | (simp [D.closedL, D.closed]; done)))
    | ((with_reducible refine o_call (c9) ?he ?hc ?_); (case he => first | rfl | (simp [D.erL, D.er]; done)); (case hc => first | rfl | (simp [D.closedL, D.closed]; done)))
    | ((with_reducible refine o_call (d1) ?he ?hc ?_); (case he => first | rfl | (simp [D.erL, D.er]; done)); (case hc => first | rfl | (simp [D.closedL, D.closed]; done)))
    | ((with_reducible refine o_call (d2) ?he ?hc ?_); (case he => first | rfl | (simp [D.erL, D.er]; done)); (case hc => first | rfl | (simp [D.closedL, D.closed]; done)))
    | ((with_reducible apply s_bsl); (case he => first | rfl | assumption | omega | (simp only [List.length_cons, List.length_nil, List.length_append, List.length_map, List.length_replicate, List.length_take, List.length_drop] <;> omega) | (constructor <;> (simp only [List.length_cons, List.length_nil, List.length_append, List.length_map, List.length_replicate, List.length_take, List.length_drop] <;> omega)) | (constructor <;> omega) | (simp [elemsK, D.isVal, D.cells, D.closedL, D.closed]; done) | (simp [elemsK, D.isVal, D.cells, D.closedL, D.closed]; omega)); (case hl => first | rfl | assumption | omega | (simp only [List.length_cons, List.length_nil, List.length_append, List.length_map, List.length_replicate, List.length_take, List.length_drop] <;> omega) | (constructor <;> (simp only [List.length_cons, List.length_nil, List.length_append, List.length_map, List.length_replicate, List.length_take, List.length_drop] <;> omega)) | (constructor <;> omega) | (simp [elemsK, D.isVal, D.cells, D.closedL, D.closed]; done) | (simp [elemsK, D.isVal, D.cells, D.closedL, D.closed]; omega)); (case hc => first | rfl | assumption | omega | (simp only [List.length_cons, List.length_nil, List.length_append, List.length_map, List.length_replicate, List.length_take, List.length_drop] <;> omega) | (constructor <;> (simp only [List.length_cons, List.length_nil, List.length_append, List.length_map, List.length_replicate, List.length_take, List.length_drop] <;> omega)) | (constructor <;> omega) | (simp [elemsK, D.isVal, D.cells, D.closedL, D.closed]; done) | (simp [elemsK, D.isVal, D.cells, D.closedL, D.closed]; omega)))
    | with_reducible apply cd_dec
    | with_reducible apply cd_eq
    | with_reducible apply cd_ne
    | with_reducible apply cd_split
    | with_reducible apply gd_dec
    | with_reducible apply gd_eq
    | with_reducible apply gd_ne
    | with_reducible apply gd_split
    | ((with_reducible refine And.intro ?hw ?_); (case hw => first | omega | rfl | exact ⟨_, _, rfl⟩ | assumption | (simp only [List.length_cons, List.length_nil, List.length_append, List.length_map, List.length_replicate, List.length_take, List.length_drop] <;> omega)))
    | with_reducible intro _)

  all_goals simp [D.closed, D.er]
end Go.Proofs.YtniglomooepbcaaDoor
