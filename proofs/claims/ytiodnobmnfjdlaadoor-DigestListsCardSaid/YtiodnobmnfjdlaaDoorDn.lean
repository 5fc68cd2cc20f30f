/- The laws of digests: all functions, forms, short texts. Own work. -/
import Derived.Test.YtiodnobmnfjdlaaDoorDi
import Derived.Test.YtiodnobmnfjdlaaDoorDk
import Derived.Test.YtiodnobmnfjdlaaDoorDm
set_option maxRecDepth 100000
set_option linter.unusedSimpArgs false
set_option linter.unusedVariables false
namespace Go.Proofs.YtiodnobmnfjdlaaDoor
open Go GoV Go.RowKit

theorem rlist_p (l : List (List UInt8)) (h : okL l) : Pur M 13 [.slice (strs l) .no] (.str (sumN (joined l))) := by
  refine ok13 rfl ?_
  rw [i13]
  unfold c13
  have h1 := joined_p l h
  have h2 := rsum_p (joined l) (by have := joined_len h; omega)
  repeat' (first
    | with_reducible apply swp_seq
    | with_reducible apply swp_reg
    | with_reducible apply swp_regD
    | with_reducible apply swp_block
    | with_reducible apply swp_exit
    | with_reducible apply swp_ret
    | with_reducible apply swp_skip
    | with_reducible apply swp_cd
    | simp only [go_sem, Nat.reduceAdd, Nat.reduceSub, Nat.reduceMul, Nat.reduceEqDiff, Nat.reduceLeDiff, Nat.reduceLT, Int.reduceEq, Int.reduceNe, Int.reduceLT, Int.reduceLE, Int.reduceAdd, Int.reduceSub, Int.reduceMul, Int.reduceNeg, Int.reduceToNat, Int.reduceTDiv, Int.reduceTMod, Int.reduceBEq, Int.reduceBNe, decide_true, decide_false, reduceCtorEq, reduceIte, P13, q13]
    | simp (disch := omega) only [w64, w32, wu8, wu16, wu32, wu64]
    | ((with_reducible refine o_call (h1) ?he ?hc ?_); (case he => first | rfl | (simp [D.erL, D.er]; done)); (case hc => first | rfl | (simp [D.closedL, D.closed]; done)))
    | ((with_reducible refine o_call (h2) ?he ?hc ?_); (case he => first | rfl | (simp [D.erL, D.er]; done)); (case hc => first | rfl | (simp [D.closedL, D.closed]; done)))
    | with_reducible apply cd_dec
    | with_reducible apply cd_eq
    | with_reducible apply cd_ne
    | with_reducible apply cd_split
    | ((with_reducible refine And.intro ?hw ?_); (case hw => first | omega | rfl | exact ⟨_, _, rfl⟩ | assumption | (simp only [List.length_cons, List.length_nil, List.length_append, List.length_map, List.length_replicate, List.length_take, List.length_drop] <;> omega)))
    | with_reducible intro _)
  all_goals first
    | omega
    | (simp [D.closed, D.er]; done)

theorem hexd_hx {r : Nat} (h : r < 16) : hx (hexd r) = true := by
  have : r = 0 ∨ r = 1 ∨ r = 2 ∨ r = 3 ∨ r = 4 ∨ r = 5 ∨ r = 6 ∨ r = 7 ∨ r = 8 ∨ r = 9 ∨ r = 10 ∨ r = 11 ∨ r = 12 ∨ r = 13 ∨ r = 14 ∨ r = 15 := by omega
  rcases this with h | h | h | h | h | h | h | h | h | h | h | h | h | h | h | h <;> subst h <;> rfl

theorem sumN_len (t : List UInt8) : (sumN t).length = 16 := hex16_len _
theorem sumN_all (t : List UInt8) : (sumN t).all hx = true := by
  unfold sumN hex16
  rw [List.all_eq_true]
  intro c hc
  obtain ⟨j, _, rfl⟩ := List.mem_map.1 hc
  exact hexd_hx (Nat.mod_lt _ (by omega))
theorem sumN_is (t : List UInt8) : isD (sumN t) = true := by
  unfold isD
  rw [sumN_len, sumN_all]
  rfl
theorem isD_len {s : List UInt8} (h : s.length ≠ 16) : isD s = false := by
  unfold isD
  have : decide (s.length = 16) = false := by simpa using h
  rw [this, Bool.false_and]
theorem isD_A (a b : List UInt8) : isD (a ++ [65] ++ b) = false := by
  unfold isD
  have : (a ++ [65] ++ b).all hx = false := by
    rw [List.all_append, List.all_append]
    have : ([65] : List UInt8).all hx = false := rfl
    rw [this]
    simp
  rw [this, Bool.and_false]

theorem sum_ne {a b : List UInt8} (ha : a.length ≤ 7) (hb : b.length ≤ 7) (h : a ≠ b) : (sumN a == sumN b) = false := by
  rw [beq_eq_false_iff_ne]
  exact fun e => h ((sum_short ha hb).1 e)

set_option maxHeartbeats 1000000 in
theorem head_p : Pur M 8 [] (.bool true) := by
  refine ok8 rfl ?_
  rw [i8]
  unfold c8
  have e1 : isD [48, 49, 50, 51, 52, 53, 54, 55, 56, 57, 97, 98, 99, 100, 101, 102] = true := rfl
  have e2 : isD [48, 49, 50, 51, 52, 53, 54, 55, 56, 57, 97, 98, 99, 100, 101, 70] = false := rfl
  have e3 : isD [] = false := rfl
  have h1 := is_p [48, 49, 50, 51, 52, 53, 54, 55, 56, 57, 97, 98, 99, 100, 101, 102] (by decide)
  have h2 := is_p [48, 49, 50, 51, 52, 53, 54, 55, 56, 57, 97, 98, 99, 100, 101, 70] (by decide)
  have h3 := is_p [] (by decide)
  rw [e1] at h1
  rw [e2] at h2
  rw [e3] at h3
  have h4 := list_p [[97], [98, 99]] ⟨by decide, by decide⟩
  have e4 : joined [[97], [98, 99]] = [49, 58, 97, 50, 58, 98, 99] := by decide +kernel
  rw [e4] at h4
  have h5 := sum_p [49, 58, 97, 50, 58, 98, 99] (by decide)
  have h6 := sum_p [] (by decide)
  have h7 := sum_p [0] (by decide)
  have h8 := sum_p [1] (by decide)
  have n1 : (sumN [] == sumN [0]) = false := sum_ne (by decide) (by decide) (by decide)
  have n2 : (sumN [1] == sumN []) = false := sum_ne (by decide) (by decide) (by decide)
  have n3 : (sumN [] != sumN [0]) = true := by rw [bne, n1]; rfl
  have n4 : (sumN [1] != sumN []) = true := by rw [bne, n2]; rfl
  have n5 : (sumN [49, 58, 97, 50, 58, 98, 99] == sumN [49, 58, 97, 50, 58, 98, 99]) = true := beq_self_eq_true _
  have hs : D.slice (strs [[97], [98, 99]]) .no = D.slice [.str [97], .str [98, 99]] .no := rfl
  rw [hs] at h4
  generalize sumN [49, 58, 97, 50, 58, 98, 99] = a at *
  generalize sumN [] = b at *
  generalize sumN [0] = c at *
  generalize sumN [1] = d at *
  repeat' (first
    | with_reducible apply swp_seq
    | with_reducible apply swp_reg
    | with_reducible apply swp_regD
    | with_reducible apply swp_block
    | with_reducible apply swp_exit
    | with_reducible apply swp_ret
    | with_reducible apply swp_skip
    | with_reducible apply swp_cd
    | simp only [go_sem, Nat.reduceAdd, Nat.reduceSub, Nat.reduceMul, Nat.reduceEqDiff, Nat.reduceLeDiff, Nat.reduceLT, Int.reduceEq, Int.reduceNe, Int.reduceLT, Int.reduceLE, Int.reduceAdd, Int.reduceSub, Int.reduceMul, Int.reduceNeg, Int.reduceToNat, Int.reduceTDiv, Int.reduceTMod, Int.reduceBEq, Int.reduceBNe, decide_true, decide_false, reduceCtorEq, reduceIte, P8, q8, n1, n2, n3, n4, n5]
    | simp (disch := omega) only [w64, w32, wu8, wu16, wu32, wu64]
    | ((with_reducible refine o_call (h1) ?he ?hc ?_); (case he => first | rfl | (simp [D.erL, D.er]; done)); (case hc => first | rfl | (simp [D.closedL, D.closed]; done)))
    | ((with_reducible refine o_call (h2) ?he ?hc ?_); (case he => first | rfl | (simp [D.erL, D.er]; done)); (case hc => first | rfl | (simp [D.closedL, D.closed]; done)))
    | ((with_reducible refine o_call (h3) ?he ?hc ?_); (case he => first | rfl | (simp [D.erL, D.er]; done)); (case hc => first | rfl | (simp [D.closedL, D.closed]; done)))
    | ((with_reducible refine o_call (h4) ?he ?hc ?_); (case he => first | rfl | (simp [D.erL, D.er]; done)); (case hc => first | rfl | (simp [D.closedL, D.closed]; done)))
    | ((with_reducible refine o_call (h5) ?he ?hc ?_); (case he => first | rfl | (simp [D.erL, D.er]; done)); (case hc => first | rfl | (simp [D.closedL, D.closed]; done)))
    | ((with_reducible refine o_call (h6) ?he ?hc ?_); (case he => first | rfl | (simp [D.erL, D.er]; done)); (case hc => first | rfl | (simp [D.closedL, D.closed]; done)))
    | ((with_reducible refine o_call (h7) ?he ?hc ?_); (case he => first | rfl | (simp [D.erL, D.er]; done)); (case hc => first | rfl | (simp [D.closedL, D.closed]; done)))
    | ((with_reducible refine o_call (h8) ?he ?hc ?_); (case he => first | rfl | (simp [D.erL, D.er]; done)); (case hc => first | rfl | (simp [D.closedL, D.closed]; done)))
    | ((with_reducible apply s_bsl); (case he => first | rfl | assumption | omega | (simp only [List.length_cons, List.length_nil, List.length_append, List.length_map, List.length_replicate, List.length_take, List.length_drop] <;> omega) | (constructor <;> (simp only [List.length_cons, List.length_nil, List.length_append, List.length_map, List.length_replicate, List.length_take, List.length_drop] <;> omega)) | (constructor <;> omega) | (simp [elemsK, D.isVal, D.cells, D.closedL, D.closed]; done) | (simp [elemsK, D.isVal, D.cells, D.closedL, D.closed]; omega)); (case hl => first | rfl | assumption | omega | (simp only [List.length_cons, List.length_nil, List.length_append, List.length_map, List.length_replicate, List.length_take, List.length_drop] <;> omega) | (constructor <;> (simp only [List.length_cons, List.length_nil, List.length_append, List.length_map, List.length_replicate, List.length_take, List.length_drop] <;> omega)) | (constructor <;> omega) | (simp [elemsK, D.isVal, D.cells, D.closedL, D.closed]; done) | (simp [elemsK, D.isVal, D.cells, D.closedL, D.closed]; omega)); (case hc => first | rfl | assumption | omega | (simp only [List.length_cons, List.length_nil, List.length_append, List.length_map, List.length_replicate, List.length_take, List.length_drop] <;> omega) | (constructor <;> (simp only [List.length_cons, List.length_nil, List.length_append, List.length_map, List.length_replicate, List.length_take, List.length_drop] <;> omega)) | (constructor <;> omega) | (simp [elemsK, D.isVal, D.cells, D.closedL, D.closed]; done) | (simp [elemsK, D.isVal, D.cells, D.closedL, D.closed]; omega)))
    | with_reducible apply cd_dec
    | with_reducible apply cd_eq
    | with_reducible apply cd_ne
    | with_reducible apply cd_split
    | with_reducible apply gd_dec
    | with_reducible apply gd_eq
    | with_reducible apply gd_ne
    | with_reducible apply gd_split
    | ((with_reducible refine And.intro ?hw ?_); (case hw => first | omega | rfl | exact ⟨_, _, rfl⟩ | assumption | (simp only [List.length_cons, List.length_nil, List.length_append, List.length_map, List.length_replicate, List.length_take, List.length_drop] <;> omega)))
    | with_reducible intro _)
  all_goals first
    | omega
    | (simp [D.closed, D.er]; done)
    | (simp at *; done)
end Go.Proofs.YtiodnobmnfjdlaaDoor
