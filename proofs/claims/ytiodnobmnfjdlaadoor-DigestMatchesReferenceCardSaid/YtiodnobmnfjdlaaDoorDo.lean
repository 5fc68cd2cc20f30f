/- The laws of digests. Own work. -/
import Derived.Test.YtiodnobmnfjdlaaDoorDn
set_option maxRecDepth 100000
set_option linter.unusedSimpArgs false
set_option linter.unusedVariables false
namespace Go.Proofs.YtiodnobmnfjdlaaDoor
open Go GoV Go.RowKit

abbrev okIn (l : List (List UInt8)) : Prop := l.length ≤ 9223372036854775807 ∧ ∀ s ∈ l, s.length ≤ 9223372036854775807

theorem gt_word {n : Nat} (c : Int) : decide (c < (n : Int)) = decide (c < n) := rfl

set_option maxHeartbeats 1000000 in
theorem l3_p (t : List UInt8) (l : List (List UInt8)) (ht : t.length ≤ 9223372036854775807) (hl : okIn l) : Pur M 3 [.str t, .slice (strs l) .no] (.bool true) := by
  refine ok3 rfl ?_
  rw [i3]
  unfold c3
  have hf := few_p l hl.1 hl.2
  by_cases h1 : 2000 < t.length
  · have d1 : decide ((2000 : Int) < (t.length : Int)) = true := by simp; omega
    repeat' (first
    | with_reducible apply swp_seq
    | with_reducible apply swp_reg
    | with_reducible apply swp_regD
    | with_reducible apply swp_block
    | with_reducible apply swp_exit
    | with_reducible apply swp_ret
    | with_reducible apply swp_skip
    | with_reducible apply swp_cd
    | simp only [go_sem, Nat.reduceAdd, Nat.reduceSub, Nat.reduceMul, Nat.reduceEqDiff, Nat.reduceLeDiff, Nat.reduceLT, Int.reduceEq, Int.reduceNe, Int.reduceLT, Int.reduceLE, Int.reduceAdd, Int.reduceSub, Int.reduceMul, Int.reduceNeg, Int.reduceToNat, Int.reduceTDiv, Int.reduceTMod, Int.reduceBEq, Int.reduceBNe, decide_true, decide_false, reduceCtorEq, reduceIte, P3, q3, d1]
    | simp (disch := omega) only [w64, w32, wu8, wu16, wu32, wu64]
    | ((with_reducible refine o_call (head_p) ?he ?hc ?_); (case he => first | rfl | (simp [D.erL, D.er]; done)); (case hc => first | rfl | (simp [D.closedL, D.closed]; done)))
    | with_reducible apply cd_dec
    | with_reducible apply cd_eq
    | with_reducible apply cd_ne
    | with_reducible apply cd_split
    | with_reducible apply gd_dec
    | with_reducible apply gd_eq
    | with_reducible apply gd_ne
    | with_reducible apply gd_split
    | ((with_reducible refine And.intro ?hw ?_); (case hw => first | omega | rfl | exact ⟨_, _, rfl⟩ | assumption | (simp only [List.length_cons, List.length_nil, List.length_append, List.length_map, List.length_replicate, List.length_take, List.length_drop] <;> omega)))
    | with_reducible intro _)
    all_goals first
      | omega
      | (simp [D.closed, D.er]; done)
  · have d1 : decide ((2000 : Int) < (t.length : Int)) = false := by simp; omega
    cases hfw : few l
    · rw [hfw] at hf
      repeat' (first
    | with_reducible apply swp_seq
    | with_reducible apply swp_reg
    | with_reducible apply swp_regD
    | with_reducible apply swp_block
    | with_reducible apply swp_exit
    | with_reducible apply swp_ret
    | with_reducible apply swp_skip
    | with_reducible apply swp_cd
    | simp only [go_sem, Nat.reduceAdd, Nat.reduceSub, Nat.reduceMul, Nat.reduceEqDiff, Nat.reduceLeDiff, Nat.reduceLT, Int.reduceEq, Int.reduceNe, Int.reduceLT, Int.reduceLE, Int.reduceAdd, Int.reduceSub, Int.reduceMul, Int.reduceNeg, Int.reduceToNat, Int.reduceTDiv, Int.reduceTMod, Int.reduceBEq, Int.reduceBNe, decide_true, decide_false, reduceCtorEq, reduceIte, P3, q3, d1]
    | simp (disch := omega) only [w64, w32, wu8, wu16, wu32, wu64]
    | ((with_reducible refine o_call (head_p) ?he ?hc ?_); (case he => first | rfl | (simp [D.erL, D.er]; done)); (case hc => first | rfl | (simp [D.closedL, D.closed]; done)))
    | ((with_reducible refine o_call (hf) ?he ?hc ?_); (case he => first | rfl | (simp [D.erL, D.er]; done)); (case hc => first | rfl | (simp [D.closedL, D.closed]; done)))
    | with_reducible apply cd_dec
    | with_reducible apply cd_eq
    | with_reducible apply cd_ne
    | with_reducible apply cd_split
    | with_reducible apply gd_dec
    | with_reducible apply gd_eq
    | with_reducible apply gd_ne
    | with_reducible apply gd_split
    | ((with_reducible refine And.intro ?hw ?_); (case hw => first | omega | rfl | exact ⟨_, _, rfl⟩ | assumption | (simp only [List.length_cons, List.length_nil, List.length_append, List.length_map, List.length_replicate, List.length_take, List.length_drop] <;> omega)))
    | with_reducible intro _)
      all_goals first
        | omega
        | (simp [D.closed, D.er]; done)
    · have hok := few_ok.1 hfw
      rw [hfw] at hf
      have a1 := sum_p t (by omega)
      have a2 := rsum_p t (by omega)
      have a3 := list_p l hok
      have a4 := rlist_p l hok
      have a5 := is_p t (by omega)
      have a6 := ris_p t (by omega)
      have n1 : ∀ s : List UInt8, (s == s) = true := fun s => beq_self_eq_true s
      generalize sumN t = x at *
      generalize sumN (joined l) = y at *
      generalize isD t = z at *
      repeat' (first
    | with_reducible apply swp_seq
    | with_reducible apply swp_reg
    | with_reducible apply swp_regD
    | with_reducible apply swp_block
    | with_reducible apply swp_exit
    | with_reducible apply swp_ret
    | with_reducible apply swp_skip
    | with_reducible apply swp_cd
    | simp only [go_sem, Nat.reduceAdd, Nat.reduceSub, Nat.reduceMul, Nat.reduceEqDiff, Nat.reduceLeDiff, Nat.reduceLT, Int.reduceEq, Int.reduceNe, Int.reduceLT, Int.reduceLE, Int.reduceAdd, Int.reduceSub, Int.reduceMul, Int.reduceNeg, Int.reduceToNat, Int.reduceTDiv, Int.reduceTMod, Int.reduceBEq, Int.reduceBNe, decide_true, decide_false, reduceCtorEq, reduceIte, P3, q3, d1, n1]
    | simp (disch := omega) only [w64, w32, wu8, wu16, wu32, wu64]
    | ((with_reducible refine o_call (head_p) ?he ?hc ?_); (case he => first | rfl | (simp [D.erL, D.er]; done)); (case hc => first | rfl | (simp [D.closedL, D.closed]; done)))
    | ((with_reducible refine o_call (hf) ?he ?hc ?_); (case he => first | rfl | (simp [D.erL, D.er]; done)); (case hc => first | rfl | (simp [D.closedL, D.closed]; done)))
    | ((with_reducible refine o_call (a1) ?he ?hc ?_); (case he => first | rfl | (simp [D.erL, D.er]; done)); (case hc => first | rfl | (simp [D.closedL, D.closed]; done)))
    | ((with_reducible refine o_call (a2) ?he ?hc ?_); (case he => first | rfl | (simp [D.erL, D.er]; done)); (case hc => first | rfl | (simp [D.closedL, D.closed]; done)))
    | ((with_reducible refine o_call (a3) ?he ?hc ?_); (case he => first | rfl | (simp [D.erL, D.er]; done)); (case hc => first | rfl | (simp [D.closedL, D.closed]; done)))
    | ((with_reducible refine o_call (a4) ?he ?hc ?_); (case he => first | rfl | (simp [D.erL, D.er]; done)); (case hc => first | rfl | (simp [D.closedL, D.closed]; done)))
    | ((with_reducible refine o_call (a5) ?he ?hc ?_); (case he => first | rfl | (simp [D.erL, D.er]; done)); (case hc => first | rfl | (simp [D.closedL, D.closed]; done)))
    | ((with_reducible refine o_call (a6) ?he ?hc ?_); (case he => first | rfl | (simp [D.erL, D.er]; done)); (case hc => first | rfl | (simp [D.closedL, D.closed]; done)))
    | with_reducible apply cd_dec
    | with_reducible apply cd_eq
    | with_reducible apply cd_ne
    | with_reducible apply cd_split
    | with_reducible apply gd_dec
    | with_reducible apply gd_eq
    | with_reducible apply gd_ne
    | with_reducible apply gd_split
    | ((with_reducible refine And.intro ?hw ?_); (case hw => first | omega | rfl | exact ⟨_, _, rfl⟩ | assumption | (simp only [List.length_cons, List.length_nil, List.length_append, List.length_map, List.length_replicate, List.length_take, List.length_drop] <;> omega)))
    | with_reducible intro _)
      all_goals first
        | omega
        | (simp [D.closed, D.er]; done)

set_option maxHeartbeats 1000000 in
theorem l4_p (t : List UInt8) (l : List (List UInt8)) (n : Int) (ht : t.length ≤ 9223372036854775807) (hl : okIn l) (hn : 0 ≤ n ∧ n ≤ 255) : Pur M 4 [.str t, .slice (strs l) .no, .int .u8 n] (.bool true) := by
  refine ok4 rfl ?_
  rw [i4]
  unfold c4
  have hf := few_p l hl.1 hl.2
  by_cases h1 : 2000 < t.length
  · have d1 : decide ((2000 : Int) < (t.length : Int)) = true := by simp; omega
    repeat' (first
    | with_reducible apply swp_seq
    | with_reducible apply swp_reg
    | with_reducible apply swp_regD
    | with_reducible apply swp_block
    | with_reducible apply swp_exit
    | with_reducible apply swp_ret
    | with_reducible apply swp_skip
    | with_reducible apply swp_cd
    | simp only [go_sem, Nat.reduceAdd, Nat.reduceSub, Nat.reduceMul, Nat.reduceEqDiff, Nat.reduceLeDiff, Nat.reduceLT, Int.reduceEq, Int.reduceNe, Int.reduceLT, Int.reduceLE, Int.reduceAdd, Int.reduceSub, Int.reduceMul, Int.reduceNeg, Int.reduceToNat, Int.reduceTDiv, Int.reduceTMod, Int.reduceBEq, Int.reduceBNe, decide_true, decide_false, reduceCtorEq, reduceIte, P4, q4, d1]
    | simp (disch := omega) only [w64, w32, wu8, wu16, wu32, wu64]
    | ((with_reducible refine o_call (head_p) ?he ?hc ?_); (case he => first | rfl | (simp [D.erL, D.er]; done)); (case hc => first | rfl | (simp [D.closedL, D.closed]; done)))
    | ((with_reducible refine p_call (head_p) ?he ?hc ?_); (case he => first | rfl | (simp [D.erL, D.er]; done)); (case hc => first | rfl | (simp [D.closedL, D.closed]; done)))
    | ((with_reducible refine c_call (head_p) ?he ?hc ?_); (case he => first | rfl | (simp [D.erL, D.er]; done)); (case hc => first | rfl | (simp [D.closedL, D.closed]; done)))
    | with_reducible apply cd_dec
    | with_reducible apply cd_eq
    | with_reducible apply cd_ne
    | with_reducible apply cd_split
    | with_reducible apply gd_dec
    | with_reducible apply gd_eq
    | with_reducible apply gd_ne
    | with_reducible apply gd_split
    | with_reducible apply gq_dec
    | with_reducible apply gq_eq
    | with_reducible apply gq_ne
    | with_reducible apply gq_split
    | ((with_reducible refine And.intro ?hw ?_); (case hw => first | omega | rfl | exact ⟨_, _, rfl⟩ | assumption | (simp only [List.length_cons, List.length_nil, List.length_append, List.length_map, List.length_replicate, List.length_take, List.length_drop] <;> omega)))
    | with_reducible intro _)
    all_goals first
      | omega
      | (simp [D.closed, D.er]; done)
  · have d1 : decide ((2000 : Int) < (t.length : Int)) = false := by simp; omega
    cases hfw : few l
    · rw [hfw] at hf
      repeat' (first
    | with_reducible apply swp_seq
    | with_reducible apply swp_reg
    | with_reducible apply swp_regD
    | with_reducible apply swp_block
    | with_reducible apply swp_exit
    | with_reducible apply swp_ret
    | with_reducible apply swp_skip
    | with_reducible apply swp_cd
    | simp only [go_sem, Nat.reduceAdd, Nat.reduceSub, Nat.reduceMul, Nat.reduceEqDiff, Nat.reduceLeDiff, Nat.reduceLT, Int.reduceEq, Int.reduceNe, Int.reduceLT, Int.reduceLE, Int.reduceAdd, Int.reduceSub, Int.reduceMul, Int.reduceNeg, Int.reduceToNat, Int.reduceTDiv, Int.reduceTMod, Int.reduceBEq, Int.reduceBNe, decide_true, decide_false, reduceCtorEq, reduceIte, P4, q4, d1]
    | simp (disch := omega) only [w64, w32, wu8, wu16, wu32, wu64]
    | ((with_reducible refine o_call (head_p) ?he ?hc ?_); (case he => first | rfl | (simp [D.erL, D.er]; done)); (case hc => first | rfl | (simp [D.closedL, D.closed]; done)))
    | ((with_reducible refine p_call (head_p) ?he ?hc ?_); (case he => first | rfl | (simp [D.erL, D.er]; done)); (case hc => first | rfl | (simp [D.closedL, D.closed]; done)))
    | ((with_reducible refine c_call (head_p) ?he ?hc ?_); (case he => first | rfl | (simp [D.erL, D.er]; done)); (case hc => first | rfl | (simp [D.closedL, D.closed]; done)))
    | ((with_reducible refine o_call (hf) ?he ?hc ?_); (case he => first | rfl | (simp [D.erL, D.er]; done)); (case hc => first | rfl | (simp [D.closedL, D.closed]; done)))
    | ((with_reducible refine p_call (hf) ?he ?hc ?_); (case he => first | rfl | (simp [D.erL, D.er]; done)); (case hc => first | rfl | (simp [D.closedL, D.closed]; done)))
    | ((with_reducible refine c_call (hf) ?he ?hc ?_); (case he => first | rfl | (simp [D.erL, D.er]; done)); (case hc => first | rfl | (simp [D.closedL, D.closed]; done)))
    | with_reducible apply cd_dec
    | with_reducible apply cd_eq
    | with_reducible apply cd_ne
    | with_reducible apply cd_split
    | with_reducible apply gd_dec
    | with_reducible apply gd_eq
    | with_reducible apply gd_ne
    | with_reducible apply gd_split
    | with_reducible apply gq_dec
    | with_reducible apply gq_eq
    | with_reducible apply gq_ne
    | with_reducible apply gq_split
    | ((with_reducible refine And.intro ?hw ?_); (case hw => first | omega | rfl | exact ⟨_, _, rfl⟩ | assumption | (simp only [List.length_cons, List.length_nil, List.length_append, List.length_map, List.length_replicate, List.length_take, List.length_drop] <;> omega)))
    | with_reducible intro _)
      all_goals first
        | omega
        | (simp [D.closed, D.er]; done)
    · have hok := few_ok.1 hfw
      rw [hfw] at hf
      have a1 := sum_p t (by omega)
      have a3 := list_p l hok
      have xl := sumN_len t
      have b1 := is_p (sumN t) (by omega)
      have b2 := is_p (sumN (joined l)) (by rw [sumN_len]; omega)
      rw [sumN_is] at b1 b2
      have hk : ∃ k : Nat, k < 16 ∧ n.tmod 16 = k := ⟨(n % 16).toNat, by omega, by rw [Int.tmod_eq_emod_of_nonneg (by omega)]; omega⟩
      obtain ⟨k, hk, hkn⟩ := hk
      generalize sumN t = x at *
      generalize sumN (joined l) = y at *
      have b3 := is_p (x ++ [48]) (by rw [List.length_append, xl]; decide)
      rw [isD_len (by rw [List.length_append, xl]; decide)] at b3
      have b4 := is_p (x.drop 1) (by rw [List.length_drop, xl]; decide)
      rw [isD_len (by rw [List.length_drop, xl]; decide)] at b4
      have b5 := is_p (x.take k ++ [65] ++ x.drop (k + 1)) (by simp only [List.length_append, List.length_take, List.length_drop, xl, List.length_cons, List.length_nil]; omega)
      rw [isD_A] at b5
      have k1 : ((k : Nat) : Int).toNat = k := Int.toNat_natCast k
      have k2 : (((k : Nat) : Int) + 1).toNat = k + 1 := by omega
      repeat' (first
    | with_reducible apply swp_seq
    | with_reducible apply swp_reg
    | with_reducible apply swp_regD
    | with_reducible apply swp_block
    | with_reducible apply swp_exit
    | with_reducible apply swp_ret
    | with_reducible apply swp_skip
    | with_reducible apply swp_cd
    | simp only [go_sem, Nat.reduceAdd, Nat.reduceSub, Nat.reduceMul, Nat.reduceEqDiff, Nat.reduceLeDiff, Nat.reduceLT, Int.reduceEq, Int.reduceNe, Int.reduceLT, Int.reduceLE, Int.reduceAdd, Int.reduceSub, Int.reduceMul, Int.reduceNeg, Int.reduceToNat, Int.reduceTDiv, Int.reduceTMod, Int.reduceBEq, Int.reduceBNe, decide_true, decide_false, reduceCtorEq, reduceIte, P4, q4, d1, xl, hkn, k1, k2]
    | simp (disch := omega) only [w64, w32, wu8, wu16, wu32, wu64]
    | ((with_reducible refine o_call (head_p) ?he ?hc ?_); (case he => first | rfl | (simp [D.erL, D.er, xl]; done)); (case hc => first | rfl | (simp [D.closedL, D.closed, xl]; done)))
    | ((with_reducible refine p_call (head_p) ?he ?hc ?_); (case he => first | rfl | (simp [D.erL, D.er, xl]; done)); (case hc => first | rfl | (simp [D.closedL, D.closed, xl]; done)))
    | ((with_reducible refine c_call (head_p) ?he ?hc ?_); (case he => first | rfl | (simp [D.erL, D.er, xl]; done)); (case hc => first | rfl | (simp [D.closedL, D.closed, xl]; done)))
    | ((with_reducible refine o_call (hf) ?he ?hc ?_); (case he => first | rfl | (simp [D.erL, D.er, xl]; done)); (case hc => first | rfl | (simp [D.closedL, D.closed, xl]; done)))
    | ((with_reducible refine p_call (hf) ?he ?hc ?_); (case he => first | rfl | (simp [D.erL, D.er, xl]; done)); (case hc => first | rfl | (simp [D.closedL, D.closed, xl]; done)))
    | ((with_reducible refine c_call (hf) ?he ?hc ?_); (case he => first | rfl | (simp [D.erL, D.er, xl]; done)); (case hc => first | rfl | (simp [D.closedL, D.closed, xl]; done)))
    | ((with_reducible refine o_call (a1) ?he ?hc ?_); (case he => first | rfl | (simp [D.erL, D.er, xl]; done)); (case hc => first | rfl | (simp [D.closedL, D.closed, xl]; done)))
    | ((with_reducible refine p_call (a1) ?he ?hc ?_); (case he => first | rfl | (simp [D.erL, D.er, xl]; done)); (case hc => first | rfl | (simp [D.closedL, D.closed, xl]; done)))
    | ((with_reducible refine c_call (a1) ?he ?hc ?_); (case he => first | rfl | (simp [D.erL, D.er, xl]; done)); (case hc => first | rfl | (simp [D.closedL, D.closed, xl]; done)))
    | ((with_reducible refine o_call (a3) ?he ?hc ?_); (case he => first | rfl | (simp [D.erL, D.er, xl]; done)); (case hc => first | rfl | (simp [D.closedL, D.closed, xl]; done)))
    | ((with_reducible refine p_call (a3) ?he ?hc ?_); (case he => first | rfl | (simp [D.erL, D.er, xl]; done)); (case hc => first | rfl | (simp [D.closedL, D.closed, xl]; done)))
    | ((with_reducible refine c_call (a3) ?he ?hc ?_); (case he => first | rfl | (simp [D.erL, D.er, xl]; done)); (case hc => first | rfl | (simp [D.closedL, D.closed, xl]; done)))
    | ((with_reducible refine o_call (b1) ?he ?hc ?_); (case he => first | rfl | (simp [D.erL, D.er, xl]; done)); (case hc => first | rfl | (simp [D.closedL, D.closed, xl]; done)))
    | ((with_reducible refine p_call (b1) ?he ?hc ?_); (case he => first | rfl | (simp [D.erL, D.er, xl]; done)); (case hc => first | rfl | (simp [D.closedL, D.closed, xl]; done)))
    | ((with_reducible refine c_call (b1) ?he ?hc ?_); (case he => first | rfl | (simp [D.erL, D.er, xl]; done)); (case hc => first | rfl | (simp [D.closedL, D.closed, xl]; done)))
    | ((with_reducible refine o_call (b2) ?he ?hc ?_); (case he => first | rfl | (simp [D.erL, D.er, xl]; done)); (case hc => first | rfl | (simp [D.closedL, D.closed, xl]; done)))
    | ((with_reducible refine p_call (b2) ?he ?hc ?_); (case he => first | rfl | (simp [D.erL, D.er, xl]; done)); (case hc => first | rfl | (simp [D.closedL, D.closed, xl]; done)))
    | ((with_reducible refine c_call (b2) ?he ?hc ?_); (case he => first | rfl | (simp [D.erL, D.er, xl]; done)); (case hc => first | rfl | (simp [D.closedL, D.closed, xl]; done)))
    | ((with_reducible refine o_call (b3) ?he ?hc ?_); (case he => first | rfl | (simp [D.erL, D.er, xl]; done)); (case hc => first | rfl | (simp [D.closedL, D.closed, xl]; done)))
    | ((with_reducible refine p_call (b3) ?he ?hc ?_); (case he => first | rfl | (simp [D.erL, D.er, xl]; done)); (case hc => first | rfl | (simp [D.closedL, D.closed, xl]; done)))
    | ((with_reducible refine c_call (b3) ?he ?hc ?_); (case he => first | rfl | (simp [D.erL, D.er, xl]; done)); (case hc => first | rfl | (simp [D.closedL, D.closed, xl]; done)))
    | ((with_reducible refine o_call (b4) ?he ?hc ?_); (case he => first | rfl | (simp [D.erL, D.er, xl]; done)); (case hc => first | rfl | (simp [D.closedL, D.closed, xl]; done)))
    | ((with_reducible refine p_call (b4) ?he ?hc ?_); (case he => first | rfl | (simp [D.erL, D.er, xl]; done)); (case hc => first | rfl | (simp [D.closedL, D.closed, xl]; done)))
    | ((with_reducible refine c_call (b4) ?he ?hc ?_); (case he => first | rfl | (simp [D.erL, D.er, xl]; done)); (case hc => first | rfl | (simp [D.closedL, D.closed, xl]; done)))
    | ((with_reducible refine o_call (b5) ?he ?hc ?_); (case he => first | rfl | (simp [D.erL, D.er, xl]; done)); (case hc => first | rfl | (simp [D.closedL, D.closed, xl]; done)))
    | ((with_reducible refine p_call (b5) ?he ?hc ?_); (case he => first | rfl | (simp [D.erL, D.er, xl]; done)); (case hc => first | rfl | (simp [D.closedL, D.closed, xl]; done)))
    | ((with_reducible refine c_call (b5) ?he ?hc ?_); (case he => first | rfl | (simp [D.erL, D.er, xl]; done)); (case hc => first | rfl | (simp [D.closedL, D.closed, xl]; done)))
    | with_reducible apply cd_dec
    | with_reducible apply cd_eq
    | with_reducible apply cd_ne
    | with_reducible apply cd_split
    | with_reducible apply gd_dec
    | with_reducible apply gd_eq
    | with_reducible apply gd_ne
    | with_reducible apply gd_split
    | with_reducible apply gq_dec
    | with_reducible apply gq_eq
    | with_reducible apply gq_ne
    | with_reducible apply gq_split
    | ((with_reducible refine And.intro ?hw ?_); (case hw => first | omega | rfl | exact ⟨_, _, rfl⟩ | assumption | (simp only [List.length_cons, List.length_nil, List.length_append, List.length_map, List.length_replicate, List.length_take, List.length_drop, xl] <;> omega)))
    | with_reducible intro _)
      all_goals first
        | omega
        | (simp [D.closed, D.er]; done)

theorem eqv {a b : Bool} (h : a = true ↔ b = true) : (a == b) = true := by cases a <;> cases b <;> simp_all

theorem min_word (x y : Nat) : (if (y : Int) < (x : Int) then (y : Int) else (x : Int)) = ((min x y : Nat) : Int) := by
  by_cases h : (y : Int) < x
  · rw [if_pos h, Nat.min_eq_right (by omega)]
  · rw [if_neg h, Nat.min_eq_left (by omega)]

theorem take_min (s : List UInt8) (k : Nat) : s.take (min s.length k) = s.take k := by
  by_cases h : s.length ≤ k
  · rw [Nat.min_eq_left h, List.take_length, List.take_of_length_le h]
  · rw [Nat.min_eq_right (by omega)]

set_option maxHeartbeats 1000000 in
theorem l5_p (a b : List UInt8) (ha : a.length ≤ 9223372036854775807) (hb : b.length ≤ 9223372036854775807) : Pur M 5 [.str a, .str b] (.bool true) := by
  refine ok5 rfl ?_
  rw [i5]
  unfold c5
  have la : (a.take 7).length ≤ 7 := by simp; omega
  have lb : (b.take 7).length ≤ 7 := by simp; omega
  have a1 := sum_p (a.take 7) (by omega)
  have a2 := sum_p (b.take 7) (by omega)
  have a3 := sum_short la lb
  have m1 := min_word a.length 7
  have m2 := min_word b.length 7
  have m3 : ((7 : Nat) : Int) = 7 := rfl
  rw [m3] at m1 m2
  have t1 := take_min a 7
  have t2 := take_min b 7
  have n1 : ((sumN (a.take 7) == sumN (b.take 7)) == (a.take 7 == b.take 7)) = true := eqv (by simpa using a3)
  generalize sumN (a.take 7) = x at *
  generalize sumN (b.take 7) = y at *
  repeat' (first
    | with_reducible apply swp_seq
    | with_reducible apply swp_reg
    | with_reducible apply swp_regD
    | with_reducible apply swp_block
    | with_reducible apply swp_exit
    | with_reducible apply swp_ret
    | with_reducible apply swp_skip
    | with_reducible apply swp_cd
    | simp only [go_sem, Nat.reduceAdd, Nat.reduceSub, Nat.reduceMul, Nat.reduceEqDiff, Nat.reduceLeDiff, Nat.reduceLT, Int.reduceEq, Int.reduceNe, Int.reduceLT, Int.reduceLE, Int.reduceAdd, Int.reduceSub, Int.reduceMul, Int.reduceNeg, Int.reduceToNat, Int.reduceTDiv, Int.reduceTMod, Int.reduceBEq, Int.reduceBNe, decide_true, decide_false, reduceCtorEq, reduceIte, P5, q5, m1, m2, t1, t2, n1, Int.toNat_natCast]
    | simp (disch := omega) only [w64, w32, wu8, wu16, wu32, wu64]
    | ((with_reducible refine o_call (head_p) ?he ?hc ?_); (case he => first | rfl | (simp [D.erL, D.er]; done)); (case hc => first | rfl | (simp [D.closedL, D.closed]; done)))
    | ((with_reducible refine o_call (a1) ?he ?hc ?_); (case he => first | rfl | (simp [D.erL, D.er]; done)); (case hc => first | rfl | (simp [D.closedL, D.closed]; done)))
    | ((with_reducible refine o_call (a2) ?he ?hc ?_); (case he => first | rfl | (simp [D.erL, D.er]; done)); (case hc => first | rfl | (simp [D.closedL, D.closed]; done)))
    | with_reducible apply cd_dec
    | with_reducible apply cd_eq
    | with_reducible apply cd_ne
    | with_reducible apply cd_split
    | with_reducible apply gd_dec
    | with_reducible apply gd_eq
    | with_reducible apply gd_ne
    | with_reducible apply gd_split
    | ((with_reducible refine And.intro ?hw ?_); (case hw => first | omega | rfl | exact ⟨_, _, rfl⟩ | assumption | (simp only [List.length_cons, List.length_nil, List.length_append, List.length_map, List.length_replicate, List.length_take, List.length_drop] <;> omega)))
    | with_reducible intro _)
  all_goals first
    | omega
    | (simp [D.closed, D.er]; done)

set_option maxHeartbeats 1000000 in
theorem l6_p (t : List UInt8) (p : Int) (a b : List UInt8) (ht : t.length ≤ 9223372036854775807) (hp : 0 ≤ p ∧ p ≤ 255) (ha : a.length ≤ 9223372036854775807) (hb : b.length ≤ 9223372036854775807) : Pur M 6 [.str t, .int .u8 p, .str a, .str b] (.bool true) := by
  refine ok6 rfl ?_
  rw [i6]
  unfold c6
  obtain ⟨k, rfl⟩ : ∃ k : Nat, p = k := ⟨p.toNat, by omega⟩
  have m1 := min_word a.length b.length
  have m2 := min_word (min a.length b.length) 8
  have m3 : ((8 : Nat) : Int) = 8 := rfl
  rw [m3] at m2
  have hn : min (min a.length b.length) 8 ≤ 8 ∧ min (min a.length b.length) 8 ≤ a.length ∧ min (min a.length b.length) 8 ≤ b.length := by omega
  generalize min (min a.length b.length) 8 = n at *
  generalize min a.length b.length = n' at *
  have k0 : (8 : Int) * (k : Int) = ((8 * k : Nat) : Int) := by omega
  have k1 : ((8 * k : Nat) : Int) + (n : Int) = ((8 * k + n : Nat) : Int) := by omega
  have m4 := min_word (8 * k + n) t.length
  by_cases h1 : 2000 < t.length
  · have d1 : decide ((2000 : Int) < (t.length : Int)) = true := by simp; omega
    repeat' (first
    | with_reducible apply swp_seq
    | with_reducible apply swp_reg
    | with_reducible apply swp_regD
    | with_reducible apply swp_block
    | with_reducible apply swp_exit
    | with_reducible apply swp_ret
    | with_reducible apply swp_skip
    | with_reducible apply swp_cd
    | simp only [go_sem, Nat.reduceAdd, Nat.reduceSub, Nat.reduceMul, Nat.reduceEqDiff, Nat.reduceLeDiff, Nat.reduceLT, Int.reduceEq, Int.reduceNe, Int.reduceLT, Int.reduceLE, Int.reduceAdd, Int.reduceSub, Int.reduceMul, Int.reduceNeg, Int.reduceToNat, Int.reduceTDiv, Int.reduceTMod, Int.reduceBEq, Int.reduceBNe, decide_true, decide_false, reduceCtorEq, reduceIte, P6, q6, d1, m1, m2, k0, Int.toNat_natCast]
    | simp (disch := omega) only [w64, w32, wu8, wu16, wu32, wu64]
    | ((with_reducible refine o_call (head_p) ?he ?hc ?_); (case he => first | rfl | (simp [D.erL, D.er]; done)); (case hc => first | rfl | (simp [D.closedL, D.closed]; done)))
    | ((with_reducible refine p_call (head_p) ?he ?hc ?_); (case he => first | rfl | (simp [D.erL, D.er]; done)); (case hc => first | rfl | (simp [D.closedL, D.closed]; done)))
    | ((with_reducible refine c_call (head_p) ?he ?hc ?_); (case he => first | rfl | (simp [D.erL, D.er]; done)); (case hc => first | rfl | (simp [D.closedL, D.closed]; done)))
    | with_reducible apply cd_dec
    | with_reducible apply cd_eq
    | with_reducible apply cd_ne
    | with_reducible apply cd_split
    | with_reducible apply gd_dec
    | with_reducible apply gd_eq
    | with_reducible apply gd_ne
    | with_reducible apply gd_split
    | with_reducible apply gq_dec
    | with_reducible apply gq_eq
    | with_reducible apply gq_ne
    | with_reducible apply gq_split
    | ((with_reducible refine And.intro ?hw ?_); (case hw => first | omega | rfl | exact ⟨_, _, rfl⟩ | assumption | (simp only [List.length_cons, List.length_nil, List.length_append, List.length_map, List.length_replicate, List.length_take, List.length_drop] <;> omega)))
    | with_reducible intro _)
    all_goals first
      | omega
      | (simp [D.closed, D.er]; done)
  · have d1 : decide ((2000 : Int) < (t.length : Int)) = false := by simp; omega
    by_cases h2 : t.length < 8 * k
    · have d2 : decide ((t.length : Int) < ((8 * k : Nat) : Int)) = true := by simp; omega
      repeat' (first
    | with_reducible apply swp_seq
    | with_reducible apply swp_reg
    | with_reducible apply swp_regD
    | with_reducible apply swp_block
    | with_reducible apply swp_exit
    | with_reducible apply swp_ret
    | with_reducible apply swp_skip
    | with_reducible apply swp_cd
    | simp only [go_sem, Nat.reduceAdd, Nat.reduceSub, Nat.reduceMul, Nat.reduceEqDiff, Nat.reduceLeDiff, Nat.reduceLT, Int.reduceEq, Int.reduceNe, Int.reduceLT, Int.reduceLE, Int.reduceAdd, Int.reduceSub, Int.reduceMul, Int.reduceNeg, Int.reduceToNat, Int.reduceTDiv, Int.reduceTMod, Int.reduceBEq, Int.reduceBNe, decide_true, decide_false, reduceCtorEq, reduceIte, P6, q6, d1, d2, m1, m2, k0, Int.toNat_natCast]
    | simp (disch := omega) only [w64, w32, wu8, wu16, wu32, wu64]
    | ((with_reducible refine o_call (head_p) ?he ?hc ?_); (case he => first | rfl | (simp [D.erL, D.er]; done)); (case hc => first | rfl | (simp [D.closedL, D.closed]; done)))
    | ((with_reducible refine p_call (head_p) ?he ?hc ?_); (case he => first | rfl | (simp [D.erL, D.er]; done)); (case hc => first | rfl | (simp [D.closedL, D.closed]; done)))
    | ((with_reducible refine c_call (head_p) ?he ?hc ?_); (case he => first | rfl | (simp [D.erL, D.er]; done)); (case hc => first | rfl | (simp [D.closedL, D.closed]; done)))
    | with_reducible apply cd_dec
    | with_reducible apply cd_eq
    | with_reducible apply cd_ne
    | with_reducible apply cd_split
    | with_reducible apply gd_dec
    | with_reducible apply gd_eq
    | with_reducible apply gd_ne
    | with_reducible apply gd_split
    | with_reducible apply gq_dec
    | with_reducible apply gq_eq
    | with_reducible apply gq_ne
    | with_reducible apply gq_split
    | ((with_reducible refine And.intro ?hw ?_); (case hw => first | omega | rfl | exact ⟨_, _, rfl⟩ | assumption | (simp only [List.length_cons, List.length_nil, List.length_append, List.length_map, List.length_replicate, List.length_take, List.length_drop] <;> omega)))
    | with_reducible intro _)
      all_goals first
        | omega
        | (simp [D.closed, D.er]; done)
    · have d2 : decide ((t.length : Int) < ((8 * k : Nat) : Int)) = false := by simp; omega
      have l1 : (t.take (8 * k)).length = 8 * k := by rw [List.length_take]; omega
      have l2 : (a.take n).length = n := by rw [List.length_take]; omega
      have l3 : (b.take n).length = n := by rw [List.length_take]; omega
      have l4 : (t.drop (min (8 * k + n) t.length)).length ≤ 2000 := by rw [List.length_drop]; omega
      have a3 := sum_block (p := t.take (8 * k)) (a := a.take n) (b := b.take n) (r := t.drop (min (8 * k + n) t.length)) k l1 (by omega) (by omega) (by simp only [List.length_append]; omega)
      have a1 := sum_p (t.take (8 * k) ++ a.take n ++ t.drop (min (8 * k + n) t.length)) (by simp only [List.length_append]; omega)
      have a2 := sum_p (t.take (8 * k) ++ b.take n ++ t.drop (min (8 * k + n) t.length)) (by simp only [List.length_append]; omega)
      have n1 : ((sumN (t.take (8 * k) ++ a.take n ++ t.drop (min (8 * k + n) t.length)) == sumN (t.take (8 * k) ++ b.take n ++ t.drop (min (8 * k + n) t.length))) == (a.take n == b.take n)) = true := eqv (by simpa using a3)
      generalize sumN (t.take (8 * k) ++ a.take n ++ t.drop (min (8 * k + n) t.length)) = x at *
      generalize sumN (t.take (8 * k) ++ b.take n ++ t.drop (min (8 * k + n) t.length)) = y at *
      repeat' (first
    | with_reducible apply swp_seq
    | with_reducible apply swp_reg
    | with_reducible apply swp_regD
    | with_reducible apply swp_block
    | with_reducible apply swp_exit
    | with_reducible apply swp_ret
    | with_reducible apply swp_skip
    | with_reducible apply swp_cd
    | simp only [go_sem, Nat.reduceAdd, Nat.reduceSub, Nat.reduceMul, Nat.reduceEqDiff, Nat.reduceLeDiff, Nat.reduceLT, Int.reduceEq, Int.reduceNe, Int.reduceLT, Int.reduceLE, Int.reduceAdd, Int.reduceSub, Int.reduceMul, Int.reduceNeg, Int.reduceToNat, Int.reduceTDiv, Int.reduceTMod, Int.reduceBEq, Int.reduceBNe, decide_true, decide_false, reduceCtorEq, reduceIte, P6, q6, d1, d2, m1, m2, k0, k1, m4, n1, Int.toNat_natCast]
    | simp (disch := omega) only [w64, w32, wu8, wu16, wu32, wu64]
    | ((with_reducible refine o_call (head_p) ?he ?hc ?_); (case he => first | rfl | (simp [D.erL, D.er, l1, l2, l3]; done)); (case hc => first | rfl | (simp [D.closedL, D.closed, l1, l2, l3]; done)))
    | ((with_reducible refine p_call (head_p) ?he ?hc ?_); (case he => first | rfl | (simp [D.erL, D.er, l1, l2, l3]; done)); (case hc => first | rfl | (simp [D.closedL, D.closed, l1, l2, l3]; done)))
    | ((with_reducible refine c_call (head_p) ?he ?hc ?_); (case he => first | rfl | (simp [D.erL, D.er, l1, l2, l3]; done)); (case hc => first | rfl | (simp [D.closedL, D.closed, l1, l2, l3]; done)))
    | ((with_reducible refine o_call (a1) ?he ?hc ?_); (case he => first | rfl | (simp [D.erL, D.er, l1, l2, l3]; done)); (case hc => first | rfl | (simp [D.closedL, D.closed, l1, l2, l3]; done)))
    | ((with_reducible refine p_call (a1) ?he ?hc ?_); (case he => first | rfl | (simp [D.erL, D.er, l1, l2, l3]; done)); (case hc => first | rfl | (simp [D.closedL, D.closed, l1, l2, l3]; done)))
    | ((with_reducible refine c_call (a1) ?he ?hc ?_); (case he => first | rfl | (simp [D.erL, D.er, l1, l2, l3]; done)); (case hc => first | rfl | (simp [D.closedL, D.closed, l1, l2, l3]; done)))
    | ((with_reducible refine o_call (a2) ?he ?hc ?_); (case he => first | rfl | (simp [D.erL, D.er, l1, l2, l3]; done)); (case hc => first | rfl | (simp [D.closedL, D.closed, l1, l2, l3]; done)))
    | ((with_reducible refine p_call (a2) ?he ?hc ?_); (case he => first | rfl | (simp [D.erL, D.er, l1, l2, l3]; done)); (case hc => first | rfl | (simp [D.closedL, D.closed, l1, l2, l3]; done)))
    | ((with_reducible refine c_call (a2) ?he ?hc ?_); (case he => first | rfl | (simp [D.erL, D.er, l1, l2, l3]; done)); (case hc => first | rfl | (simp [D.closedL, D.closed, l1, l2, l3]; done)))
    | with_reducible apply cd_dec
    | with_reducible apply cd_eq
    | with_reducible apply cd_ne
    | with_reducible apply cd_split
    | with_reducible apply gd_dec
    | with_reducible apply gd_eq
    | with_reducible apply gd_ne
    | with_reducible apply gd_split
    | with_reducible apply gq_dec
    | with_reducible apply gq_eq
    | with_reducible apply gq_ne
    | with_reducible apply gq_split
    | ((with_reducible refine And.intro ?hw ?_); (case hw => first | omega | rfl | exact ⟨_, _, rfl⟩ | assumption | (simp only [List.length_cons, List.length_nil, List.length_append, List.length_map, List.length_replicate, List.length_take, List.length_drop, l1, l2, l3] <;> omega)))
    | with_reducible intro _)
      all_goals first
        | omega
        | (simp [D.closed, D.er]; done)
end Go.Proofs.YtiodnobmnfjdlaaDoor
