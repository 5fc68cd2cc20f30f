/- The laws of money: shares, scaled weights. Own work. -/
import Derived.Test.YtniglomooepbcaaDoorMq
import Derived.Test.YtniglomooepbcaaDoorMn
set_option maxRecDepth 100000
set_option linter.unusedSimpArgs false
set_option linter.unusedVariables false
namespace Go.Proofs.YtniglomooepbcaaDoor
open Go GoV

theorem sums_ok {l : List Int} {b : Int} (h : ∀ i, i < l.length → 0 ≤ l.getD i 0 ∧ l.getD i 0 ≤ b) (i : Nat) : 0 ≤ (l.take i).sum ∧ (l.take i).sum ≤ b * (l.take i).length := by
  refine sum_bnd fun w hw => ?_
  obtain ⟨j, hj, rfl⟩ := List.getElem_of_mem (List.mem_of_mem_take hw)
  simpa [List.getD, hj] using h j hj

set_option maxHeartbeats 4000000 in
theorem l4_p (n : Int) (ws : List Int) (hn : -9223372036854775808 ≤ n ∧ n ≤ 9223372036854775807) : Pur M 4 [.int .i64 n, .slice (ils ws) .no] (.bool true) := by
  refine ok4 rfl ?_
  rw [i4]
  unfold c4
  by_cases hl : ws.length ≤ 16
  case neg =>
    repeat' (first
    | with_reducible apply swp_seq
    | with_reducible apply swp_reg
    | with_reducible apply swp_regD
    | with_reducible apply swp_block
    | with_reducible apply swp_exit
    | with_reducible apply swp_ret
    | with_reducible apply swp_skip
    | with_reducible apply swp_cd
    | simp only [go_sem, Nat.reduceAdd, Nat.reduceSub, Nat.reduceMul, Nat.reduceEqDiff, Nat.reduceLeDiff, Nat.reduceLT, Int.reduceEq, Int.reduceNe, Int.reduceLT, Int.reduceLE, Int.reduceAdd, Int.reduceSub, Int.reduceMul, Int.reduceNeg, Int.reduceToNat, Int.reduceTDiv, Int.reduceTMod, Int.reduceBEq, Int.reduceBNe, decide_true, decide_false, reduceCtorEq, reduceIte, P4, q4, List.length_map]
    | simp (disch := omega) only [w64, w32, wu8, wu16, wu32, wu64]
    | ((with_reducible refine o_call (head_p) ?he ?hc ?_); (case he => first | rfl | (simp [D.erL, D.er]; done)); (case hc => first | rfl | (simp [D.closedL, D.closed]; done)))
    | with_reducible apply cd_dec
    | with_reducible apply cd_eq
    | with_reducible apply cd_ne
    | with_reducible apply cd_split
    | with_reducible apply gd_dec
    | with_reducible apply gd_eq
    | with_reducible apply gd_ne
    | with_reducible apply gd_split
    | with_reducible apply gq_dec
    | with_reducible apply gq_eq
    | with_reducible apply gq_ne
    | with_reducible apply gq_split
    | ((with_reducible refine And.intro ?hw ?_); (case hw => first | omega | rfl | exact ⟨_, _, rfl⟩ | assumption | (simp only [List.length_cons, List.length_nil, List.length_append, List.length_map, List.length_replicate, List.length_take, List.length_drop] <;> omega)))
    | with_reducible intro _)
    all_goals first
      | omega
      | (simp [D.closed, D.er]; done)
  case pos =>
    have c1 := split_p n ws (by omega) hn
    have c2 := total_p ws (by omega)
    by_cases hA : Am n ∧ 0 ≤ tot ws
    case neg =>
      have e : spl n ws = ([], 1) := by unfold spl; rw [if_neg hA]
      rw [e] at c1
      have hd : tot ws < 0 ∨ n < 0 ∨ 1000000000000 < n := by unfold Am at hA; omega
      generalize tot ws = t at *
      repeat' (first
    | with_reducible apply swp_seq
    | with_reducible apply swp_reg
    | with_reducible apply swp_regD
    | with_reducible apply swp_block
    | with_reducible apply swp_exit
    | with_reducible apply swp_ret
    | with_reducible apply swp_skip
    | with_reducible apply swp_cd
    | simp only [go_sem, Nat.reduceAdd, Nat.reduceSub, Nat.reduceMul, Nat.reduceEqDiff, Nat.reduceLeDiff, Nat.reduceLT, Int.reduceEq, Int.reduceNe, Int.reduceLT, Int.reduceLE, Int.reduceAdd, Int.reduceSub, Int.reduceMul, Int.reduceNeg, Int.reduceToNat, Int.reduceTDiv, Int.reduceTMod, Int.reduceBEq, Int.reduceBNe, decide_true, decide_false, reduceCtorEq, reduceIte, P4, q4, List.length_map, ils, List.map_nil, List.length_nil]
    | simp (disch := omega) only [w64, w32, wu8, wu16, wu32, wu64]
    | ((with_reducible refine o_call (head_p) ?he ?hc ?_); (case he => first | rfl | (simp [D.erL, D.er]; done)); (case hc => first | rfl | (simp [D.closedL, D.closed]; done)))
    | ((with_reducible refine o_call (c1) ?he ?hc ?_); (case he => first | rfl | (simp [D.erL, D.er]; done)); (case hc => first | rfl | (simp [D.closedL, D.closed]; done)))
    | ((with_reducible refine o_call (c2) ?he ?hc ?_); (case he => first | rfl | (simp [D.erL, D.er]; done)); (case hc => first | rfl | (simp [D.closedL, D.closed]; done)))
    | with_reducible apply cd_dec
    | with_reducible apply cd_eq
    | with_reducible apply cd_ne
    | with_reducible apply cd_split
    | with_reducible apply gd_dec
    | with_reducible apply gd_eq
    | with_reducible apply gd_ne
    | with_reducible apply gd_split
    | with_reducible apply gq_dec
    | with_reducible apply gq_eq
    | with_reducible apply gq_ne
    | with_reducible apply gq_split
    | ((with_reducible refine And.intro ?hw ?_); (case hw => first | omega | rfl | exact ⟨_, _, rfl⟩ | assumption | (simp only [List.length_cons, List.length_nil, List.length_append, List.length_map, List.length_replicate, List.length_take, List.length_drop] <;> omega)))
    | with_reducible intro _)
      all_goals first
        | omega
        | contradiction
        | (simp [D.closed, D.er]; done)
        | (simp [D.closed, D.er]; omega)
    case pos =>
      have e : spl n ws = (shr (splL n ws) (splR n ws), 0) := by unfold spl; rw [if_pos hA]
      obtain ⟨t1, t2, t3, t4, t5, t6⟩ := tot_ok hA.2
      have hS := shares_ok hA.1 hA.2
      have hnA := hA.1
      unfold Am at hnA
      rw [e] at c1
      rw [t5] at c2
      generalize shr (splL n ws) (splR n ws) = L at *
      have hwi : ∀ i, i < ws.length → 0 ≤ ws.getD i 0 ∧ ws.getD i 0 ≤ 9999999 := by
        intro i hi
        exact t2 _ (by simp [List.getD, hi])
      obtain ⟨s1, s2, s3, s4, s5, s6⟩ := hS
      have c3 := sum_p L (by omega) (fun i hi => by
        have := sums_ok (l := L) (b := 1000000000001) (fun i hi => s3 i (by omega)) i
        have hlt : (L.take i).length ≤ 16 := by simp; omega
        omega)
      rw [s2] at c3
      generalize hT : ws.sum = T at *
      clear e t5 t6 hA
      repeat' (first
    | with_reducible apply swp_seq
    | with_reducible apply swp_reg
    | with_reducible apply swp_regD
    | with_reducible apply swp_block
    | with_reducible apply swp_exit
    | with_reducible apply swp_ret
    | with_reducible apply swp_skip
    | with_reducible apply swp_cd
    | simp only [go_sem, Nat.reduceAdd, Nat.reduceSub, Nat.reduceMul, Nat.reduceEqDiff, Nat.reduceLeDiff, Nat.reduceLT, Int.reduceEq, Int.reduceNe, Int.reduceLT, Int.reduceLE, Int.reduceAdd, Int.reduceSub, Int.reduceMul, Int.reduceNeg, Int.reduceToNat, Int.reduceTDiv, Int.reduceTMod, Int.reduceBEq, Int.reduceBNe, decide_true, decide_false, reduceCtorEq, reduceIte, P4, q4, List.length_map, s1, bne_self_eq_false]
    | simp (disch := omega) only [w64, w32, wu8, wu16, wu32, wu64]
    | ((with_reducible refine o_call (head_p) ?he ?hc ?_); (case he => first | rfl | (simp [D.erL, D.er]; done)); (case hc => first | rfl | (simp [D.closedL, D.closed]; done)))
    | ((with_reducible refine o_call (c1) ?he ?hc ?_); (case he => first | rfl | (simp [D.erL, D.er]; done)); (case hc => first | rfl | (simp [D.closedL, D.closed]; done)))
    | ((with_reducible refine o_call (c2) ?he ?hc ?_); (case he => first | rfl | (simp [D.erL, D.er]; done)); (case hc => first | rfl | (simp [D.closedL, D.closed]; done)))
    | ((with_reducible refine o_call (c3) ?he ?hc ?_); (case he => first | rfl | (simp [D.erL, D.er]; done)); (case hc => first | rfl | (simp [D.closedL, D.closed]; done)))
    | with_reducible apply cd_dec
    | with_reducible apply cd_eq
    | with_reducible apply cd_ne
    | with_reducible apply cd_split
    | with_reducible apply gd_dec
    | with_reducible apply gd_eq
    | with_reducible apply gd_ne
    | with_reducible apply gd_split
    | with_reducible apply gq_dec
    | with_reducible apply gq_eq
    | with_reducible apply gq_ne
    | with_reducible apply gq_split
    | ((with_reducible refine And.intro ?hw ?_); (case hw => first | omega | rfl | exact ⟨_, _, rfl⟩ | assumption | (simp only [List.length_cons, List.length_nil, List.length_append, List.length_map, List.length_replicate, List.length_take, List.length_drop] <;> omega)))
    | with_reducible intro _)
      all_goals try (first | omega | (simp [D.closed, D.er]; done))
      refine swp_fam [0, 1, 3, 4, 6, 7] (fun i : Nat => ⟨[.int .i64 n, .slice (ils ws) .no, .undef, .bool true, .slice (ils L) .no, .undef, .int .i64 T, .int .i64 i, .undef, .undef, .undef, .undef, .undef, .undef, .undef, .undef, .undef, .undef, .undef], [], ⟨[], []⟩⟩)
        (fun i => i ≤ ws.length) (fun i => ws.length - i) 0 (by omega) ?_ ?_
      · simp [keepE, St.keep]
      intro i hi
      by_cases hlt : i < ws.length
      case neg =>
        repeat' (first
    | with_reducible apply swp_seq
    | with_reducible apply swp_reg
    | with_reducible apply swp_regD
    | with_reducible apply swp_block
    | with_reducible apply swp_exit
    | with_reducible apply swp_ret
    | with_reducible apply swp_skip
    | with_reducible apply swp_cd
    | simp only [go_sem, Nat.reduceAdd, Nat.reduceSub, Nat.reduceMul, Nat.reduceEqDiff, Nat.reduceLeDiff, Nat.reduceLT, Int.reduceEq, Int.reduceNe, Int.reduceLT, Int.reduceLE, Int.reduceAdd, Int.reduceSub, Int.reduceMul, Int.reduceNeg, Int.reduceToNat, Int.reduceTDiv, Int.reduceTMod, Int.reduceBEq, Int.reduceBNe, decide_true, decide_false, reduceCtorEq, reduceIte, P4, q4, List.length_map, s1]
    | simp (disch := omega) only [w64, w32, wu8, wu16, wu32, wu64]
    | with_reducible apply cd_dec
    | with_reducible apply cd_eq
    | with_reducible apply cd_ne
    | with_reducible apply cd_split
    | with_reducible apply gd_dec
    | with_reducible apply gd_eq
    | with_reducible apply gd_ne
    | with_reducible apply gd_split
    | with_reducible apply gq_dec
    | with_reducible apply gq_eq
    | with_reducible apply gq_ne
    | with_reducible apply gq_split
    | ((with_reducible refine And.intro ?hw ?_); (case hw => first | omega | rfl | exact ⟨_, _, rfl⟩ | assumption | (simp only [List.length_cons, List.length_nil, List.length_append, List.length_map, List.length_replicate, List.length_take, List.length_drop] <;> omega)))
    | with_reducible intro _)
        all_goals first
          | omega
          | (simp [D.closed, D.er]; done)
      case pos =>
        have hg := ils_get hlt
        have hg2 := ils_get (l := L) (i := i) (by omega)
        have a1 := hwi i hlt
        have a3 := s3 i hlt
        have a4 := s4 i hlt
        have a5 := s5 i hlt
        have a6 := s6 i hlt
        have q0 : 0 ≤ n * ws.getD i 0 := Int.mul_nonneg hnA.1 a1.1
        have q1 : n * ws.getD i 0 ≤ n * 9999999 := Int.mul_le_mul_of_nonneg_left a1.2 hnA.1
        generalize hw : ws.getD i 0 = w at *
        generalize hx : L.getD i 0 = x at *
        generalize hP : x * T = P at *
        generalize hQ : n * w = Q at *
        repeat' (first
    | with_reducible apply swp_seq
    | with_reducible apply swp_reg
    | with_reducible apply swp_regD
    | with_reducible apply swp_block
    | with_reducible apply swp_exit
    | with_reducible apply swp_ret
    | with_reducible apply swp_skip
    | with_reducible apply swp_cd
    | simp only [go_sem, Nat.reduceAdd, Nat.reduceSub, Nat.reduceMul, Nat.reduceEqDiff, Nat.reduceLeDiff, Nat.reduceLT, Int.reduceEq, Int.reduceNe, Int.reduceLT, Int.reduceLE, Int.reduceAdd, Int.reduceSub, Int.reduceMul, Int.reduceNeg, Int.reduceToNat, Int.reduceTDiv, Int.reduceTMod, Int.reduceBEq, Int.reduceBNe, decide_true, decide_false, reduceCtorEq, reduceIte, P4, q4, List.length_map, s1, hg, hg2, hP, hQ]
    | simp (disch := omega) only [w64, w32, wu8, wu16, wu32, wu64]
    | with_reducible apply cd_dec
    | with_reducible apply cd_eq
    | with_reducible apply cd_ne
    | with_reducible apply cd_split
    | with_reducible apply gd_dec
    | with_reducible apply gd_eq
    | with_reducible apply gd_ne
    | with_reducible apply gd_split
    | with_reducible apply gq_dec
    | with_reducible apply gq_eq
    | with_reducible apply gq_ne
    | with_reducible apply gq_split
    | ((with_reducible refine And.intro ?hw ?_); (case hw => first | omega | rfl | exact ⟨_, _, rfl⟩ | assumption | (simp only [List.length_cons, List.length_nil, List.length_append, List.length_map, List.length_replicate, List.length_take, List.length_drop] <;> omega)))
    | with_reducible intro _)
        all_goals try (first | omega | contradiction | (simp [D.closed, D.er]; done))
        all_goals
          refine swp_fam [0, 1, 3, 4, 6, 7, 9] (fun k : Nat => ⟨[.int .i64 n, .slice (ils ws) .no, .undef, .bool true, .slice (ils L) .no, .undef, .int .i64 T, .int .i64 i, .undef, .int .i64 k, .undef, .undef, .undef, .undef, .undef, .undef, .undef, .undef, .undef], [], ⟨[], []⟩⟩)
            (fun k => k ≤ i) (fun k => i - k) 0 (by omega) ?_ ?_
          · simp [keepE, St.keep]
          intro k hk
          by_cases hkl : k < i
          · have hk1 := ils_get (l := ws) (i := k) (by omega)
            have hk2 := ils_get (l := L) (i := k) (by omega)
            have o := s6 i hlt k hkl
            have b3 := s3 k (by omega)
            rw [hw, hx] at o
            generalize ws.getD k 0 = w2 at *
            generalize L.getD k 0 = x2 at *
            obtain ⟨o1, o2, o3⟩ := o
            have u1 : IntKind.i64.wrap (x + 1) = x + 1 := w64 (by omega) (by omega)
            have u2 : IntKind.i64.wrap ((k : Int) + 1) = ((k + 1 : Nat) : Int) := by rw [w64 (by omega) (by omega)]; omega
            have fin : ∃ a', a' ≤ i ∧ i - a' < i - k ∧ (k + 1 : Nat) = a' := ⟨k + 1, by omega, by omega, rfl⟩
            rcases Int.lt_trichotomy w2 w with hc | hc | hc
            · have e1 : decide (w < w2) = false := decide_eq_false (by omega)
              have e2 : decide (w2 < w) = true := decide_eq_true hc
              have e3 : decide (x < x2) = false := decide_eq_false (by have := o2 hc; omega)
              have e4 : (w2 == w) = false := by simp; omega
              repeat' (first
    | with_reducible apply swp_seq
    | with_reducible apply swp_reg
    | with_reducible apply swp_regD
    | with_reducible apply swp_block
    | with_reducible apply swp_exit
    | with_reducible apply swp_ret
    | with_reducible apply swp_skip
    | with_reducible apply swp_cd
    | simp only [go_sem, Nat.reduceAdd, Nat.reduceSub, Nat.reduceMul, Nat.reduceEqDiff, Nat.reduceLeDiff, Nat.reduceLT, Int.reduceEq, Int.reduceNe, Int.reduceLT, Int.reduceLE, Int.reduceAdd, Int.reduceSub, Int.reduceMul, Int.reduceNeg, Int.reduceToNat, Int.reduceTDiv, Int.reduceTMod, Int.reduceBEq, Int.reduceBNe, decide_true, decide_false, reduceCtorEq, reduceIte, P4, q4, List.length_map, s1, hg, hg2, hk1, hk2, u1, u2, e1, e2, e3, e4]
    | with_reducible apply cd_dec
    | with_reducible apply cd_eq
    | with_reducible apply cd_ne
    | with_reducible apply cd_split
    | with_reducible apply gd_dec
    | with_reducible apply gd_eq
    | with_reducible apply gd_ne
    | with_reducible apply gd_split
    | with_reducible apply gq_dec
    | with_reducible apply gq_eq
    | with_reducible apply gq_ne
    | with_reducible apply gq_split
    | ((with_reducible refine And.intro ?hw ?_); (case hw => first | omega | rfl | exact ⟨_, _, rfl⟩ | assumption | (simp only [List.length_cons, List.length_nil, List.length_append, List.length_map, List.length_replicate, List.length_take, List.length_drop] <;> omega)))
    | with_reducible intro _)
              all_goals first
                | omega
                | contradiction
                | (refine ⟨k + 1, by omega, by omega, ?_⟩; simp [keepE, St.keep]; done)
                | skip
            · subst hc
              have e1 : decide (w2 < w2) = false := decide_eq_false (by omega)
              have e3 : decide (x2 < x) = false := decide_eq_false (by have := o3 rfl; omega)
              have e4 : decide (x + 1 < x2) = false := decide_eq_false (by have := o3 rfl; omega)
              repeat' (first
    | with_reducible apply swp_seq
    | with_reducible apply swp_reg
    | with_reducible apply swp_regD
    | with_reducible apply swp_block
    | with_reducible apply swp_exit
    | with_reducible apply swp_ret
    | with_reducible apply swp_skip
    | with_reducible apply swp_cd
    | simp only [go_sem, Nat.reduceAdd, Nat.reduceSub, Nat.reduceMul, Nat.reduceEqDiff, Nat.reduceLeDiff, Nat.reduceLT, Int.reduceEq, Int.reduceNe, Int.reduceLT, Int.reduceLE, Int.reduceAdd, Int.reduceSub, Int.reduceMul, Int.reduceNeg, Int.reduceToNat, Int.reduceTDiv, Int.reduceTMod, Int.reduceBEq, Int.reduceBNe, decide_true, decide_false, reduceCtorEq, reduceIte, P4, q4, List.length_map, s1, hg, hg2, hk1, hk2, u1, u2, e1, e3, e4, beq_self_eq_true]
    | with_reducible apply cd_dec
    | with_reducible apply cd_eq
    | with_reducible apply cd_ne
    | with_reducible apply cd_split
    | with_reducible apply gd_dec
    | with_reducible apply gd_eq
    | with_reducible apply gd_ne
    | with_reducible apply gd_split
    | with_reducible apply gq_dec
    | with_reducible apply gq_eq
    | with_reducible apply gq_ne
    | with_reducible apply gq_split
    | ((with_reducible refine And.intro ?hw ?_); (case hw => first | omega | rfl | exact ⟨_, _, rfl⟩ | assumption | (simp only [List.length_cons, List.length_nil, List.length_append, List.length_map, List.length_replicate, List.length_take, List.length_drop] <;> omega)))
    | with_reducible intro _)
              all_goals first
                | omega
                | contradiction
                | (refine ⟨k + 1, by omega, by omega, ?_⟩; simp [keepE, St.keep]; done)
                | skip
            · have e1 : decide (w < w2) = true := decide_eq_true hc
              have e2 : decide (w2 < w) = false := decide_eq_false (by omega)
              have e3 : decide (x2 < x) = false := decide_eq_false (by have := o1 hc; omega)
              have e4 : (w2 == w) = false := by simp; omega
              repeat' (first
    | with_reducible apply swp_seq
    | with_reducible apply swp_reg
    | with_reducible apply swp_regD
    | with_reducible apply swp_block
    | with_reducible apply swp_exit
    | with_reducible apply swp_ret
    | with_reducible apply swp_skip
    | with_reducible apply swp_cd
    | simp only [go_sem, Nat.reduceAdd, Nat.reduceSub, Nat.reduceMul, Nat.reduceEqDiff, Nat.reduceLeDiff, Nat.reduceLT, Int.reduceEq, Int.reduceNe, Int.reduceLT, Int.reduceLE, Int.reduceAdd, Int.reduceSub, Int.reduceMul, Int.reduceNeg, Int.reduceToNat, Int.reduceTDiv, Int.reduceTMod, Int.reduceBEq, Int.reduceBNe, decide_true, decide_false, reduceCtorEq, reduceIte, P4, q4, List.length_map, s1, hg, hg2, hk1, hk2, u1, u2, e1, e2, e3, e4]
    | with_reducible apply cd_dec
    | with_reducible apply cd_eq
    | with_reducible apply cd_ne
    | with_reducible apply cd_split
    | with_reducible apply gd_dec
    | with_reducible apply gd_eq
    | with_reducible apply gd_ne
    | with_reducible apply gd_split
    | with_reducible apply gq_dec
    | with_reducible apply gq_eq
    | with_reducible apply gq_ne
    | with_reducible apply gq_split
    | ((with_reducible refine And.intro ?hw ?_); (case hw => first | omega | rfl | exact ⟨_, _, rfl⟩ | assumption | (simp only [List.length_cons, List.length_nil, List.length_append, List.length_map, List.length_replicate, List.length_take, List.length_drop] <;> omega)))
    | with_reducible intro _)
              all_goals first
                | omega
                | contradiction
                | (refine ⟨k + 1, by omega, by omega, ?_⟩; simp [keepE, St.keep]; done)
                | skip
          · repeat' (first
    | with_reducible apply swp_seq
    | with_reducible apply swp_reg
    | with_reducible apply swp_regD
    | with_reducible apply swp_block
    | with_reducible apply swp_exit
    | with_reducible apply swp_ret
    | with_reducible apply swp_skip
    | with_reducible apply swp_cd
    | simp only [go_sem, Nat.reduceAdd, Nat.reduceSub, Nat.reduceMul, Nat.reduceEqDiff, Nat.reduceLeDiff, Nat.reduceLT, Int.reduceEq, Int.reduceNe, Int.reduceLT, Int.reduceLE, Int.reduceAdd, Int.reduceSub, Int.reduceMul, Int.reduceNeg, Int.reduceToNat, Int.reduceTDiv, Int.reduceTMod, Int.reduceBEq, Int.reduceBNe, decide_true, decide_false, reduceCtorEq, reduceIte, P4, q4, List.length_map, s1]
    | simp (disch := omega) only [w64, w32, wu8, wu16, wu32, wu64]
    | with_reducible apply cd_dec
    | with_reducible apply cd_eq
    | with_reducible apply cd_ne
    | with_reducible apply cd_split
    | with_reducible apply gd_dec
    | with_reducible apply gd_eq
    | with_reducible apply gd_ne
    | with_reducible apply gd_split
    | with_reducible apply gq_dec
    | with_reducible apply gq_eq
    | with_reducible apply gq_ne
    | with_reducible apply gq_split
    | ((with_reducible refine And.intro ?hw ?_); (case hw => first | omega | rfl | exact ⟨_, _, rfl⟩ | assumption | (simp only [List.length_cons, List.length_nil, List.length_append, List.length_map, List.length_replicate, List.length_take, List.length_drop] <;> omega)))
    | with_reducible intro _)
            all_goals first
              | omega
              | (refine ⟨i + 1, by omega, by omega, ?_⟩; simp [keepE, St.keep]; done)
              | skip

theorem map_take_step {m : Int} {l : List Int} {i : Nat} (h : i < l.length) : ils ((l.take i).map (m * ·)) ++ [.int .i64 (m * l.getD i 0)] = ils ((l.take (i + 1)).map (m * ·)) := by
  have e : l.getD i 0 = l[i] := by simp [List.getD, h]
  rw [e, take_step h]
  simp only [ils, List.map_append, List.map_cons, List.map_nil]

set_option maxHeartbeats 4000000 in
theorem l5_p (n : Int) (ws : List Int) (r : Int) (hn : -9223372036854775808 ≤ n ∧ n ≤ 9223372036854775807) (hr : 0 ≤ r ∧ r ≤ 255) : Pur M 5 [.int .i64 n, .slice (ils ws) .no, .int .u8 r] (.bool true) := by
  refine ok5 rfl ?_
  rw [i5]
  unfold c5
  by_cases hl : ws.length ≤ 16
  case neg =>
    repeat' (first
    | with_reducible apply swp_seq
    | with_reducible apply swp_reg
    | with_reducible apply swp_regD
    | with_reducible apply swp_block
    | with_reducible apply swp_exit
    | with_reducible apply swp_ret
    | with_reducible apply swp_skip
    | with_reducible apply swp_cd
    | simp only [go_sem, Nat.reduceAdd, Nat.reduceSub, Nat.reduceMul, Nat.reduceEqDiff, Nat.reduceLeDiff, Nat.reduceLT, Int.reduceEq, Int.reduceNe, Int.reduceLT, Int.reduceLE, Int.reduceAdd, Int.reduceSub, Int.reduceMul, Int.reduceNeg, Int.reduceToNat, Int.reduceTDiv, Int.reduceTMod, Int.reduceBEq, Int.reduceBNe, decide_true, decide_false, reduceCtorEq, reduceIte, P5, q5, List.length_map]
    | simp (disch := omega) only [w64, w32, wu8, wu16, wu32, wu64]
    | ((with_reducible refine o_call (head_p) ?he ?hc ?_); (case he => first | rfl | (simp [D.erL, D.er]; done)); (case hc => first | rfl | (simp [D.closedL, D.closed]; done)))
    | ((with_reducible apply s_appT); (case he => rfl); (case hK => first | rfl | assumption | omega | (simp only [List.length_cons, List.length_nil, List.length_append, List.length_map, List.length_replicate, List.length_take, List.length_drop] <;> omega) | (constructor <;> (simp only [List.length_cons, List.length_nil, List.length_append, List.length_map, List.length_replicate, List.length_take, List.length_drop] <;> omega)) | (constructor <;> omega) | (simp [elemsK, D.isVal, D.cells, D.closedL, D.closed]; done) | (simp [elemsK, D.isVal, D.cells, D.closedL, D.closed]; omega)); (case hc => first | rfl | assumption | omega | (simp only [List.length_cons, List.length_nil, List.length_append, List.length_map, List.length_replicate, List.length_take, List.length_drop] <;> omega) | (constructor <;> (simp only [List.length_cons, List.length_nil, List.length_append, List.length_map, List.length_replicate, List.length_take, List.length_drop] <;> omega)) | (constructor <;> omega) | (simp [elemsK, D.isVal, D.cells, D.closedL, D.closed]; done) | (simp [elemsK, D.isVal, D.cells, D.closedL, D.closed]; omega)); (case hr => first | rfl | assumption | omega | (simp only [List.length_cons, List.length_nil, List.length_append, List.length_map, List.length_replicate, List.length_take, List.length_drop] <;> omega) | (constructor <;> (simp only [List.length_cons, List.length_nil, List.length_append, List.length_map, List.length_replicate, List.length_take, List.length_drop] <;> omega)) | (constructor <;> omega) | (simp [elemsK, D.isVal, D.cells, D.closedL, D.closed]; done) | (simp [elemsK, D.isVal, D.cells, D.closedL, D.closed]; omega)); (case hV => first | rfl | assumption | omega | (simp only [List.length_cons, List.length_nil, List.length_append, List.length_map, List.length_replicate, List.length_take, List.length_drop] <;> omega) | (constructor <;> (simp only [List.length_cons, List.length_nil, List.length_append, List.length_map, List.length_replicate, List.length_take, List.length_drop] <;> omega)) | (constructor <;> omega) | (simp [elemsK, D.isVal, D.cells, D.closedL, D.closed]; done) | (simp [elemsK, D.isVal, D.cells, D.closedL, D.closed]; omega)))
    | ((with_reducible apply s_appG); (case he => rfl); (case hV => first | rfl | assumption | omega | (simp only [List.length_cons, List.length_nil, List.length_append, List.length_map, List.length_replicate, List.length_take, List.length_drop] <;> omega) | (constructor <;> (simp only [List.length_cons, List.length_nil, List.length_append, List.length_map, List.length_replicate, List.length_take, List.length_drop] <;> omega)) | (constructor <;> omega) | (simp [elemsK, D.isVal, D.cells, D.closedL, D.closed]; done) | (simp [elemsK, D.isVal, D.cells, D.closedL, D.closed]; omega)); (case hK => first | rfl | assumption | omega | (simp only [List.length_cons, List.length_nil, List.length_append, List.length_map, List.length_replicate, List.length_take, List.length_drop] <;> omega) | (constructor <;> (simp only [List.length_cons, List.length_nil, List.length_append, List.length_map, List.length_replicate, List.length_take, List.length_drop] <;> omega)) | (constructor <;> omega) | (simp [elemsK, D.isVal, D.cells, D.closedL, D.closed]; done) | (simp [elemsK, D.isVal, D.cells, D.closedL, D.closed]; omega)); (case hr => first | rfl | assumption | omega | (simp only [List.length_cons, List.length_nil, List.length_append, List.length_map, List.length_replicate, List.length_take, List.length_drop] <;> omega) | (constructor <;> (simp only [List.length_cons, List.length_nil, List.length_append, List.length_map, List.length_replicate, List.length_take, List.length_drop] <;> omega)) | (constructor <;> omega) | (simp [elemsK, D.isVal, D.cells, D.closedL, D.closed]; done) | (simp [elemsK, D.isVal, D.cells, D.closedL, D.closed]; omega)); (case hl => first | rfl | assumption | omega | (simp only [List.length_cons, List.length_nil, List.length_append, List.length_map, List.length_replicate, List.length_take, List.length_drop] <;> omega) | (constructor <;> (simp only [List.length_cons, List.length_nil, List.length_append, List.length_map, List.length_replicate, List.length_take, List.length_drop] <;> omega)) | (constructor <;> omega) | (simp [elemsK, D.isVal, D.cells, D.closedL, D.closed]; done) | (simp [elemsK, D.isVal, D.cells, D.closedL, D.closed]; omega)))
    | ((with_reducible apply s_app0); (case he => rfl); (case hK => first | rfl | assumption | omega | (simp only [List.length_cons, List.length_nil, List.length_append, List.length_map, List.length_replicate, List.length_take, List.length_drop] <;> omega) | (constructor <;> (simp only [List.length_cons, List.length_nil, List.length_append, List.length_map, List.length_replicate, List.length_take, List.length_drop] <;> omega)) | (constructor <;> omega) | (simp [elemsK, D.isVal, D.cells, D.closedL, D.closed]; done) | (simp [elemsK, D.isVal, D.cells, D.closedL, D.closed]; omega)); (case hc => first | rfl | assumption | omega | (simp only [List.length_cons, List.length_nil, List.length_append, List.length_map, List.length_replicate, List.length_take, List.length_drop] <;> omega) | (constructor <;> (simp only [List.length_cons, List.length_nil, List.length_append, List.length_map, List.length_replicate, List.length_take, List.length_drop] <;> omega)) | (constructor <;> omega) | (simp [elemsK, D.isVal, D.cells, D.closedL, D.closed]; done) | (simp [elemsK, D.isVal, D.cells, D.closedL, D.closed]; omega)); (case hr => first | rfl | assumption | omega | (simp only [List.length_cons, List.length_nil, List.length_append, List.length_map, List.length_replicate, List.length_take, List.length_drop] <;> omega) | (constructor <;> (simp only [List.length_cons, List.length_nil, List.length_append, List.length_map, List.length_replicate, List.length_take, List.length_drop] <;> omega)) | (constructor <;> omega) | (simp [elemsK, D.isVal, D.cells, D.closedL, D.closed]; done) | (simp [elemsK, D.isVal, D.cells, D.closedL, D.closed]; omega)))
    | ((with_reducible apply s_appF); (case he => rfl); (case hK => first | rfl | assumption | omega | (simp only [List.length_cons, List.length_nil, List.length_append, List.length_map, List.length_replicate, List.length_take, List.length_drop] <;> omega) | (constructor <;> (simp only [List.length_cons, List.length_nil, List.length_append, List.length_map, List.length_replicate, List.length_take, List.length_drop] <;> omega)) | (constructor <;> omega) | (simp [elemsK, D.isVal, D.cells, D.closedL, D.closed]; done) | (simp [elemsK, D.isVal, D.cells, D.closedL, D.closed]; omega)); (case hc => first | rfl | assumption | omega | (simp only [List.length_cons, List.length_nil, List.length_append, List.length_map, List.length_replicate, List.length_take, List.length_drop] <;> omega) | (constructor <;> (simp only [List.length_cons, List.length_nil, List.length_append, List.length_map, List.length_replicate, List.length_take, List.length_drop] <;> omega)) | (constructor <;> omega) | (simp [elemsK, D.isVal, D.cells, D.closedL, D.closed]; done) | (simp [elemsK, D.isVal, D.cells, D.closedL, D.closed]; omega)); (case hr => first | rfl | assumption | omega | (simp only [List.length_cons, List.length_nil, List.length_append, List.length_map, List.length_replicate, List.length_take, List.length_drop] <;> omega) | (constructor <;> (simp only [List.length_cons, List.length_nil, List.length_append, List.length_map, List.length_replicate, List.length_take, List.length_drop] <;> omega)) | (constructor <;> omega) | (simp [elemsK, D.isVal, D.cells, D.closedL, D.closed]; done) | (simp [elemsK, D.isVal, D.cells, D.closedL, D.closed]; omega)); (case hx => first | rfl | assumption | omega | (simp only [List.length_cons, List.length_nil, List.length_append, List.length_map, List.length_replicate, List.length_take, List.length_drop] <;> omega) | (constructor <;> (simp only [List.length_cons, List.length_nil, List.length_append, List.length_map, List.length_replicate, List.length_take, List.length_drop] <;> omega)) | (constructor <;> omega) | (simp [elemsK, D.isVal, D.cells, D.closedL, D.closed]; done) | (simp [elemsK, D.isVal, D.cells, D.closedL, D.closed]; omega)); (case hn => first | rfl | assumption | omega | (simp only [List.length_cons, List.length_nil, List.length_append, List.length_map, List.length_replicate, List.length_take, List.length_drop] <;> omega) | (constructor <;> (simp only [List.length_cons, List.length_nil, List.length_append, List.length_map, List.length_replicate, List.length_take, List.length_drop] <;> omega)) | (constructor <;> omega) | (simp [elemsK, D.isVal, D.cells, D.closedL, D.closed]; done) | (simp [elemsK, D.isVal, D.cells, D.closedL, D.closed]; omega)))
    | ((with_reducible apply s_bsl); (case he => first | rfl | assumption | omega | (simp only [List.length_cons, List.length_nil, List.length_append, List.length_map, List.length_replicate, List.length_take, List.length_drop] <;> omega) | (constructor <;> (simp only [List.length_cons, List.length_nil, List.length_append, List.length_map, List.length_replicate, List.length_take, List.length_drop] <;> omega)) | (constructor <;> omega) | (simp [elemsK, D.isVal, D.cells, D.closedL, D.closed]; done) | (simp [elemsK, D.isVal, D.cells, D.closedL, D.closed]; omega)); (case hl => first | rfl | assumption | omega | (simp only [List.length_cons, List.length_nil, List.length_append, List.length_map, List.length_replicate, List.length_take, List.length_drop] <;> omega) | (constructor <;> (simp only [List.length_cons, List.length_nil, List.length_append, List.length_map, List.length_replicate, List.length_take, List.length_drop] <;> omega)) | (constructor <;> omega) | (simp [elemsK, D.isVal, D.cells, D.closedL, D.closed]; done) | (simp [elemsK, D.isVal, D.cells, D.closedL, D.closed]; omega)); (case hc => first | rfl | assumption | omega | (simp only [List.length_cons, List.length_nil, List.length_append, List.length_map, List.length_replicate, List.length_take, List.length_drop] <;> omega) | (constructor <;> (simp only [List.length_cons, List.length_nil, List.length_append, List.length_map, List.length_replicate, List.length_take, List.length_drop] <;> omega)) | (constructor <;> omega) | (simp [elemsK, D.isVal, D.cells, D.closedL, D.closed]; done) | (simp [elemsK, D.isVal, D.cells, D.closedL, D.closed]; omega)))
    | with_reducible apply cd_dec
    | with_reducible apply cd_eq
    | with_reducible apply cd_ne
    | with_reducible apply cd_split
    | with_reducible apply gd_dec
    | with_reducible apply gd_eq
    | with_reducible apply gd_ne
    | with_reducible apply gd_split
    | with_reducible apply gq_dec
    | with_reducible apply gq_eq
    | with_reducible apply gq_ne
    | with_reducible apply gq_split
    | ((with_reducible refine And.intro ?hw ?_); (case hw => first | omega | rfl | exact ⟨_, _, rfl⟩ | assumption | (simp only [List.length_cons, List.length_nil, List.length_append, List.length_map, List.length_replicate, List.length_take, List.length_drop] <;> omega)))
    | with_reducible intro _)
    all_goals first
      | omega
      | (simp [D.closed, D.er]; done)
  case pos =>
    have e1 : r.tmod 9 = r % 9 := Int.tmod_eq_emod_of_nonneg hr.1
    generalize hm0 : r % 9 = m0 at *
    have hm1 : 0 ≤ m0 ∧ m0 < 9 := by omega
    repeat' (first
    | with_reducible apply swp_seq
    | with_reducible apply swp_reg
    | with_reducible apply swp_regD
    | with_reducible apply swp_block
    | with_reducible apply swp_exit
    | with_reducible apply swp_ret
    | with_reducible apply swp_skip
    | with_reducible apply swp_cd
    | simp only [go_sem, Nat.reduceAdd, Nat.reduceSub, Nat.reduceMul, Nat.reduceEqDiff, Nat.reduceLeDiff, Nat.reduceLT, Int.reduceEq, Int.reduceNe, Int.reduceLT, Int.reduceLE, Int.reduceAdd, Int.reduceSub, Int.reduceMul, Int.reduceNeg, Int.reduceToNat, Int.reduceTDiv, Int.reduceTMod, Int.reduceBEq, Int.reduceBNe, decide_true, decide_false, reduceCtorEq, reduceIte, P5, q5, List.length_map, e1]
    | simp (disch := omega) only [w64, w32, wu8, wu16, wu32, wu64]
    | ((with_reducible refine o_call (head_p) ?he ?hc ?_); (case he => first | rfl | (simp [D.erL, D.er]; done)); (case hc => first | rfl | (simp [D.closedL, D.closed]; done)))
    | ((with_reducible apply s_appT); (case he => rfl); (case hK => first | rfl | assumption | omega | (simp only [List.length_cons, List.length_nil, List.length_append, List.length_map, List.length_replicate, List.length_take, List.length_drop] <;> omega) | (constructor <;> (simp only [List.length_cons, List.length_nil, List.length_append, List.length_map, List.length_replicate, List.length_take, List.length_drop] <;> omega)) | (constructor <;> omega) | (simp [elemsK, D.isVal, D.cells, D.closedL, D.closed]; done) | (simp [elemsK, D.isVal, D.cells, D.closedL, D.closed]; omega)); (case hc => first | rfl | assumption | omega | (simp only [List.length_cons, List.length_nil, List.length_append, List.length_map, List.length_replicate, List.length_take, List.length_drop] <;> omega) | (constructor <;> (simp only [List.length_cons, List.length_nil, List.length_append, List.length_map, List.length_replicate, List.length_take, List.length_drop] <;> omega)) | (constructor <;> omega) | (simp [elemsK, D.isVal, D.cells, D.closedL, D.closed]; done) | (simp [elemsK, D.isVal, D.cells, D.closedL, D.closed]; omega)); (case hr => first | rfl | assumption | omega | (simp only [List.length_cons, List.length_nil, List.length_append, List.length_map, List.length_replicate, List.length_take, List.length_drop] <;> omega) | (constructor <;> (simp only [List.length_cons, List.length_nil, List.length_append, List.length_map, List.length_replicate, List.length_take, List.length_drop] <;> omega)) | (constructor <;> omega) | (simp [elemsK, D.isVal, D.cells, D.closedL, D.closed]; done) | (simp [elemsK, D.isVal, D.cells, D.closedL, D.closed]; omega)); (case hV => first | rfl | assumption | omega | (simp only [List.length_cons, List.length_nil, List.length_append, List.length_map, List.length_replicate, List.length_take, List.length_drop] <;> omega) | (constructor <;> (simp only [List.length_cons, List.length_nil, List.length_append, List.length_map, List.length_replicate, List.length_take, List.length_drop] <;> omega)) | (constructor <;> omega) | (simp [elemsK, D.isVal, D.cells, D.closedL, D.closed]; done) | (simp [elemsK, D.isVal, D.cells, D.closedL, D.closed]; omega)))
    | ((with_reducible apply s_appG); (case he => rfl); (case hV => first | rfl | assumption | omega | (simp only [List.length_cons, List.length_nil, List.length_append, List.length_map, List.length_replicate, List.length_take, List.length_drop] <;> omega) | (constructor <;> (simp only [List.length_cons, List.length_nil, List.length_append, List.length_map, List.length_replicate, List.length_take, List.length_drop] <;> omega)) | (constructor <;> omega) | (simp [elemsK, D.isVal, D.cells, D.closedL, D.closed]; done) | (simp [elemsK, D.isVal, D.cells, D.closedL, D.closed]; omega)); (case hK => first | rfl | assumption | omega | (simp only [List.length_cons, List.length_nil, List.length_append, List.length_map, List.length_replicate, List.length_take, List.length_drop] <;> omega) | (constructor <;> (simp only [List.length_cons, List.length_nil, List.length_append, List.length_map, List.length_replicate, List.length_take, List.length_drop] <;> omega)) | (constructor <;> omega) | (simp [elemsK, D.isVal, D.cells, D.closedL, D.closed]; done) | (simp [elemsK, D.isVal, D.cells, D.closedL, D.closed]; omega)); (case hr => first | rfl | assumption | omega | (simp only [List.length_cons, List.length_nil, List.length_append, List.length_map, List.length_replicate, List.length_take, List.length_drop] <;> omega) | (constructor <;> (simp only [List.length_cons, List.length_nil, List.length_append, List.length_map, List.length_replicate, List.length_take, List.length_drop] <;> omega)) | (constructor <;> omega) | (simp [elemsK, D.isVal, D.cells, D.closedL, D.closed]; done) | (simp [elemsK, D.isVal, D.cells, D.closedL, D.closed]; omega)); (case hl => first | rfl | assumption | omega | (simp only [List.length_cons, List.length_nil, List.length_append, List.length_map, List.length_replicate, List.length_take, List.length_drop] <;> omega) | (constructor <;> (simp only [List.length_cons, List.length_nil, List.length_append, List.length_map, List.length_replicate, List.length_take, List.length_drop] <;> omega)) | (constructor <;> omega) | (simp [elemsK, D.isVal, D.cells, D.closedL, D.closed]; done) | (simp [elemsK, D.isVal, D.cells, D.closedL, D.closed]; omega)))
    | ((with_reducible apply s_app0); (case he => rfl); (case hK => first | rfl | assumption | omega | (simp only [List.length_cons, List.length_nil, List.length_append, List.length_map, List.length_replicate, List.length_take, List.length_drop] <;> omega) | (constructor <;> (simp only [List.length_cons, List.length_nil, List.length_append, List.length_map, List.length_replicate, List.length_take, List.length_drop] <;> omega)) | (constructor <;> omega) | (simp [elemsK, D.isVal, D.cells, D.closedL, D.closed]; done) | (simp [elemsK, D.isVal, D.cells, D.closedL, D.closed]; omega)); (case hc => first | rfl | assumption | omega | (simp only [List.length_cons, List.length_nil, List.length_append, List.length_map, List.length_replicate, List.length_take, List.length_drop] <;> omega) | (constructor <;> (simp only [List.length_cons, List.length_nil, List.length_append, List.length_map, List.length_replicate, List.length_take, List.length_drop] <;> omega)) | (constructor <;> omega) | (simp [elemsK, D.isVal, D.cells, D.closedL, D.closed]; done) | (simp [elemsK, D.isVal, D.cells, D.closedL, D.closed]; omega)); (case hr => first | rfl | assumption | omega | (simp only [List.length_cons, List.length_nil, List.length_append, List.length_map, List.length_replicate, List.length_take, List.length_drop] <;> omega) | (constructor <;> (simp only [List.length_cons, List.length_nil, List.length_append, List.length_map, List.length_replicate, List.length_take, List.length_drop] <;> omega)) | (constructor <;> omega) | (simp [elemsK, D.isVal, D.cells, D.closedL, D.closed]; done) | (simp [elemsK, D.isVal, D.cells, D.closedL, D.closed]; omega)))
    | ((with_reducible apply s_appF); (case he => rfl); (case hK => first | rfl | assumption | omega | (simp only [List.length_cons, List.length_nil, List.length_append, List.length_map, List.length_replicate, List.length_take, List.length_drop] <;> omega) | (constructor <;> (simp only [List.length_cons, List.length_nil, List.length_append, List.length_map, List.length_replicate, List.length_take, List.length_drop] <;> omega)) | (constructor <;> omega) | (simp [elemsK, D.isVal, D.cells, D.closedL, D.closed]; done) | (simp [elemsK, D.isVal, D.cells, D.closedL, D.closed]; omega)); (case hc => first | rfl | assumption | omega | (simp only [List.length_cons, List.length_nil, List.length_append, List.length_map, List.length_replicate, List.length_take, List.length_drop] <;> omega) | (constructor <;> (simp only [List.length_cons, List.length_nil, List.length_append, List.length_map, List.length_replicate, List.length_take, List.length_drop] <;> omega)) | (constructor <;> omega) | (simp [elemsK, D.isVal, D.cells, D.closedL, D.closed]; done) | (simp [elemsK, D.isVal, D.cells, D.closedL, D.closed]; omega)); (case hr => first | rfl | assumption | omega | (simp only [List.length_cons, List.length_nil, List.length_append, List.length_map, List.length_replicate, List.length_take, List.length_drop] <;> omega) | (constructor <;> (simp only [List.length_cons, List.length_nil, List.length_append, List.length_map, List.length_replicate, List.length_take, List.length_drop] <;> omega)) | (constructor <;> omega) | (simp [elemsK, D.isVal, D.cells, D.closedL, D.closed]; done) | (simp [elemsK, D.isVal, D.cells, D.closedL, D.closed]; omega)); (case hx => first | rfl | assumption | omega | (simp only [List.length_cons, List.length_nil, List.length_append, List.length_map, List.length_replicate, List.length_take, List.length_drop] <;> omega) | (constructor <;> (simp only [List.length_cons, List.length_nil, List.length_append, List.length_map, List.length_replicate, List.length_take, List.length_drop] <;> omega)) | (constructor <;> omega) | (simp [elemsK, D.isVal, D.cells, D.closedL, D.closed]; done) | (simp [elemsK, D.isVal, D.cells, D.closedL, D.closed]; omega)); (case hn => first | rfl | assumption | omega | (simp only [List.length_cons, List.length_nil, List.length_append, List.length_map, List.length_replicate, List.length_take, List.length_drop] <;> omega) | (constructor <;> (simp only [List.length_cons, List.length_nil, List.length_append, List.length_map, List.length_replicate, List.length_take, List.length_drop] <;> omega)) | (constructor <;> omega) | (simp [elemsK, D.isVal, D.cells, D.closedL, D.closed]; done) | (simp [elemsK, D.isVal, D.cells, D.closedL, D.closed]; omega)))
    | ((with_reducible apply s_bsl); (case he => first | rfl | assumption | omega | (simp only [List.length_cons, List.length_nil, List.length_append, List.length_map, List.length_replicate, List.length_take, List.length_drop] <;> omega) | (constructor <;> (simp only [List.length_cons, List.length_nil, List.length_append, List.length_map, List.length_replicate, List.length_take, List.length_drop] <;> omega)) | (constructor <;> omega) | (simp [elemsK, D.isVal, D.cells, D.closedL, D.closed]; done) | (simp [elemsK, D.isVal, D.cells, D.closedL, D.closed]; omega)); (case hl => first | rfl | assumption | omega | (simp only [List.length_cons, List.length_nil, List.length_append, List.length_map, List.length_replicate, List.length_take, List.length_drop] <;> omega) | (constructor <;> (simp only [List.length_cons, List.length_nil, List.length_append, List.length_map, List.length_replicate, List.length_take, List.length_drop] <;> omega)) | (constructor <;> omega) | (simp [elemsK, D.isVal, D.cells, D.closedL, D.closed]; done) | (simp [elemsK, D.isVal, D.cells, D.closedL, D.closed]; omega)); (case hc => first | rfl | assumption | omega | (simp only [List.length_cons, List.length_nil, List.length_append, List.length_map, List.length_replicate, List.length_take, List.length_drop] <;> omega) | (constructor <;> (simp only [List.length_cons, List.length_nil, List.length_append, List.length_map, List.length_replicate, List.length_take, List.length_drop] <;> omega)) | (constructor <;> omega) | (simp [elemsK, D.isVal, D.cells, D.closedL, D.closed]; done) | (simp [elemsK, D.isVal, D.cells, D.closedL, D.closed]; omega)))
    | with_reducible apply cd_dec
    | with_reducible apply cd_eq
    | with_reducible apply cd_ne
    | with_reducible apply cd_split
    | with_reducible apply gd_dec
    | with_reducible apply gd_eq
    | with_reducible apply gd_ne
    | with_reducible apply gd_split
    | with_reducible apply gq_dec
    | with_reducible apply gq_eq
    | with_reducible apply gq_ne
    | with_reducible apply gq_split
    | ((with_reducible refine And.intro ?hw ?_); (case hw => first | omega | rfl | exact ⟨_, _, rfl⟩ | assumption | (simp only [List.length_cons, List.length_nil, List.length_append, List.length_map, List.length_replicate, List.length_take, List.length_drop] <;> omega)))
    | with_reducible intro _)
    all_goals try (first | omega | (simp [D.closed, D.er]; done))
    generalize hm : 1 + m0 = m at *
    have hm2 : 1 ≤ m ∧ m ≤ 9 := by omega
    refine swp_weak (weak_new 6 1 (by decide) false rfl) ?_
    simp only [Bool.false_eq_true, if_false, List.set_cons_succ, List.set_cons_zero, List.length_nil, List.nil_append]
    refine swp_fam [0, 1, 4, 5, 6, 7] (fun i : Nat => ⟨[.int .i64 n, .slice (ils ws) .no, .undef, .undef, .bool true, .int .i64 m, .slice (ils ((ws.take i).map (m * ·))) (.tok 0), .int .i64 i, .undef, .undef, .undef, .undef, .undef, .undef, .undef], [], ⟨[], [.per 1 i]⟩⟩)
      (fun i => i ≤ ws.length ∧ ∀ w ∈ ws.take i, 0 ≤ w ∧ m * w ≤ 9999999) (fun i => ws.length - i) 0 ⟨by omega, by simp⟩ ?_ ?_
    · simp [keepE, St.keep]
    rintro i ⟨g1, g2⟩
    have hlen : ((ws.take i).map (m * ·)).length = i := by simp; omega
    by_cases hi : i < ws.length
    · have hg := ils_get hi
      have hst := map_take_step (m := m) hi
      have hdv : (9999999 : Int).tdiv m = 9999999 / m := Int.tdiv_eq_ediv_of_nonneg (by omega)
      have hdm := Int.mul_ediv_add_emod 9999999 m
      have hd0 := Int.emod_nonneg 9999999 (show m ≠ 0 by omega)
      have hd1 := Int.emod_lt_of_pos 9999999 (show 0 < m by omega)
      have hd2 : 0 ≤ 9999999 / m := Int.ediv_nonneg (by omega) (by omega)
      have hd3 : 9999999 / m ≤ 9999999 := Int.ediv_le_self _ (by omega)
      have hok : ∀ w, 0 ≤ w → w ≤ 9999999 / m → 0 ≤ m * w ∧ m * w ≤ 9999999 := by
        intro w h0 h1
        have := Int.mul_le_mul_of_nonneg_left h1 (show 0 ≤ m by omega)
        exact ⟨Int.mul_nonneg (by omega) h0, by omega⟩
      have hnext : 0 ≤ ws.getD i 0 → ws.getD i 0 ≤ 9999999 / m → ∀ w ∈ ws.take (i + 1), 0 ≤ w ∧ m * w ≤ 9999999 := fun h0 h1 => take_all _ hi g2 ⟨h0, (hok _ h0 h1).2⟩
      have hok := hok (ws.getD i 0)
      generalize ws.getD i 0 = w at *
      generalize 9999999 / m = v at *
      have hm0 : m ≠ 0 := by omega
      generalize hP : m * w = P at *
      repeat' (first
    | with_reducible apply swp_seq
    | with_reducible apply swp_reg
    | with_reducible apply swp_regD
    | with_reducible apply swp_block
    | with_reducible apply swp_exit
    | with_reducible apply swp_ret
    | with_reducible apply swp_skip
    | with_reducible apply swp_cd
    | simp only [go_sem, Nat.reduceAdd, Nat.reduceSub, Nat.reduceMul, Nat.reduceEqDiff, Nat.reduceLeDiff, Nat.reduceLT, Int.reduceEq, Int.reduceNe, Int.reduceLT, Int.reduceLE, Int.reduceAdd, Int.reduceSub, Int.reduceMul, Int.reduceNeg, Int.reduceToNat, Int.reduceTDiv, Int.reduceTMod, Int.reduceBEq, Int.reduceBNe, decide_true, decide_false, reduceCtorEq, reduceIte, P5, q5, List.length_map, hg, hdv, hP, hst]
    | simp (disch := omega) only [w64, w32, wu8, wu16, wu32, wu64]
    | ((with_reducible apply s_appT); (case he => rfl); (case hK => first | rfl | assumption | omega | (simp only [List.length_cons, List.length_nil, List.length_append, List.length_map, List.length_replicate, List.length_take, List.length_drop, hlen, List.length_map] <;> omega) | (constructor <;> (simp only [List.length_cons, List.length_nil, List.length_append, List.length_map, List.length_replicate, List.length_take, List.length_drop, hlen, List.length_map] <;> omega)) | (constructor <;> omega) | (simp [elemsK, D.isVal, D.cells, D.closedL, D.closed, hlen, List.length_map]; done) | (simp [elemsK, D.isVal, D.cells, D.closedL, D.closed, hlen, List.length_map]; omega)); (case hc => first | rfl | assumption | omega | (simp only [List.length_cons, List.length_nil, List.length_append, List.length_map, List.length_replicate, List.length_take, List.length_drop, hlen, List.length_map] <;> omega) | (constructor <;> (simp only [List.length_cons, List.length_nil, List.length_append, List.length_map, List.length_replicate, List.length_take, List.length_drop, hlen, List.length_map] <;> omega)) | (constructor <;> omega) | (simp [elemsK, D.isVal, D.cells, D.closedL, D.closed, hlen, List.length_map]; done) | (simp [elemsK, D.isVal, D.cells, D.closedL, D.closed, hlen, List.length_map]; omega)); (case hr => first | rfl | assumption | omega | (simp only [List.length_cons, List.length_nil, List.length_append, List.length_map, List.length_replicate, List.length_take, List.length_drop, hlen, List.length_map] <;> omega) | (constructor <;> (simp only [List.length_cons, List.length_nil, List.length_append, List.length_map, List.length_replicate, List.length_take, List.length_drop, hlen, List.length_map] <;> omega)) | (constructor <;> omega) | (simp [elemsK, D.isVal, D.cells, D.closedL, D.closed, hlen, List.length_map]; done) | (simp [elemsK, D.isVal, D.cells, D.closedL, D.closed, hlen, List.length_map]; omega)); (case hV => first | rfl | assumption | omega | (simp only [List.length_cons, List.length_nil, List.length_append, List.length_map, List.length_replicate, List.length_take, List.length_drop, hlen, List.length_map] <;> omega) | (constructor <;> (simp only [List.length_cons, List.length_nil, List.length_append, List.length_map, List.length_replicate, List.length_take, List.length_drop, hlen, List.length_map] <;> omega)) | (constructor <;> omega) | (simp [elemsK, D.isVal, D.cells, D.closedL, D.closed, hlen, List.length_map]; done) | (simp [elemsK, D.isVal, D.cells, D.closedL, D.closed, hlen, List.length_map]; omega)))
    | ((with_reducible apply s_appG); (case he => rfl); (case hV => first | rfl | assumption | omega | (simp only [List.length_cons, List.length_nil, List.length_append, List.length_map, List.length_replicate, List.length_take, List.length_drop, hlen, List.length_map] <;> omega) | (constructor <;> (simp only [List.length_cons, List.length_nil, List.length_append, List.length_map, List.length_replicate, List.length_take, List.length_drop, hlen, List.length_map] <;> omega)) | (constructor <;> omega) | (simp [elemsK, D.isVal, D.cells, D.closedL, D.closed, hlen, List.length_map]; done) | (simp [elemsK, D.isVal, D.cells, D.closedL, D.closed, hlen, List.length_map]; omega)); (case hK => first | rfl | assumption | omega | (simp only [List.length_cons, List.length_nil, List.length_append, List.length_map, List.length_replicate, List.length_take, List.length_drop, hlen, List.length_map] <;> omega) | (constructor <;> (simp only [List.length_cons, List.length_nil, List.length_append, List.length_map, List.length_replicate, List.length_take, List.length_drop, hlen, List.length_map] <;> omega)) | (constructor <;> omega) | (simp [elemsK, D.isVal, D.cells, D.closedL, D.closed, hlen, List.length_map]; done) | (simp [elemsK, D.isVal, D.cells, D.closedL, D.closed, hlen, List.length_map]; omega)); (case hr => first | rfl | assumption | omega | (simp only [List.length_cons, List.length_nil, List.length_append, List.length_map, List.length_replicate, List.length_take, List.length_drop, hlen, List.length_map] <;> omega) | (constructor <;> (simp only [List.length_cons, List.length_nil, List.length_append, List.length_map, List.length_replicate, List.length_take, List.length_drop, hlen, List.length_map] <;> omega)) | (constructor <;> omega) | (simp [elemsK, D.isVal, D.cells, D.closedL, D.closed, hlen, List.length_map]; done) | (simp [elemsK, D.isVal, D.cells, D.closedL, D.closed, hlen, List.length_map]; omega)); (case hl => first | rfl | assumption | omega | (simp only [List.length_cons, List.length_nil, List.length_append, List.length_map, List.length_replicate, List.length_take, List.length_drop, hlen, List.length_map] <;> omega) | (constructor <;> (simp only [List.length_cons, List.length_nil, List.length_append, List.length_map, List.length_replicate, List.length_take, List.length_drop, hlen, List.length_map] <;> omega)) | (constructor <;> omega) | (simp [elemsK, D.isVal, D.cells, D.closedL, D.closed, hlen, List.length_map]; done) | (simp [elemsK, D.isVal, D.cells, D.closedL, D.closed, hlen, List.length_map]; omega)))
    | ((with_reducible apply s_app0); (case he => rfl); (case hK => first | rfl | assumption | omega | (simp only [List.length_cons, List.length_nil, List.length_append, List.length_map, List.length_replicate, List.length_take, List.length_drop, hlen, List.length_map] <;> omega) | (constructor <;> (simp only [List.length_cons, List.length_nil, List.length_append, List.length_map, List.length_replicate, List.length_take, List.length_drop, hlen, List.length_map] <;> omega)) | (constructor <;> omega) | (simp [elemsK, D.isVal, D.cells, D.closedL, D.closed, hlen, List.length_map]; done) | (simp [elemsK, D.isVal, D.cells, D.closedL, D.closed, hlen, List.length_map]; omega)); (case hc => first | rfl | assumption | omega | (simp only [List.length_cons, List.length_nil, List.length_append, List.length_map, List.length_replicate, List.length_take, List.length_drop, hlen, List.length_map] <;> omega) | (constructor <;> (simp only [List.length_cons, List.length_nil, List.length_append, List.length_map, List.length_replicate, List.length_take, List.length_drop, hlen, List.length_map] <;> omega)) | (constructor <;> omega) | (simp [elemsK, D.isVal, D.cells, D.closedL, D.closed, hlen, List.length_map]; done) | (simp [elemsK, D.isVal, D.cells, D.closedL, D.closed, hlen, List.length_map]; omega)); (case hr => first | rfl | assumption | omega | (simp only [List.length_cons, List.length_nil, List.length_append, List.length_map, List.length_replicate, List.length_take, List.length_drop, hlen, List.length_map] <;> omega) | (constructor <;> (simp only [List.length_cons, List.length_nil, List.length_append, List.length_map, List.length_replicate, List.length_take, List.length_drop, hlen, List.length_map] <;> omega)) | (constructor <;> omega) | (simp [elemsK, D.isVal, D.cells, D.closedL, D.closed, hlen, List.length_map]; done) | (simp [elemsK, D.isVal, D.cells, D.closedL, D.closed, hlen, List.length_map]; omega)))
    | ((with_reducible apply s_appF); (case he => rfl); (case hK => first | rfl | assumption | omega | (simp only [List.length_cons, List.length_nil, List.length_append, List.length_map, List.length_replicate, List.length_take, List.length_drop, hlen, List.length_map] <;> omega) | (constructor <;> (simp only [List.length_cons, List.length_nil, List.length_append, List.length_map, List.length_replicate, List.length_take, List.length_drop, hlen, List.length_map] <;> omega)) | (constructor <;> omega) | (simp [elemsK, D.isVal, D.cells, D.closedL, D.closed, hlen, List.length_map]; done) | (simp [elemsK, D.isVal, D.cells, D.closedL, D.closed, hlen, List.length_map]; omega)); (case hc => first | rfl | assumption | omega | (simp only [List.length_cons, List.length_nil, List.length_append, List.length_map, List.length_replicate, List.length_take, List.length_drop, hlen, List.length_map] <;> omega) | (constructor <;> (simp only [List.length_cons, List.length_nil, List.length_append, List.length_map, List.length_replicate, List.length_take, List.length_drop, hlen, List.length_map] <;> omega)) | (constructor <;> omega) | (simp [elemsK, D.isVal, D.cells, D.closedL, D.closed, hlen, List.length_map]; done) | (simp [elemsK, D.isVal, D.cells, D.closedL, D.closed, hlen, List.length_map]; omega)); (case hr => first | rfl | assumption | omega | (simp only [List.length_cons, List.length_nil, List.length_append, List.length_map, List.length_replicate, List.length_take, List.length_drop, hlen, List.length_map] <;> omega) | (constructor <;> (simp only [List.length_cons, List.length_nil, List.length_append, List.length_map, List.length_replicate, List.length_take, List.length_drop, hlen, List.length_map] <;> omega)) | (constructor <;> omega) | (simp [elemsK, D.isVal, D.cells, D.closedL, D.closed, hlen, List.length_map]; done) | (simp [elemsK, D.isVal, D.cells, D.closedL, D.closed, hlen, List.length_map]; omega)); (case hx => first | rfl | assumption | omega | (simp only [List.length_cons, List.length_nil, List.length_append, List.length_map, List.length_replicate, List.length_take, List.length_drop, hlen, List.length_map] <;> omega) | (constructor <;> (simp only [List.length_cons, List.length_nil, List.length_append, List.length_map, List.length_replicate, List.length_take, List.length_drop, hlen, List.length_map] <;> omega)) | (constructor <;> omega) | (simp [elemsK, D.isVal, D.cells, D.closedL, D.closed, hlen, List.length_map]; done) | (simp [elemsK, D.isVal, D.cells, D.closedL, D.closed, hlen, List.length_map]; omega)); (case hn => first | rfl | assumption | omega | (simp only [List.length_cons, List.length_nil, List.length_append, List.length_map, List.length_replicate, List.length_take, List.length_drop, hlen, List.length_map] <;> omega) | (constructor <;> (simp only [List.length_cons, List.length_nil, List.length_append, List.length_map, List.length_replicate, List.length_take, List.length_drop, hlen, List.length_map] <;> omega)) | (constructor <;> omega) | (simp [elemsK, D.isVal, D.cells, D.closedL, D.closed, hlen, List.length_map]; done) | (simp [elemsK, D.isVal, D.cells, D.closedL, D.closed, hlen, List.length_map]; omega)))
    | ((with_reducible apply s_bsl); (case he => first | rfl | assumption | omega | (simp only [List.length_cons, List.length_nil, List.length_append, List.length_map, List.length_replicate, List.length_take, List.length_drop, hlen, List.length_map] <;> omega) | (constructor <;> (simp only [List.length_cons, List.length_nil, List.length_append, List.length_map, List.length_replicate, List.length_take, List.length_drop, hlen, List.length_map] <;> omega)) | (constructor <;> omega) | (simp [elemsK, D.isVal, D.cells, D.closedL, D.closed, hlen, List.length_map]; done) | (simp [elemsK, D.isVal, D.cells, D.closedL, D.closed, hlen, List.length_map]; omega)); (case hl => first | rfl | assumption | omega | (simp only [List.length_cons, List.length_nil, List.length_append, List.length_map, List.length_replicate, List.length_take, List.length_drop, hlen, List.length_map] <;> omega) | (constructor <;> (simp only [List.length_cons, List.length_nil, List.length_append, List.length_map, List.length_replicate, List.length_take, List.length_drop, hlen, List.length_map] <;> omega)) | (constructor <;> omega) | (simp [elemsK, D.isVal, D.cells, D.closedL, D.closed, hlen, List.length_map]; done) | (simp [elemsK, D.isVal, D.cells, D.closedL, D.closed, hlen, List.length_map]; omega)); (case hc => first | rfl | assumption | omega | (simp only [List.length_cons, List.length_nil, List.length_append, List.length_map, List.length_replicate, List.length_take, List.length_drop, hlen, List.length_map] <;> omega) | (constructor <;> (simp only [List.length_cons, List.length_nil, List.length_append, List.length_map, List.length_replicate, List.length_take, List.length_drop, hlen, List.length_map] <;> omega)) | (constructor <;> omega) | (simp [elemsK, D.isVal, D.cells, D.closedL, D.closed, hlen, List.length_map]; done) | (simp [elemsK, D.isVal, D.cells, D.closedL, D.closed, hlen, List.length_map]; omega)))
    | with_reducible apply cd_dec
    | with_reducible apply cd_eq
    | with_reducible apply cd_ne
    | with_reducible apply cd_split
    | with_reducible apply gd_dec
    | with_reducible apply gd_eq
    | with_reducible apply gd_ne
    | with_reducible apply gd_split
    | with_reducible apply gq_dec
    | with_reducible apply gq_eq
    | with_reducible apply gq_ne
    | with_reducible apply gq_split
    | ((with_reducible refine And.intro ?hw ?_); (case hw => first | omega | rfl | exact ⟨_, _, rfl⟩ | assumption | (simp only [List.length_cons, List.length_nil, List.length_append, List.length_map, List.length_replicate, List.length_take, List.length_drop, hlen, List.length_map] <;> omega)))
    | with_reducible intro _)
      all_goals first
        | omega
        | contradiction
        | (simp [D.closed, D.er]; done)
        | (refine ⟨i + 1, ⟨by omega, hnext (by omega) (by omega)⟩, by omega, ?_⟩; simp [keepE, St.keep, ils, Nat.min_eq_left g1]; done)
        | skip
    · have e : i = ws.length := by omega
      subst e
      rw [List.take_length] at g2 ⊢
      have c1 := split_p n ws (by omega) hn
      have c2 := split_p n (ws.map (m * ·)) (by simpa using (show ws.length < 1000000 by omega)) hn
      rw [spl_scale hm2.1 hl g2] at c2
      have hls : (spl n ws).1.length < 1000000 := by
        unfold spl; split
        · rw [shr_len]; omega
        · simp
      have c3 := ints_p (spl n ws).1 (spl n ws).1 hls hls
      simp only [decide_true] at c3
      generalize spl n ws = A at *
      have her : D.erL [.int .i64 n, .slice (ils (ws.map (m * ·))) (.tok 0)] = [.int .i64 n, .slice (ils (ws.map (m * ·))) .no] := by simp [D.erL, D.er]
      repeat' (first
    | with_reducible apply swp_seq
    | with_reducible apply swp_reg
    | with_reducible apply swp_regD
    | with_reducible apply swp_block
    | with_reducible apply swp_exit
    | with_reducible apply swp_ret
    | with_reducible apply swp_skip
    | with_reducible apply swp_cd
    | simp only [go_sem, Nat.reduceAdd, Nat.reduceSub, Nat.reduceMul, Nat.reduceEqDiff, Nat.reduceLeDiff, Nat.reduceLT, Int.reduceEq, Int.reduceNe, Int.reduceLT, Int.reduceLE, Int.reduceAdd, Int.reduceSub, Int.reduceMul, Int.reduceNeg, Int.reduceToNat, Int.reduceTDiv, Int.reduceTMod, Int.reduceBEq, Int.reduceBNe, decide_true, decide_false, reduceCtorEq, reduceIte, P5, q5, List.length_map, beq_self_eq_true]
    | simp (disch := omega) only [w64, w32, wu8, wu16, wu32, wu64]
    | ((with_reducible refine o_call (c1) ?he ?hc ?_); (case he => first | rfl | (simp [D.erL, D.er]; done)); (case hc => first | rfl | (simp [D.closedL, D.closed]; done)))
    | ((with_reducible refine o_call (c2) ?he ?hc ?_); (case he => first | rfl | (simp [D.erL, D.er]; done)); (case hc => first | rfl | (simp [D.closedL, D.closed]; done)))
    | ((with_reducible refine o_call (c3) ?he ?hc ?_); (case he => first | rfl | (simp [D.erL, D.er]; done)); (case hc => first | rfl | (simp [D.closedL, D.closed]; done)))
    | ((with_reducible apply s_appT); (case he => rfl); (case hK => first | rfl | assumption | omega | (simp only [List.length_cons, List.length_nil, List.length_append, List.length_map, List.length_replicate, List.length_take, List.length_drop] <;> omega) | (constructor <;> (simp only [List.length_cons, List.length_nil, List.length_append, List.length_map, List.length_replicate, List.length_take, List.length_drop] <;> omega)) | (constructor <;> omega) | (simp [elemsK, D.isVal, D.cells, D.closedL, D.closed]; done) | (simp [elemsK, D.isVal, D.cells, D.closedL, D.closed]; omega)); (case hc => first | rfl | assumption | omega | (simp only [List.length_cons, List.length_nil, List.length_append, List.length_map, List.length_replicate, List.length_take, List.length_drop] <;> omega) | (constructor <;> (simp only [List.length_cons, List.length_nil, List.length_append, List.length_map, List.length_replicate, List.length_take, List.length_drop] <;> omega)) | (constructor <;> omega) | (simp [elemsK, D.isVal, D.cells, D.closedL, D.closed]; done) | (simp [elemsK, D.isVal, D.cells, D.closedL, D.closed]; omega)); (case hr => first | rfl | assumption | omega | (simp only [List.length_cons, List.length_nil, List.length_append, List.length_map, List.length_replicate, List.length_take, List.length_drop] <;> omega) | (constructor <;> (simp only [List.length_cons, List.length_nil, List.length_append, List.length_map, List.length_replicate, List.length_take, List.length_drop] <;> omega)) | (constructor <;> omega) | (simp [elemsK, D.isVal, D.cells, D.closedL, D.closed]; done) | (simp [elemsK, D.isVal, D.cells, D.closedL, D.closed]; omega)); (case hV => first | rfl | assumption | omega | (simp only [List.length_cons, List.length_nil, List.length_append, List.length_map, List.length_replicate, List.length_take, List.length_drop] <;> omega) | (constructor <;> (simp only [List.length_cons, List.length_nil, List.length_append, List.length_map, List.length_replicate, List.length_take, List.length_drop] <;> omega)) | (constructor <;> omega) | (simp [elemsK, D.isVal, D.cells, D.closedL, D.closed]; done) | (simp [elemsK, D.isVal, D.cells, D.closedL, D.closed]; omega)))
    | ((with_reducible apply s_appG); (case he => rfl); (case hV => first | rfl | assumption | omega | (simp only [List.length_cons, List.length_nil, List.length_append, List.length_map, List.length_replicate, List.length_take, List.length_drop] <;> omega) | (constructor <;> (simp only [List.length_cons, List.length_nil, List.length_append, List.length_map, List.length_replicate, List.length_take, List.length_drop] <;> omega)) | (constructor <;> omega) | (simp [elemsK, D.isVal, D.cells, D.closedL, D.closed]; done) | (simp [elemsK, D.isVal, D.cells, D.closedL, D.closed]; omega)); (case hK => first | rfl | assumption | omega | (simp only [List.length_cons, List.length_nil, List.length_append, List.length_map, List.length_replicate, List.length_take, List.length_drop] <;> omega) | (constructor <;> (simp only [List.length_cons, List.length_nil, List.length_append, List.length_map, List.length_replicate, List.length_take, List.length_drop] <;> omega)) | (constructor <;> omega) | (simp [elemsK, D.isVal, D.cells, D.closedL, D.closed]; done) | (simp [elemsK, D.isVal, D.cells, D.closedL, D.closed]; omega)); (case hr => first | rfl | assumption | omega | (simp only [List.length_cons, List.length_nil, List.length_append, List.length_map, List.length_replicate, List.length_take, List.length_drop] <;> omega) | (constructor <;> (simp only [List.length_cons, List.length_nil, List.length_append, List.length_map, List.length_replicate, List.length_take, List.length_drop] <;> omega)) | (constructor <;> omega) | (simp [elemsK, D.isVal, D.cells, D.closedL, D.closed]; done) | (simp [elemsK, D.isVal, D.cells, D.closedL, D.closed]; omega)); (case hl => first | rfl | assumption | omega | (simp only [List.length_cons, List.length_nil, List.length_append, List.length_map, List.length_replicate, List.length_take, List.length_drop] <;> omega) | (constructor <;> (simp only [List.length_cons, List.length_nil, List.length_append, List.length_map, List.length_replicate, List.length_take, List.length_drop] <;> omega)) | (constructor <;> omega) | (simp [elemsK, D.isVal, D.cells, D.closedL, D.closed]; done) | (simp [elemsK, D.isVal, D.cells, D.closedL, D.closed]; omega)))
    | ((with_reducible apply s_app0); (case he => rfl); (case hK => first | rfl | assumption | omega | (simp only [List.length_cons, List.length_nil, List.length_append, List.length_map, List.length_replicate, List.length_take, List.length_drop] <;> omega) | (constructor <;> (simp only [List.length_cons, List.length_nil, List.length_append, List.length_map, List.length_replicate, List.length_take, List.length_drop] <;> omega)) | (constructor <;> omega) | (simp [elemsK, D.isVal, D.cells, D.closedL, D.closed]; done) | (simp [elemsK, D.isVal, D.cells, D.closedL, D.closed]; omega)); (case hc => first | rfl | assumption | omega | (simp only [List.length_cons, List.length_nil, List.length_append, List.length_map, List.length_replicate, List.length_take, List.length_drop] <;> omega) | (constructor <;> (simp only [List.length_cons, List.length_nil, List.length_append, List.length_map, List.length_replicate, List.length_take, List.length_drop] <;> omega)) | (constructor <;> omega) | (simp [elemsK, D.isVal, D.cells, D.closedL, D.closed]; done) | (simp [elemsK, D.isVal, D.cells, D.closedL, D.closed]; omega)); (case hr => first | rfl | assumption | omega | (simp only [List.length_cons, List.length_nil, List.length_append, List.length_map, List.length_replicate, List.length_take, List.length_drop] <;> omega) | (constructor <;> (simp only [List.length_cons, List.length_nil, List.length_append, List.length_map, List.length_replicate, List.length_take, List.length_drop] <;> omega)) | (constructor <;> omega) | (simp [elemsK, D.isVal, D.cells, D.closedL, D.closed]; done) | (simp [elemsK, D.isVal, D.cells, D.closedL, D.closed]; omega)))
    | ((with_reducible apply s_appF); (case he => rfl); (case hK => first | rfl | assumption | omega | (simp only [List.length_cons, List.length_nil, List.length_append, List.length_map, List.length_replicate, List.length_take, List.length_drop] <;> omega) | (constructor <;> (simp only [List.length_cons, List.length_nil, List.length_append, List.length_map, List.length_replicate, List.length_take, List.length_drop] <;> omega)) | (constructor <;> omega) | (simp [elemsK, D.isVal, D.cells, D.closedL, D.closed]; done) | (simp [elemsK, D.isVal, D.cells, D.closedL, D.closed]; omega)); (case hc => first | rfl | assumption | omega | (simp only [List.length_cons, List.length_nil, List.length_append, List.length_map, List.length_replicate, List.length_take, List.length_drop] <;> omega) | (constructor <;> (simp only [List.length_cons, List.length_nil, List.length_append, List.length_map, List.length_replicate, List.length_take, List.length_drop] <;> omega)) | (constructor <;> omega) | (simp [elemsK, D.isVal, D.cells, D.closedL, D.closed]; done) | (simp [elemsK, D.isVal, D.cells, D.closedL, D.closed]; omega)); (case hr => first | rfl | assumption | omega | (simp only [List.length_cons, List.length_nil, List.length_append, List.length_map, List.length_replicate, List.length_take, List.length_drop] <;> omega) | (constructor <;> (simp only [List.length_cons, List.length_nil, List.length_append, List.length_map, List.length_replicate, List.length_take, List.length_drop] <;> omega)) | (constructor <;> omega) | (simp [elemsK, D.isVal, D.cells, D.closedL, D.closed]; done) | (simp [elemsK, D.isVal, D.cells, D.closedL, D.closed]; omega)); (case hx => first | rfl | assumption | omega | (simp only [List.length_cons, List.length_nil, List.length_append, List.length_map, List.length_replicate, List.length_take, List.length_drop] <;> omega) | (constructor <;> (simp only [List.length_cons, List.length_nil, List.length_append, List.length_map, List.length_replicate, List.length_take, List.length_drop] <;> omega)) | (constructor <;> omega) | (simp [elemsK, D.isVal, D.cells, D.closedL, D.closed]; done) | (simp [elemsK, D.isVal, D.cells, D.closedL, D.closed]; omega)); (case hn => first | rfl | assumption | omega | (simp only [List.length_cons, List.length_nil, List.length_append, List.length_map, List.length_replicate, List.length_take, List.length_drop] <;> omega) | (constructor <;> (simp only [List.length_cons, List.length_nil, List.length_append, List.length_map, List.length_replicate, List.length_take, List.length_drop] <;> omega)) | (constructor <;> omega) | (simp [elemsK, D.isVal, D.cells, D.closedL, D.closed]; done) | (simp [elemsK, D.isVal, D.cells, D.closedL, D.closed]; omega)))
    | ((with_reducible apply s_bsl); (case he => first | rfl | assumption | omega | (simp only [List.length_cons, List.length_nil, List.length_append, List.length_map, List.length_replicate, List.length_take, List.length_drop] <;> omega) | (constructor <;> (simp only [List.length_cons, List.length_nil, List.length_append, List.length_map, List.length_replicate, List.length_take, List.length_drop] <;> omega)) | (constructor <;> omega) | (simp [elemsK, D.isVal, D.cells, D.closedL, D.closed]; done) | (simp [elemsK, D.isVal, D.cells, D.closedL, D.closed]; omega)); (case hl => first | rfl | assumption | omega | (simp only [List.length_cons, List.length_nil, List.length_append, List.length_map, List.length_replicate, List.length_take, List.length_drop] <;> omega) | (constructor <;> (simp only [List.length_cons, List.length_nil, List.length_append, List.length_map, List.length_replicate, List.length_take, List.length_drop] <;> omega)) | (constructor <;> omega) | (simp [elemsK, D.isVal, D.cells, D.closedL, D.closed]; done) | (simp [elemsK, D.isVal, D.cells, D.closedL, D.closed]; omega)); (case hc => first | rfl | assumption | omega | (simp only [List.length_cons, List.length_nil, List.length_append, List.length_map, List.length_replicate, List.length_take, List.length_drop] <;> omega) | (constructor <;> (simp only [List.length_cons, List.length_nil, List.length_append, List.length_map, List.length_replicate, List.length_take, List.length_drop] <;> omega)) | (constructor <;> omega) | (simp [elemsK, D.isVal, D.cells, D.closedL, D.closed]; done) | (simp [elemsK, D.isVal, D.cells, D.closedL, D.closed]; omega)))
    | with_reducible apply cd_dec
    | with_reducible apply cd_eq
    | with_reducible apply cd_ne
    | with_reducible apply cd_split
    | with_reducible apply gd_dec
    | with_reducible apply gd_eq
    | with_reducible apply gd_ne
    | with_reducible apply gd_split
    | with_reducible apply gq_dec
    | with_reducible apply gq_eq
    | with_reducible apply gq_ne
    | with_reducible apply gq_split
    | ((with_reducible refine And.intro ?hw ?_); (case hw => first | omega | rfl | exact ⟨_, _, rfl⟩ | assumption | (simp only [List.length_cons, List.length_nil, List.length_append, List.length_map, List.length_replicate, List.length_take, List.length_drop] <;> omega)))
    | with_reducible intro _)
      all_goals first
        | omega
        | contradiction
        | (simp [D.closed, D.er]; done)
        | skip
end Go.Proofs.YtniglomooepbcaaDoor
