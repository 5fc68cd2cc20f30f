/- The laws of money: percentages. Own work. -/
import Derived.Test.YtniglomooepbcaaDoorMk
import Derived.Test.YtniglomooepbcaaDoorMn
set_option maxRecDepth 100000
set_option linter.unusedSimpArgs false
set_option linter.unusedVariables false
namespace Go.Proofs.YtniglomooepbcaaDoor
open Go GoV

/-- A hundredth, rounded. -/
def rd (m : Int) : Int := m / 100 + (if m % 100 > 50 ∨ m % 100 = 50 ∧ m / 100 % 2 = 1 then 1 else 0)

theorem pct_ok {n p : Int} (h : 0 ≤ n ∧ n ≤ 1000000000000 ∧ 0 ≤ p ∧ p ≤ 100) : pct n p = (rd (n * p), 0) := by
  unfold pct rd; rw [if_pos h]
theorem pct_no {n p : Int} (h : ¬(0 ≤ n ∧ n ≤ 1000000000000 ∧ 0 ≤ p ∧ p ≤ 100)) : pct n p = (0, 1) := by
  unfold pct; rw [if_neg h]
theorem rd_near (m : Int) : 100 * rd m - m ≤ 50 ∧ -50 ≤ 100 * rd m - m := by
  unfold rd; split <;> omega
theorem rd_mono {m m' : Int} (h : m ≤ m') : rd m ≤ rd m' := by
  unfold rd; split <;> split <;> omega
theorem rd_all (a : Int) : rd (a * 100) = a := by
  unfold rd; split <;> omega
theorem rd_none : rd 0 = 0 := by decide

/-- What the law says about another amount or percentage. -/
theorem pct_other {a o p : Int} (h : 0 ≤ a ∧ a ≤ 1000000000000 ∧ 0 ≤ p ∧ p ≤ 100) : (pct o p).2 = 0 → (a ≤ o → rd (a * p) ≤ (pct o p).1) ∧ (o ≤ a → (pct o p).1 ≤ rd (a * p)) := by
  intro h2
  by_cases hg : 0 ≤ o ∧ o ≤ 1000000000000 ∧ 0 ≤ p ∧ p ≤ 100
  · rw [pct_ok hg]
    exact ⟨fun q => rd_mono (Int.mul_le_mul_of_nonneg_right q h.2.2.1), fun q => rd_mono (Int.mul_le_mul_of_nonneg_right q h.2.2.1)⟩
  · rw [pct_no hg] at h2; simp at h2
theorem pct_more {a q p : Int} (h : 0 ≤ a ∧ a ≤ 1000000000000 ∧ 0 ≤ p ∧ p ≤ 100) : (pct a q).2 = 0 → (p ≤ q → rd (a * p) ≤ (pct a q).1) ∧ (q ≤ p → (pct a q).1 ≤ rd (a * p)) := by
  intro h2
  by_cases hg : 0 ≤ a ∧ a ≤ 1000000000000 ∧ 0 ≤ q ∧ q ≤ 100
  · rw [pct_ok hg]
    exact ⟨fun r => rd_mono (Int.mul_le_mul_of_nonneg_left r h.1), fun r => rd_mono (Int.mul_le_mul_of_nonneg_left r h.1)⟩
  · rw [pct_no hg] at h2; simp at h2

set_option maxHeartbeats 4000000 in
theorem l6_p (a o p q : Int) (ha : -9223372036854775808 ≤ a ∧ a ≤ 9223372036854775807) (ho : -9223372036854775808 ≤ o ∧ o ≤ 9223372036854775807)
    (hp : -9223372036854775808 ≤ p ∧ p ≤ 9223372036854775807) (hq : -9223372036854775808 ≤ q ∧ q ≤ 9223372036854775807) :
    Pur M 6 [.int .i64 a, .int .i64 o, .int .i64 p, .int .i64 q] (.bool true) := by
  refine ok6 rfl ?_
  rw [i6]
  unfold c6
  by_cases hg : 0 ≤ a ∧ a ≤ 1000000000000 ∧ 0 ≤ p ∧ p ≤ 100
  · obtain ⟨g1, g2, g3, g4⟩ := id hg
    have c1 := pct_p a p
    have c2 := pct_p a (100 - p)
    have c3 := pct_p a 0
    have c4 := pct_p a 100
    have c5 := pct_p o p
    have c6 := pct_p a q
    have e1 := pct_other (o := o) hg
    have e2 := pct_more (q := q) hg
    rw [pct_ok hg] at c1
    rw [pct_ok (n := a) (p := 100 - p) ⟨g1, g2, by omega, by omega⟩] at c2
    rw [pct_ok (n := a) (p := 0) ⟨g1, g2, by omega, by omega⟩, Int.mul_zero, rd_none] at c3
    rw [pct_ok (n := a) (p := 100) ⟨g1, g2, by omega, by omega⟩, rd_all] at c4
    have n1 := rd_near (a * p)
    have n2 := rd_near (a * (100 - p))
    rw [Int.mul_sub] at n2 c2
    have m0 : 0 ≤ a * p := Int.mul_nonneg g1 g3
    have m1 : a * p ≤ 100000000000000 := by
      have h1 := Int.mul_le_mul_of_nonneg_left g4 g1
      omega
    generalize hm : a * p = m at *
    generalize rd m = v at *
    generalize rd (a * 100 - m) = u at *
    generalize pct o p = B0 at *
    generalize pct a q = E0 at *
    repeat' (first
    | with_reducible apply swp_seq
    | with_reducible apply swp_reg
    | with_reducible apply swp_regD
    | with_reducible apply swp_block
    | with_reducible apply swp_exit
    | with_reducible apply swp_ret
    | with_reducible apply swp_skip
    | with_reducible apply swp_cd
    | simp only [go_sem, Nat.reduceAdd, Nat.reduceSub, Nat.reduceMul, Nat.reduceEqDiff, Nat.reduceLeDiff, Nat.reduceLT, Int.reduceEq, Int.reduceNe, Int.reduceLT, Int.reduceLE, Int.reduceAdd, Int.reduceSub, Int.reduceMul, Int.reduceNeg, Int.reduceToNat, Int.reduceTDiv, Int.reduceTMod, Int.reduceBEq, Int.reduceBNe, decide_true, decide_false, reduceCtorEq, reduceIte, P6, q6, beq_self_eq_true, hm]
    | simp (disch := omega) only [w64, w32, wu8, wu16, wu32, wu64]
    | ((with_reducible refine o_call (head_p) ?he ?hc ?_); (case he => first | rfl | (simp [D.erL, D.er]; done)); (case hc => first | rfl | (simp [D.closedL, D.closed]; done)))
    | ((with_reducible refine o_call (c1) ?he ?hc ?_); (case he => first | rfl | (simp [D.erL, D.er]; done)); (case hc => first | rfl | (simp [D.closedL, D.closed]; done)))
    | ((with_reducible refine o_call (c2) ?he ?hc ?_); (case he => first | rfl | (simp [D.erL, D.er]; done)); (case hc => first | rfl | (simp [D.closedL, D.closed]; done)))
    | ((with_reducible refine o_call (c3) ?he ?hc ?_); (case he => first | rfl | (simp [D.erL, D.er]; done)); (case hc => first | rfl | (simp [D.closedL, D.closed]; done)))
    | ((with_reducible refine o_call (c4) ?he ?hc ?_); (case he => first | rfl | (simp [D.erL, D.er]; done)); (case hc => first | rfl | (simp [D.closedL, D.closed]; done)))
    | ((with_reducible refine o_call (c5) ?he ?hc ?_); (case he => first | rfl | (simp [D.erL, D.er]; done)); (case hc => first | rfl | (simp [D.closedL, D.closed]; done)))
    | ((with_reducible refine o_call (c6) ?he ?hc ?_); (case he => first | rfl | (simp [D.erL, D.er]; done)); (case hc => first | rfl | (simp [D.closedL, D.closed]; done)))
    | with_reducible apply cd_dec
    | with_reducible apply cd_eq
    | with_reducible apply cd_ne
    | with_reducible apply cd_split
    | with_reducible apply gd_dec
    | with_reducible apply gd_eq
    | with_reducible apply gd_ne
    | with_reducible apply gd_split
    | ((with_reducible refine And.intro ?hw ?_); (case hw => first | omega | rfl | exact ⟨_, _, rfl⟩ | assumption | (simp only [List.length_cons, List.length_nil, List.length_append, List.length_map, List.length_replicate, List.length_take, List.length_drop] <;> omega)))
    | with_reducible intro _)
    all_goals first
      | omega
      | contradiction
      | (simp [D.closed, D.er]; done)
      | (simp [D.closed, D.er]; omega)
      | (exfalso; clear e1 e2; simp at *; omega)
  · have c1 := pct_p a p
    rw [pct_no hg] at c1
    repeat' (first
    | with_reducible apply swp_seq
    | with_reducible apply swp_reg
    | with_reducible apply swp_regD
    | with_reducible apply swp_block
    | with_reducible apply swp_exit
    | with_reducible apply swp_ret
    | with_reducible apply swp_skip
    | with_reducible apply swp_cd
    | simp only [go_sem, Nat.reduceAdd, Nat.reduceSub, Nat.reduceMul, Nat.reduceEqDiff, Nat.reduceLeDiff, Nat.reduceLT, Int.reduceEq, Int.reduceNe, Int.reduceLT, Int.reduceLE, Int.reduceAdd, Int.reduceSub, Int.reduceMul, Int.reduceNeg, Int.reduceToNat, Int.reduceTDiv, Int.reduceTMod, Int.reduceBEq, Int.reduceBNe, decide_true, decide_false, reduceCtorEq, reduceIte, P6, q6, beq_self_eq_true]
    | simp (disch := omega) only [w64, w32, wu8, wu16, wu32, wu64]
    | ((with_reducible refine o_call (head_p) ?he ?hc ?_); (case he => first | rfl | (simp [D.erL, D.er]; done)); (case hc => first | rfl | (simp [D.closedL, D.closed]; done)))
    | ((with_reducible refine o_call (c1) ?he ?hc ?_); (case he => first | rfl | (simp [D.erL, D.er]; done)); (case hc => first | rfl | (simp [D.closedL, D.closed]; done)))
    | with_reducible apply cd_dec
    | with_reducible apply cd_eq
    | with_reducible apply cd_ne
    | with_reducible apply cd_split
    | with_reducible apply gd_dec
    | with_reducible apply gd_eq
    | with_reducible apply gd_ne
    | with_reducible apply gd_split
    | ((with_reducible refine And.intro ?hw ?_); (case hw => first | omega | rfl | exact ⟨_, _, rfl⟩ | assumption | (simp only [List.length_cons, List.length_nil, List.length_append, List.length_map, List.length_replicate, List.length_take, List.length_drop] <;> omega)))
    | with_reducible intro _)
    all_goals first
      | omega
      | contradiction
      | (simp [D.closed, D.er]; done)
      | (exfalso; simp at *; omega)
end Go.Proofs.YtniglomooepbcaaDoor
