/- What the reference functions of the day compute: the walks, second part: Date. Own work. -/
import Derived.Test.YtapoplenfgjcjaaDoorRw
set_option maxRecDepth 100000
set_option linter.unusedSimpArgs false
set_option linter.unusedVariables false
namespace Go.Proofs.YtapoplenfgjcjaaDoor
open Go GoV

theorem rdate_p (n : Int) : Pur M 12 [.int .i64 n] (.tup [.int .i64 (dat n).1, .int .i64 (dat n).2.1, .int .i64 (dat n).2.2, .int .i64 (dayE n)]) := by
  refine ok12 rfl ?_
  rw [i12]
  unfold c12
  by_cases h : 0 ≤ n ∧ n ≤ 40000
  case neg =>
    have e : dayE n = 13 := by unfold dayE; rw [if_neg h]
    have e1 : decide (0 ≤ n ∧ n ≤ 40000) = false := decide_eq_false h
    rw [dat_out h, e]
    repeat' (first
    | with_reducible apply swp_seq
    | with_reducible apply swp_reg
    | with_reducible apply swp_regD
    | with_reducible apply swp_block
    | with_reducible apply swp_exit
    | with_reducible apply swp_ret
    | with_reducible apply swp_skip
    | with_reducible apply swp_cd
    | simp only [go_sem, Nat.reduceAdd, Nat.reduceSub, Nat.reduceMul, Nat.reduceEqDiff, Nat.reduceLeDiff, Nat.reduceLT, Int.reduceEq, Int.reduceNe, Int.reduceLT, Int.reduceLE, Int.reduceAdd, Int.reduceSub, Int.reduceMul, Int.reduceNeg, Int.reduceToNat, Int.reduceTDiv, Int.reduceTMod, Int.reduceBEq, Int.reduceBNe, decide_true, decide_false, reduceCtorEq, reduceIte, P12, q12, e1, Bool.not_false]
    | simp (disch := omega) only [w64, w32, wu8, wu16, wu32, wu64]
    | ((with_reducible refine o_call (is_p n) ?he ?hc ?_); (case he => first | rfl | (simp [D.erL, D.er]; done)); (case hc => first | rfl | (simp [D.closedL, D.closed]; done)))
    | with_reducible apply cd_dec
    | with_reducible apply cd_eq
    | with_reducible apply cd_ne
    | with_reducible apply cd_split
    | ((with_reducible refine And.intro ?hw ?_); (case hw => first | omega | rfl | exact ⟨_, _, rfl⟩ | assumption | (simp only [List.length_cons, List.length_nil, List.length_append, List.length_map, List.length_replicate, List.length_take, List.length_drop] <;> omega)))
    | with_reducible intro _)
    all_goals simp [D.closed, D.er, D.closedL, D.erL]
  case pos =>
    have e : dayE n = 0 := by unfold dayE; rw [if_pos h]
    have e1 : decide (0 ≤ n ∧ n ≤ 40000) = true := decide_eq_true h
    rw [e]
    repeat' (first
    | with_reducible apply swp_seq
    | with_reducible apply swp_reg
    | with_reducible apply swp_regD
    | with_reducible apply swp_block
    | with_reducible apply swp_exit
    | with_reducible apply swp_ret
    | with_reducible apply swp_skip
    | with_reducible apply swp_cd
    | simp only [go_sem, Nat.reduceAdd, Nat.reduceSub, Nat.reduceMul, Nat.reduceEqDiff, Nat.reduceLeDiff, Nat.reduceLT, Int.reduceEq, Int.reduceNe, Int.reduceLT, Int.reduceLE, Int.reduceAdd, Int.reduceSub, Int.reduceMul, Int.reduceNeg, Int.reduceToNat, Int.reduceTDiv, Int.reduceTMod, Int.reduceBEq, Int.reduceBNe, decide_true, decide_false, reduceCtorEq, reduceIte, P12, q12, e1, Bool.not_true]
    | simp (disch := omega) only [w64, w32, wu8, wu16, wu32, wu64]
    | ((with_reducible refine o_call (is_p n) ?he ?hc ?_); (case he => first | rfl | (simp [D.erL, D.er]; done)); (case hc => first | rfl | (simp [D.closedL, D.closed]; done)))
    | with_reducible apply cd_dec
    | with_reducible apply cd_eq
    | with_reducible apply cd_ne
    | with_reducible apply cd_split
    | ((with_reducible refine And.intro ?hw ?_); (case hw => first | omega | rfl | exact ⟨_, _, rfl⟩ | assumption | (simp only [List.length_cons, List.length_nil, List.length_append, List.length_map, List.length_replicate, List.length_take, List.length_drop] <;> omega)))
    | with_reducible intro _)
    refine swp_fam [0, 1, 2, 3, 4, 5, 6] (fun p : Int × Int => ⟨[.int .i64 (n - jan p.1 - cum p.1 p.2), .int .i64 0, .int .i64 0, .int .i64 0, .int .i64 0, .int .i64 p.1, .int .i64 p.2, .undef, .undef, .undef], [], ⟨[], []⟩⟩)
      (fun p => 2000 ≤ p.1 ∧ 1 ≤ p.2 ∧ p.2 ≤ 12 ∧ jan p.1 + cum p.1 p.2 ≤ n) (fun p => (n - jan p.1 - cum p.1 p.2).toNat) (2000, 1) ⟨by decide, by decide, by decide, ?_⟩ ?_ ?_
    · have : jan 2000 + cum 2000 1 = 0 := by decide
      simp only [this]; exact h.1
    · have : jan 2000 = 0 := by decide
      simp [keepE, St.keep, cum, this]
    · rintro ⟨y, m⟩ ⟨g1, g2, g3, g4⟩
      simp only at g1 g2 g3 g4 ⊢
      have c1 := cum_le y g2 g3
      have c2 := mlen_le y m
      have c3 := mlen_le (y + 1) 1
      have j1 : 0 ≤ jan y := by
        have := jan_mono (y := 2000) (y' := y) g1
        have e : jan 2000 = 0 := by decide
        omega
      have y1 : y ≤ 2109 := by
        rcases Int.lt_or_le 2109 y with g | g
        · have := jan_mono (y := 2110) (y' := y) (by omega)
          have e : jan 2110 = 40177 := by decide
          omega
        · exact g
      have hs := cum_succ y (m := m) g2
      have hl := cum_last y
      have hj := jan_succ (y := y) (by omega)
      have h31 : mlen y 12 = 31 := by simp [mlen]
      have h0 : cum (y + 1) 1 = 0 := by simp [cum]
      repeat' (first
    | with_reducible apply swp_seq
    | with_reducible apply swp_reg
    | with_reducible apply swp_regD
    | with_reducible apply swp_block
    | with_reducible apply swp_exit
    | with_reducible apply swp_ret
    | with_reducible apply swp_skip
    | with_reducible apply swp_cd
    | simp only [go_sem, Nat.reduceAdd, Nat.reduceSub, Nat.reduceMul, Nat.reduceEqDiff, Nat.reduceLeDiff, Nat.reduceLT, Int.reduceEq, Int.reduceNe, Int.reduceLT, Int.reduceLE, Int.reduceAdd, Int.reduceSub, Int.reduceMul, Int.reduceNeg, Int.reduceToNat, Int.reduceTDiv, Int.reduceTMod, Int.reduceBEq, Int.reduceBNe, decide_true, decide_false, reduceCtorEq, reduceIte, P12, q12]
    | simp (disch := omega) only [w64, w32, wu8, wu16, wu32, wu64]
    | ((with_reducible refine o_call (rlen_p y m) ?he ?hc ?_); (case he => first | rfl | (simp [D.erL, D.er]; done)); (case hc => first | rfl | (simp [D.closedL, D.closed]; done)))
    | with_reducible apply cd_dec
    | with_reducible apply cd_eq
    | with_reducible apply cd_ne
    | with_reducible apply cd_split
    | ((with_reducible refine And.intro ?hw ?_); (case hw => first | omega | rfl | exact ⟨_, _, rfl⟩ | assumption | (simp only [List.length_cons, List.length_nil, List.length_append, List.length_map, List.length_replicate, List.length_take, List.length_drop] <;> omega)))
    | with_reducible intro _)
      · rename_i g5 g6
        have hm : m = 12 := by omega
        subst hm
        refine ⟨(y + 1, 1), ⟨by simp only; omega, by simp only; omega, by simp only; omega, by simp only; omega⟩, by simp only; omega, ?_⟩
        simp [keepE, St.keep]
        all_goals omega
      · rename_i g5 g6
        have := hs (by omega)
        refine ⟨(y, m + 1), ⟨by simp only; omega, by simp only; omega, by simp only; omega, by simp only; omega⟩, by simp only; omega, ?_⟩
        simp [keepE, St.keep]
        all_goals omega
      · rename_i g5
        have hd : dat n = (y, m, n - jan y - cum y m + 1) := dat_at g1 ⟨g2, g3, by omega, by omega⟩ (by unfold num; omega) h.2
        rw [hd]
        all_goals simp [D.closed, D.er, D.closedL, D.erL]
end Go.Proofs.YtapoplenfgjcjaaDoor
