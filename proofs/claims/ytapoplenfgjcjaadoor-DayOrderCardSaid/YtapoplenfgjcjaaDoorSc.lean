/- What the reference functions of the day compute: the walks, seventh part: Text. Own work. -/
import Derived.Test.YtapoplenfgjcjaaDoorSb
set_option maxRecDepth 100000
set_option linter.unusedSimpArgs false
set_option linter.unusedVariables false
namespace Go.Proofs.YtapoplenfgjcjaaDoor
open Go GoV

theorem dec_step {u : Nat} (h : ¬u < 10) : Lib.decDigits u = Lib.decDigits (u / 10) ++ [UInt8.ofNat (48 + u % 10)] := by
  rw [Lib.decDigits, dif_neg h]

theorem itoa_dig {n : Int} (h0 : 1000 ≤ n) (h1 : n < 10000) : Lib.itoa n = dig n.toNat 4 := by
  unfold Lib.itoa
  rw [if_neg (by omega), dec_step (by omega), dec_step (by omega), dec_step (by omega), Lib.decDigits_one (by omega)]
  simp only [dig, List.nil_append]
  have e : n.toNat / 10 / 10 / 10 % 10 = n.toNat / 10 / 10 / 10 := by omega
  rw [e]

theorem two_dig {k : Int} (h0 : 0 ≤ k) (h1 : k < 100) : two k = 45 :: dig k.toNat 2 := by
  unfold two Lib.itoa
  have e0 : (100 + k).toNat = 100 + k.toNat := by omega
  rw [if_neg (by omega), e0, dec_step (by omega), dec_step (by omega), Lib.decDigits_one (by omega)]
  simp only [dig, List.nil_append, List.cons_append, List.drop_succ_cons, List.drop_zero]
  have e1 : (100 + k.toNat) / 10 % 10 = k.toNat / 10 % 10 := by omega
  have e2 : (100 + k.toNat) % 10 = k.toNat % 10 := by omega
  rw [e1, e2]

theorem rtext_p (n : Int) : Pur M 15 [.int .i64 n] (.tup [.str (if 0 ≤ n ∧ n ≤ 40000 then txt n else []), .int .i64 (dayE n)]) := by
  refine ok15 rfl ?_
  rw [i15]
  unfold c15
  have hr := rdate_p n
  by_cases h : 0 ≤ n ∧ n ≤ 40000
  case neg =>
    have e : dayE n = 13 := by unfold dayE; rw [if_neg h]
    rw [if_neg h]
    rw [e] at hr ⊢
    repeat' (first
    | with_reducible apply swp_seq
    | with_reducible apply swp_reg
    | with_reducible apply swp_regD
    | with_reducible apply swp_block
    | with_reducible apply swp_exit
    | with_reducible apply swp_ret
    | with_reducible apply swp_skip
    | with_reducible apply swp_cd
    | simp only [go_sem, Nat.reduceAdd, Nat.reduceSub, Nat.reduceMul, Nat.reduceEqDiff, Nat.reduceLeDiff, Nat.reduceLT, Int.reduceEq, Int.reduceNe, Int.reduceLT, Int.reduceLE, Int.reduceAdd, Int.reduceSub, Int.reduceMul, Int.reduceNeg, Int.reduceToNat, Int.reduceTDiv, Int.reduceTMod, Int.reduceBEq, Int.reduceBNe, decide_true, decide_false, reduceCtorEq, reduceIte, P15, q15]
    | simp (disch := omega) only [w64, w32, wu8, wu16, wu32, wu64]
    | ((with_reducible refine o_call (hr) ?he ?hc ?_); (case he => first | rfl | (simp [D.erL, D.er]; done)); (case hc => first | rfl | (simp [D.closedL, D.closed]; done)))
    | with_reducible apply cd_dec
    | with_reducible apply cd_eq
    | with_reducible apply cd_ne
    | with_reducible apply cd_split
    | ((with_reducible refine And.intro ?hw ?_); (case hw => first | omega | rfl | exact ⟨_, _, rfl⟩ | assumption | (simp only [List.length_cons, List.length_nil, List.length_append, List.length_map, List.length_replicate, List.length_take, List.length_drop] <;> omega)))
    | with_reducible intro _)
    all_goals simp [D.closed, D.er, D.closedL, D.erL]
  case pos =>
    have e : dayE n = 0 := by unfold dayE; rw [if_pos h]
    rw [if_pos h]
    rw [e] at hr ⊢
    obtain ⟨s1, s2, ⟨v1, v2, v3, v4⟩, s4⟩ := dat_spec h
    have ml := mlen_le (dat n).1 (dat n).2.1
    have et : txt n = dig (dat n).1.toNat 4 ++ [45] ++ dig (dat n).2.1.toNat 2 ++ [45] ++ dig (dat n).2.2.toNat 2 := by
      unfold txt
      rw [itoa_dig (by omega) (by omega), two_dig (by omega) (by omega), two_dig (by omega) (by omega)]
      simp
    rw [et]
    generalize dat n = p at *
    obtain ⟨Y, Mo, Da⟩ := p
    simp only at *
    have d1 := digits_p Y.toNat 4 (by omega) (by omega)
    have d2 := digits_p Mo.toNat 2 (by omega) (by omega)
    have d3 := digits_p Da.toNat 2 (by omega) (by omega)
    have q1 : ((Y.toNat : Nat) : Int) = Y := by omega
    have q2 : ((Mo.toNat : Nat) : Int) = Mo := by omega
    have q3 : ((Da.toNat : Nat) : Int) = Da := by omega
    have q4 : ((4 : Nat) : Int) = 4 := rfl
    have q5 : ((2 : Nat) : Int) = 2 := rfl
    rw [q1, q4] at d1
    rw [q2, q5] at d2
    rw [q3, q5] at d3
    have l1 := dig_len 4 Y.toNat
    have l2 := dig_len 2 Mo.toNat
    have l3 := dig_len 2 Da.toNat
    repeat' (first
    | with_reducible apply swp_seq
    | with_reducible apply swp_reg
    | with_reducible apply swp_regD
    | with_reducible apply swp_block
    | with_reducible apply swp_exit
    | with_reducible apply swp_ret
    | with_reducible apply swp_skip
    | with_reducible apply swp_cd
    | simp only [go_sem, Nat.reduceAdd, Nat.reduceSub, Nat.reduceMul, Nat.reduceEqDiff, Nat.reduceLeDiff, Nat.reduceLT, Int.reduceEq, Int.reduceNe, Int.reduceLT, Int.reduceLE, Int.reduceAdd, Int.reduceSub, Int.reduceMul, Int.reduceNeg, Int.reduceToNat, Int.reduceTDiv, Int.reduceTMod, Int.reduceBEq, Int.reduceBNe, decide_true, decide_false, reduceCtorEq, reduceIte, P15, q15, List.length_append]
    | simp (disch := omega) only [w64, w32, wu8, wu16, wu32, wu64]
    | ((with_reducible refine o_call (hr) ?he ?hc ?_); (case he => first | rfl | (simp [D.erL, D.er]; done)); (case hc => first | rfl | (simp [D.closedL, D.closed]; done)))
    | ((with_reducible refine o_call (d1) ?he ?hc ?_); (case he => first | rfl | (simp [D.erL, D.er]; done)); (case hc => first | rfl | (simp [D.closedL, D.closed]; done)))
    | ((with_reducible refine o_call (d2) ?he ?hc ?_); (case he => first | rfl | (simp [D.erL, D.er]; done)); (case hc => first | rfl | (simp [D.closedL, D.closed]; done)))
    | ((with_reducible refine o_call (d3) ?he ?hc ?_); (case he => first | rfl | (simp [D.erL, D.er]; done)); (case hc => first | rfl | (simp [D.closedL, D.closed]; done)))
    | with_reducible apply cd_dec
    | with_reducible apply cd_eq
    | with_reducible apply cd_ne
    | with_reducible apply cd_split
    | ((with_reducible refine And.intro ?hw ?_); (case hw => first | omega | rfl | exact ⟨_, _, rfl⟩ | assumption | (simp only [List.length_cons, List.length_nil, List.length_append, List.length_map, List.length_replicate, List.length_take, List.length_drop] <;> omega)))
    | with_reducible intro _)
    all_goals simp [D.closed, D.er, D.closedL, D.erL]
end Go.Proofs.YtapoplenfgjcjaaDoor
