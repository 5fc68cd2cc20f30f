/- What the functions of the day compute: the walks, second part: number. Own work. -/
import Derived.Test.YtapoplenfgjcjaaDoorDw
import Derived.Test.YtapoplenfgjcjaaDoorEs
set_option maxRecDepth 100000
set_option linter.unusedSimpArgs false
set_option linter.unusedVariables false
namespace Go.Proofs.YtapoplenfgjcjaaDoor
open Go GoV

theorem jan_eq (y : Int) : 365 * (y - 1) + (y - 1) / 4 - (y - 1) / 100 + (y - 1) / 400 = jan y + 730119 := by unfold jan; omega

theorem jan_bnd {y : Int} (h0 : 2000 ≤ y) (h1 : y ≤ 2110) : 0 ≤ jan y ∧ jan y ≤ 40177 := by
  have := jan_mono (y := 2000) (y' := y) h0
  have := jan_mono (y := y) (y' := 2110) h1
  have e : jan 2000 = 0 := by decide
  have e : jan 2110 = 40177 := by decide
  omega

theorem num_p (y m d : Int) (h0 : 2000 ≤ y) (h1 : y ≤ 2110) (h2 : 1 ≤ m) (h3 : m ≤ 12) (h4 : 1 ≤ d) (h5 : d ≤ 31) : Pur M 22 [dt y m d] (.int .i64 (num y m d)) := by
  refine ok22 rfl ?_
  rw [i22]
  unfold c22
  have b1 := before_p y h0 (by omega)
  have b2 := before_p 2000 (by omega) (by omega)
  rw [jan_eq] at b1 b2
  have jb := jan_bnd h0 h1
  have j0 : jan 2000 = 0 := by decide
  rw [j0] at b2
  repeat' (first
    | with_reducible apply swp_seq
    | with_reducible apply swp_reg
    | with_reducible apply swp_regD
    | with_reducible apply swp_block
    | with_reducible apply swp_exit
    | with_reducible apply swp_ret
    | with_reducible apply swp_skip
    | with_reducible apply swp_cd
    | simp only [go_sem, Nat.reduceAdd, Nat.reduceSub, Nat.reduceMul, Nat.reduceEqDiff, Nat.reduceLeDiff, Nat.reduceLT, Int.reduceEq, Int.reduceNe, Int.reduceLT, Int.reduceLE, Int.reduceAdd, Int.reduceSub, Int.reduceMul, Int.reduceNeg, Int.reduceToNat, Int.reduceTDiv, Int.reduceTMod, Int.reduceBEq, Int.reduceBNe, decide_true, decide_false, reduceCtorEq, reduceIte, P22, q22]
    | simp (disch := omega) only [w64, w32, wu8, wu16, wu32, wu64]
    | ((with_reducible refine o_call (b1) ?he ?hc ?_); (case he => first | rfl | (simp [D.erL, D.er]; done)); (case hc => first | rfl | (simp [D.closedL, D.closed]; done)))
    | ((with_reducible refine p_call (b1) ?he ?hc ?_); (case he => first | rfl | (simp [D.erL, D.er]; done)); (case hc => first | rfl | (simp [D.closedL, D.closed]; done)))
    | ((with_reducible refine c_call (b1) ?he ?hc ?_); (case he => first | rfl | (simp [D.erL, D.er]; done)); (case hc => first | rfl | (simp [D.closedL, D.closed]; done)))
    | ((with_reducible refine o_call (b2) ?he ?hc ?_); (case he => first | rfl | (simp [D.erL, D.er]; done)); (case hc => first | rfl | (simp [D.closedL, D.closed]; done)))
    | ((with_reducible refine p_call (b2) ?he ?hc ?_); (case he => first | rfl | (simp [D.erL, D.er]; done)); (case hc => first | rfl | (simp [D.closedL, D.closed]; done)))
    | ((with_reducible refine c_call (b2) ?he ?hc ?_); (case he => first | rfl | (simp [D.erL, D.er]; done)); (case hc => first | rfl | (simp [D.closedL, D.closed]; done)))
    | with_reducible apply cd_dec
    | with_reducible apply cd_eq
    | with_reducible apply cd_ne
    | with_reducible apply cd_split
    | ((with_reducible refine And.intro ?hw ?_); (case hw => first | omega | rfl | exact ⟨_, _, rfl⟩ | assumption | (simp only [List.length_cons, List.length_nil, List.length_append, List.length_map, List.length_replicate, List.length_take, List.length_drop] <;> omega)))
    | with_reducible intro _)
  refine swp_fam [0, 1, 2, 3, 4, 5] (fun j : Int => ⟨[dt y m d, .ptr 0 0, .int .i64 0, .fn (.func 33) [] [], .int .i64 (jan y + cum y j + d - 1), .int .i64 j, .undef], [], ⟨[.cells [.int .i64 y, .int .i64 m, .int .i64 d]], []⟩⟩)
    (fun j => 1 ≤ j ∧ j ≤ m) (fun j => (m - j).toNat) 1 ⟨by omega, h2⟩ ?_ ?_
  · simp [keepE, St.keep, cum]
  · rintro j ⟨g1, g2⟩
    have c1 := cum_le y g1 (by omega)
    have c2 := mlen_le y j
    repeat' (first
    | with_reducible apply swp_seq
    | with_reducible apply swp_reg
    | with_reducible apply swp_regD
    | with_reducible apply swp_block
    | with_reducible apply swp_exit
    | with_reducible apply swp_ret
    | with_reducible apply swp_skip
    | with_reducible apply swp_cd
    | simp only [go_sem, Nat.reduceAdd, Nat.reduceSub, Nat.reduceMul, Nat.reduceEqDiff, Nat.reduceLeDiff, Nat.reduceLT, Int.reduceEq, Int.reduceNe, Int.reduceLT, Int.reduceLE, Int.reduceAdd, Int.reduceSub, Int.reduceMul, Int.reduceNeg, Int.reduceToNat, Int.reduceTDiv, Int.reduceTMod, Int.reduceBEq, Int.reduceBNe, decide_true, decide_false, reduceCtorEq, reduceIte, P22, q22]
    | simp (disch := omega) only [w64, w32, wu8, wu16, wu32, wu64]
    | ((with_reducible refine o_call (len_p y j 1 (by omega) (by omega)) ?he ?hc ?_); (case he => first | rfl | (simp [D.erL, D.er]; done)); (case hc => first | rfl | (simp [D.closedL, D.closed]; done)))
    | ((with_reducible refine p_call (len_p y j 1 (by omega) (by omega)) ?he ?hc ?_); (case he => first | rfl | (simp [D.erL, D.er]; done)); (case hc => first | rfl | (simp [D.closedL, D.closed]; done)))
    | ((with_reducible refine c_call (len_p y j 1 (by omega) (by omega)) ?he ?hc ?_); (case he => first | rfl | (simp [D.erL, D.er]; done)); (case hc => first | rfl | (simp [D.closedL, D.closed]; done)))
    | with_reducible apply cd_dec
    | with_reducible apply cd_eq
    | with_reducible apply cd_ne
    | with_reducible apply cd_split
    | ((with_reducible refine And.intro ?hw ?_); (case hw => first | omega | rfl | exact ⟨_, _, rfl⟩ | assumption | (simp only [List.length_cons, List.length_nil, List.length_append, List.length_map, List.length_replicate, List.length_take, List.length_drop] <;> omega)))
    | with_reducible intro _)
    · refine ⟨j + 1, ⟨by omega, by omega⟩, by omega, ?_⟩
      simp [keepE, St.keep]
      rw [cum_succ y g1 (by omega)]
      omega
    · have e : j = m := by omega
      subst e
      simp [num, D.closed, D.er]
end Go.Proofs.YtapoplenfgjcjaaDoor
