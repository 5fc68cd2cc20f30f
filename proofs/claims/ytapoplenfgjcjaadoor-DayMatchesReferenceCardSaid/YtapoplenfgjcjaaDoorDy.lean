/- What the functions of the day compute: the walks, third part: the date of a day. Own work. -/
import Derived.Test.YtapoplenfgjcjaaDoorDx
set_option maxRecDepth 100000
set_option linter.unusedSimpArgs false
set_option linter.unusedVariables false
namespace Go.Proofs.YtapoplenfgjcjaaDoor
open Go GoV

def inDays (y m d : Int) : Prop := 2000 ≤ y ∧ y ≤ 2109 ∧ num y m d ≤ 40000
instance (y m d : Int) : Decidable (inDays y m d) := by unfold inDays; infer_instance

theorem in_p (y m d : Int) (h2 : 1 ≤ m) (h3 : m ≤ 12) (h4 : 1 ≤ d) (h5 : d ≤ 31) : Pur M 21 [dt y m d] (.bool (decide (inDays y m d))) := by
  refine ok21 rfl ?_
  rw [i21]
  unfold c21
  repeat' (first
    | with_reducible apply swp_seq
    | with_reducible apply swp_reg
    | with_reducible apply swp_regD
    | with_reducible apply swp_block
    | with_reducible apply swp_exit
    | with_reducible apply swp_ret
    | with_reducible apply swp_skip
    | with_reducible apply swp_cd
    | simp only [go_sem, Nat.reduceAdd, Nat.reduceSub, Nat.reduceMul, Nat.reduceEqDiff, Nat.reduceLeDiff, Nat.reduceLT, Int.reduceEq, Int.reduceNe, Int.reduceLT, Int.reduceLE, Int.reduceAdd, Int.reduceSub, Int.reduceMul, Int.reduceNeg, Int.reduceToNat, Int.reduceTDiv, Int.reduceTMod, Int.reduceBEq, Int.reduceBNe, decide_true, decide_false, reduceCtorEq, reduceIte, P21, q21]
    | simp (disch := omega) only [w64, w32, wu8, wu16, wu32, wu64]
    | ((with_reducible refine o_call (num_p y m d (by omega) (by omega) h2 h3 h4 h5) ?he ?hc ?_); (case he => first | rfl | (simp [D.erL, D.er]; done)); (case hc => first | rfl | (simp [D.closedL, D.closed]; done)))
    | with_reducible apply cd_dec
    | with_reducible apply cd_eq
    | with_reducible apply cd_ne
    | with_reducible apply cd_split
    | with_reducible apply gd_dec
    | with_reducible apply gd_eq
    | with_reducible apply gd_ne
    | with_reducible apply gd_split
    | ((with_reducible refine And.intro ?hw ?_); (case hw => first | omega | rfl | exact ⟨_, _, rfl⟩ | assumption | (simp only [List.length_cons, List.length_nil, List.length_append, List.length_map, List.length_replicate, List.length_take, List.length_drop] <;> omega)))
    | with_reducible intro _)
  all_goals simp [D.closed, D.er, inDays, *]

theorem jan_small {y : Int} (h0 : 2000 ≤ y) (h1 : y ≤ 2110) : jan y ≤ 366 * (y - 2000) := by unfold jan; omega

theorem num11 (y : Int) : num y 1 1 = jan y := by simp [num, cum]

theorem dateOf_p (n : Int) : Pur M 23 [.int .i64 n] (.tup [dt (dat n).1 (dat n).2.1 (dat n).2.2, .int .i64 (dayE n)]) := by
  refine ok23 rfl ?_
  rw [i23]
  unfold c23
  by_cases h : 0 ≤ n ∧ n ≤ 40000
  case neg =>
    rw [dat_out h]
    have e : dayE n = 13 := by unfold dayE; rw [if_neg h]
    rw [e]
    repeat' (first
    | with_reducible apply swp_seq
    | with_reducible apply swp_reg
    | with_reducible apply swp_regD
    | with_reducible apply swp_block
    | with_reducible apply swp_exit
    | with_reducible apply swp_ret
    | with_reducible apply swp_skip
    | with_reducible apply swp_cd
    | simp only [go_sem, Nat.reduceAdd, Nat.reduceSub, Nat.reduceMul, Nat.reduceEqDiff, Nat.reduceLeDiff, Nat.reduceLT, Int.reduceEq, Int.reduceNe, Int.reduceLT, Int.reduceLE, Int.reduceAdd, Int.reduceSub, Int.reduceMul, Int.reduceNeg, Int.reduceToNat, Int.reduceTDiv, Int.reduceTMod, Int.reduceBEq, Int.reduceBNe, decide_true, decide_false, reduceCtorEq, reduceIte, P23, q23]
    | simp (disch := omega) only [w64, w32, wu8, wu16, wu32, wu64]
    | with_reducible apply cd_dec
    | with_reducible apply cd_eq
    | with_reducible apply cd_ne
    | with_reducible apply cd_split
    | with_reducible apply gd_dec
    | with_reducible apply gd_eq
    | with_reducible apply gd_ne
    | with_reducible apply gd_split
    | ((with_reducible refine And.intro ?hw ?_); (case hw => first | omega | rfl | exact ⟨_, _, rfl⟩ | assumption | (simp only [List.length_cons, List.length_nil, List.length_append, List.length_map, List.length_replicate, List.length_take, List.length_drop] <;> omega)))
    | with_reducible intro _)
    all_goals first
      | omega
      | skip
    all_goals simp [D.closed, D.er, D.closedL, D.erL, *]
  case pos =>
    obtain ⟨s1, s2, s3, s4⟩ := dat_spec h
    have e : dayE n = 0 := by unfold dayE; rw [if_pos h]
    rw [e]
    generalize dat n = p at *
    obtain ⟨Y, Mo, Da⟩ := p
    simp only at *
    have nl := num_lt (by omega) s3
    have hj := jan_bnd (y := Y) s1 (by omega)
    have hq : n.tdiv 366 = n / 366 := Int.tdiv_eq_ediv_of_nonneg h.1
    repeat' (first
    | with_reducible apply swp_seq
    | with_reducible apply swp_reg
    | with_reducible apply swp_regD
    | with_reducible apply swp_block
    | with_reducible apply swp_exit
    | with_reducible apply swp_ret
    | with_reducible apply swp_skip
    | with_reducible apply swp_cd
    | simp only [go_sem, Nat.reduceAdd, Nat.reduceSub, Nat.reduceMul, Nat.reduceEqDiff, Nat.reduceLeDiff, Nat.reduceLT, Int.reduceEq, Int.reduceNe, Int.reduceLT, Int.reduceLE, Int.reduceAdd, Int.reduceSub, Int.reduceMul, Int.reduceNeg, Int.reduceToNat, Int.reduceTDiv, Int.reduceTMod, Int.reduceBEq, Int.reduceBNe, decide_true, decide_false, reduceCtorEq, reduceIte, P23, q23, hq]
    | simp (disch := omega) only [w64, w32, wu8, wu16, wu32, wu64]
    | with_reducible apply cd_dec
    | with_reducible apply cd_eq
    | with_reducible apply cd_ne
    | with_reducible apply cd_split
    | with_reducible apply gd_dec
    | with_reducible apply gd_eq
    | with_reducible apply gd_ne
    | with_reducible apply gd_split
    | ((with_reducible refine And.intro ?hw ?_); (case hw => first | omega | rfl | exact ⟨_, _, rfl⟩ | assumption | (simp only [List.length_cons, List.length_nil, List.length_append, List.length_map, List.length_replicate, List.length_take, List.length_drop] <;> omega)))
    | with_reducible intro _)
    all_goals first
      | omega
      | skip
    refine swp_fam [0, 1, 2, 3] (fun y : Int => ⟨[.int .i64 n, .ptr 0 0, .int .i64 0, .ptr 1 0, .undef, .undef, .undef], [], ⟨[.cells [.int .i64 0, .int .i64 0, .int .i64 0], .cells [.int .i64 y, .int .i64 1, .int .i64 1]], []⟩⟩)
      (fun y => 2000 ≤ y ∧ y ≤ Y) (fun y => (Y - y).toNat) (2000 + n / 366) ⟨by omega, ?_⟩ ?_ ?_
    · have := jan_small (y := 2000 + n / 366) (by omega) (by omega)
      rcases Int.lt_or_le Y (2000 + n / 366) with g | g
      · have := jan_mono (y := Y + 1) (y' := 2000 + n / 366) (by omega); omega
      · exact g
    · simp [keepE, St.keep]
    · rintro y ⟨g1, g2⟩
      have hy := jan_bnd (y := y + 1) (by omega) (by omega)
      repeat' (first
    | with_reducible apply swp_seq
    | with_reducible apply swp_reg
    | with_reducible apply swp_regD
    | with_reducible apply swp_block
    | with_reducible apply swp_exit
    | with_reducible apply swp_ret
    | with_reducible apply swp_skip
    | with_reducible apply swp_cd
    | simp only [go_sem, Nat.reduceAdd, Nat.reduceSub, Nat.reduceMul, Nat.reduceEqDiff, Nat.reduceLeDiff, Nat.reduceLT, Int.reduceEq, Int.reduceNe, Int.reduceLT, Int.reduceLE, Int.reduceAdd, Int.reduceSub, Int.reduceMul, Int.reduceNeg, Int.reduceToNat, Int.reduceTDiv, Int.reduceTMod, Int.reduceBEq, Int.reduceBNe, decide_true, decide_false, reduceCtorEq, reduceIte, P23, q23, num11]
    | simp (disch := omega) only [w64, w32, wu8, wu16, wu32, wu64]
    | ((with_reducible refine o_call (num_p (y + 1) 1 1 (by omega) (by omega) (by omega) (by omega) (by omega) (by omega)) ?he ?hc ?_); (case he => first | rfl | (simp [D.erL, D.er]; done)); (case hc => first | rfl | (simp [D.closedL, D.closed]; done)))
    | ((with_reducible refine o_call (num_p y 1 1 (by omega) (by omega) (by omega) (by omega) (by omega) (by omega)) ?he ?hc ?_); (case he => first | rfl | (simp [D.erL, D.er]; done)); (case hc => first | rfl | (simp [D.closedL, D.closed]; done)))
    | with_reducible apply cd_dec
    | with_reducible apply cd_eq
    | with_reducible apply cd_ne
    | with_reducible apply cd_split
    | with_reducible apply gd_dec
    | with_reducible apply gd_eq
    | with_reducible apply gd_ne
    | with_reducible apply gd_split
    | ((with_reducible refine And.intro ?hw ?_); (case hw => first | omega | rfl | exact ⟨_, _, rfl⟩ | assumption | (simp only [List.length_cons, List.length_nil, List.length_append, List.length_map, List.length_replicate, List.length_take, List.length_drop] <;> omega)))
    | with_reducible intro _)
      · rename_i g3
        refine ⟨y + 1, ⟨by omega, ?_⟩, ?_, ?_⟩
        · rcases Int.lt_or_le Y (y + 1) with g | g
          · have := jan_mono (y := Y + 1) (y' := y + 1) (by omega); omega
          · exact g
        · rcases Int.lt_or_le Y (y + 1) with g | g
          · have := jan_mono (y := Y + 1) (y' := y + 1) (by omega); omega
          · omega
        · simp [keepE, St.keep]
      · rename_i g3
        have ey : y = Y := by
          rcases Int.lt_or_le y Y with g | g
          · have := jan_mono (y := y + 1) (y' := Y) (by omega); omega
          · omega
        subst ey
        obtain ⟨v1, v2, v3, v4⟩ := s3
        refine swp_fam [0, 1, 2, 3] (fun m : Int => ⟨[.int .i64 (n - jan y - cum y m), .ptr 0 0, .int .i64 0, .ptr 1 0, .undef, .undef, .undef], [], ⟨[.cells [.int .i64 0, .int .i64 0, .int .i64 0], .cells [.int .i64 y, .int .i64 m, .int .i64 1]], []⟩⟩)
          (fun m => 1 ≤ m ∧ m ≤ Mo) (fun m => (Mo - m).toNat) 1 ⟨by omega, v1⟩ ?_ ?_
        · simp [keepE, St.keep, cum]
          exact w64 (by omega) (by omega)
        · rintro m ⟨m1, m2⟩
          have c1 := cum_le y m1 (by omega)
          have c2 := mlen_le y m
          have c3 := cum_le y v1 v2
          have hk : m < Mo ↔ mlen y m ≤ n - jan y - cum y m := by
            unfold num at s4
            constructor
            · intro g
              have := cum_lt y m1 g v2
              omega
            · intro g
              rcases Int.lt_or_le m Mo with g' | g'
              · exact g'
              · have e : m = Mo := by omega
                subst e; omega
          repeat' (first
    | with_reducible apply swp_seq
    | with_reducible apply swp_reg
    | with_reducible apply swp_regD
    | with_reducible apply swp_block
    | with_reducible apply swp_exit
    | with_reducible apply swp_ret
    | with_reducible apply swp_skip
    | with_reducible apply swp_cd
    | simp only [go_sem, Nat.reduceAdd, Nat.reduceSub, Nat.reduceMul, Nat.reduceEqDiff, Nat.reduceLeDiff, Nat.reduceLT, Int.reduceEq, Int.reduceNe, Int.reduceLT, Int.reduceLE, Int.reduceAdd, Int.reduceSub, Int.reduceMul, Int.reduceNeg, Int.reduceToNat, Int.reduceTDiv, Int.reduceTMod, Int.reduceBEq, Int.reduceBNe, decide_true, decide_false, reduceCtorEq, reduceIte, P23, q23, num11]
    | simp (disch := omega) only [w64, w32, wu8, wu16, wu32, wu64]
    | ((with_reducible refine o_call (len_p y m 1 (by omega) (by omega)) ?he ?hc ?_); (case he => first | rfl | (simp [D.erL, D.er]; done)); (case hc => first | rfl | (simp [D.closedL, D.closed]; done)))
    | with_reducible apply cd_dec
    | with_reducible apply cd_eq
    | with_reducible apply cd_ne
    | with_reducible apply cd_split
    | with_reducible apply gd_dec
    | with_reducible apply gd_eq
    | with_reducible apply gd_ne
    | with_reducible apply gd_split
    | ((with_reducible refine And.intro ?hw ?_); (case hw => first | omega | rfl | exact ⟨_, _, rfl⟩ | assumption | (simp only [List.length_cons, List.length_nil, List.length_append, List.length_map, List.length_replicate, List.length_take, List.length_drop] <;> omega)))
    | with_reducible intro _)
          · rename_i g4
            have := hk.2 g4
            refine ⟨m + 1, ⟨by omega, by omega⟩, by omega, ?_⟩
            simp [keepE, St.keep]
            rw [cum_succ y m1 (by omega)]
            omega
          · rename_i g4
            have e : m = Mo := by
              rcases Int.lt_or_le m Mo with g' | g'
              · exact absurd (hk.1 g') g4
              · omega
            subst e
            simp [num, D.closed, D.er, D.closedL, D.erL] at *
            omega
end Go.Proofs.YtapoplenfgjcjaaDoor
