/- What the functions of money compute: the walks, fifth part: sorting whole, products, quotients. Own work. -/
import Derived.Test.YtniglomooepbcaaDoorMe
set_option maxRecDepth 100000
set_option linter.unusedSimpArgs false
set_option linter.unusedVariables false
namespace Go.Proofs.YtniglomooepbcaaDoor
open Go GoV

theorem fl_rn (f g : Nat → Option Nat) : ∀ L : List Sh, D.rnL f g (fl L) = fl L
  | [] => rfl
  | s :: r => by simp [fl, D.rnL, D.rn, fl_rn f g r]

theorem stb_p (L : List Sh) (n : Nat) (hn : n = L.length) (hl : n ≤ 16) : Eff M 32 [.gs 0 n, .int .i64 n, .fn (.func 24) [] []] ⟨[], [.chg 3 (fl L)]⟩ (fun d hp => d = .tup [] ∧ hp = ⟨[], [.chg 3 (fl (isort L n))]⟩) := by
  refine oe32 0 1 rfl rfl rfl ?_
  rw [ie32]
  unfold c32
  repeat' (first
    | with_reducible apply swp_seq
    | with_reducible apply swp_reg
    | with_reducible apply swp_regD
    | with_reducible apply swp_block
    | with_reducible apply swp_exit
    | with_reducible apply swp_ret
    | with_reducible apply swp_skip
    | with_reducible apply swp_cd
    | simp only [go_sem, Nat.reduceAdd, Nat.reduceSub, Nat.reduceMul, Nat.reduceEqDiff, Nat.reduceLeDiff, Nat.reduceLT, Int.reduceEq, Int.reduceNe, Int.reduceLT, Int.reduceLE, Int.reduceAdd, Int.reduceSub, Int.reduceMul, Int.reduceNeg, Int.reduceToNat, Int.reduceTDiv, Int.reduceTMod, Int.reduceBEq, Int.reduceBNe, decide_true, decide_false, reduceCtorEq, reduceIte, pe32, q32]
    | simp (disch := omega) only [w64, w32, wu8, wu16, wu32, wu64]
    | with_reducible apply cd_dec
    | with_reducible apply cd_eq
    | with_reducible apply cd_ne
    | with_reducible apply cd_split
    | ((with_reducible refine And.intro ?hw ?_); (case hw => first | omega | rfl | exact ⟨_, _, rfl⟩ | assumption | (simp only [List.length_cons, List.length_nil, List.length_append, List.length_map, List.length_replicate, List.length_take, List.length_drop] <;> omega)))
    | with_reducible intro _)
  refine swp_fam [0, 1, 2, 3, 4, 5] (fun _ : Unit => ⟨[.gs 0 n, .int .i64 n, .fn (.func 24) [] [], .int .i64 20, .int .i64 0, .int .i64 20, .undef, .undef, .undef, .undef, .undef], [], ⟨[], [.chg 3 (fl L)]⟩⟩)
    (fun _ => True) (fun _ => 0) () trivial ?_ ?_
  · simp [St.keep, keepE]
  rintro _ _
  repeat' (first
    | with_reducible apply swp_seq
    | with_reducible apply swp_reg
    | with_reducible apply swp_regD
    | with_reducible apply swp_block
    | with_reducible apply swp_exit
    | with_reducible apply swp_ret
    | with_reducible apply swp_skip
    | with_reducible apply swp_cd
    | simp only [go_sem, Nat.reduceAdd, Nat.reduceSub, Nat.reduceMul, Nat.reduceEqDiff, Nat.reduceLeDiff, Nat.reduceLT, Int.reduceEq, Int.reduceNe, Int.reduceLT, Int.reduceLE, Int.reduceAdd, Int.reduceSub, Int.reduceMul, Int.reduceNeg, Int.reduceToNat, Int.reduceTDiv, Int.reduceTMod, Int.reduceBEq, Int.reduceBNe, decide_true, decide_false, reduceCtorEq, reduceIte, pe32, q32]
    | simp (disch := omega) only [w64, w32, wu8, wu16, wu32, wu64]
    | with_reducible apply cd_dec
    | with_reducible apply cd_eq
    | with_reducible apply cd_ne
    | with_reducible apply cd_split
    | ((with_reducible refine And.intro ?hw ?_); (case hw => first | omega | rfl | exact ⟨_, _, rfl⟩ | assumption | (simp only [List.length_cons, List.length_nil, List.length_append, List.length_map, List.length_replicate, List.length_take, List.length_drop] <;> omega)))
    | with_reducible intro _)
  all_goals try omega
  repeat' (first
    | with_reducible apply swp_seq
    | with_reducible apply swp_reg
    | with_reducible apply swp_regD
    | with_reducible apply swp_block
    | with_reducible apply swp_exit
    | with_reducible apply swp_ret
    | with_reducible apply swp_skip
    | with_reducible apply swp_cd
    | simp only [go_sem, Nat.reduceAdd, Nat.reduceSub, Nat.reduceMul, Nat.reduceEqDiff, Nat.reduceLeDiff, Nat.reduceLT, Int.reduceEq, Int.reduceNe, Int.reduceLT, Int.reduceLE, Int.reduceAdd, Int.reduceSub, Int.reduceMul, Int.reduceNeg, Int.reduceToNat, Int.reduceTDiv, Int.reduceTMod, Int.reduceBEq, Int.reduceBNe, decide_true, decide_false, reduceCtorEq, reduceIte, pe32, q32, fl_rn]
    | simp (disch := omega) only [w64, w32, wu8, wu16, wu32, wu64]
    | ((with_reducible refine o_eff [] [0] (ins_p L n n hn (Nat.le_refl _) (by omega)) ?hs ?he ?hh ?_); (case hs => exact ⟨by simp, by simp, by simp, by simp⟩); (case he => first | rfl | (simp [go_sem, Nat.reduceAdd, Nat.reduceSub, Nat.reduceMul, Nat.reduceEqDiff, Nat.reduceLeDiff, Nat.reduceLT, Int.reduceEq, Int.reduceNe, Int.reduceLT, Int.reduceLE, Int.reduceAdd, Int.reduceSub, Int.reduceMul, Int.reduceNeg, Int.reduceToNat, Int.reduceTDiv, Int.reduceTMod, Int.reduceBEq, Int.reduceBNe, decide_true, decide_false, reduceCtorEq, reduceIte, fl_rn]; done)); (case hh => first | rfl | (simp [go_sem, Nat.reduceAdd, Nat.reduceSub, Nat.reduceMul, Nat.reduceEqDiff, Nat.reduceLeDiff, Nat.reduceLT, Int.reduceEq, Int.reduceNe, Int.reduceLT, Int.reduceLE, Int.reduceAdd, Int.reduceSub, Int.reduceMul, Int.reduceNeg, Int.reduceToNat, Int.reduceTDiv, Int.reduceTMod, Int.reduceBEq, Int.reduceBNe, decide_true, decide_false, reduceCtorEq, reduceIte, fl_rn]; done)); rintro _ _ ⟨rfl, rfl⟩)
    | with_reducible apply cd_dec
    | with_reducible apply cd_eq
    | with_reducible apply cd_ne
    | with_reducible apply cd_split
    | ((with_reducible refine And.intro ?hw ?_); (case hw => first | omega | rfl | exact ⟨_, _, rfl⟩ | assumption | (simp only [List.length_cons, List.length_nil, List.length_append, List.length_map, List.length_replicate, List.length_take, List.length_drop, fl_rn] <;> omega)))
    | with_reducible intro _)
  refine swp_fam [0, 1, 2, 3] (fun _ : Unit => ⟨[.gs 0 n, .int .i64 n, .fn (.func 24) [] [], .int .i64 20, .undef, .undef, .undef, .undef, .undef, .undef, .undef], [], ⟨[], [.chg 3 (fl (isort L n))]⟩⟩)
    (fun _ => True) (fun _ => 0) () trivial ?_ ?_
  · simp [St.keep, keepE]
  rintro _ _
  repeat' (first
    | with_reducible apply swp_seq
    | with_reducible apply swp_reg
    | with_reducible apply swp_regD
    | with_reducible apply swp_block
    | with_reducible apply swp_exit
    | with_reducible apply swp_ret
    | with_reducible apply swp_skip
    | with_reducible apply swp_cd
    | simp only [go_sem, Nat.reduceAdd, Nat.reduceSub, Nat.reduceMul, Nat.reduceEqDiff, Nat.reduceLeDiff, Nat.reduceLT, Int.reduceEq, Int.reduceNe, Int.reduceLT, Int.reduceLE, Int.reduceAdd, Int.reduceSub, Int.reduceMul, Int.reduceNeg, Int.reduceToNat, Int.reduceTDiv, Int.reduceTMod, Int.reduceBEq, Int.reduceBNe, decide_true, decide_false, reduceCtorEq, reduceIte, pe32, q32]
    | simp (disch := omega) only [w64, w32, wu8, wu16, wu32, wu64]
    | with_reducible apply cd_dec
    | with_reducible apply cd_eq
    | with_reducible apply cd_ne
    | with_reducible apply cd_split
    | ((with_reducible refine And.intro ?hw ?_); (case hw => first | omega | rfl | exact ⟨_, _, rfl⟩ | assumption | (simp only [List.length_cons, List.length_nil, List.length_append, List.length_map, List.length_replicate, List.length_take, List.length_drop] <;> omega)))
    | with_reducible intro _)
  all_goals try omega
  exact ⟨_, weak_refl, rfl⟩

theorem srt_p (L : List Sh) (n : Nat) (hn : n = L.length) (hl : n ≤ 16) : Eff M 23 [.gs 0 n, .fn (.func 24) [] []] ⟨[], [.chg 3 (fl L)]⟩ (fun d hp => d = .tup [] ∧ hp = ⟨[], [.chg 3 (fl (isort L n))]⟩) := by
  refine oe23 0 1 rfl rfl rfl ?_
  rw [ie23]
  unfold c23
  repeat' (first
    | with_reducible apply swp_seq
    | with_reducible apply swp_reg
    | with_reducible apply swp_regD
    | with_reducible apply swp_block
    | with_reducible apply swp_exit
    | with_reducible apply swp_ret
    | with_reducible apply swp_skip
    | with_reducible apply swp_cd
    | simp only [go_sem, Nat.reduceAdd, Nat.reduceSub, Nat.reduceMul, Nat.reduceEqDiff, Nat.reduceLeDiff, Nat.reduceLT, Int.reduceEq, Int.reduceNe, Int.reduceLT, Int.reduceLE, Int.reduceAdd, Int.reduceSub, Int.reduceMul, Int.reduceNeg, Int.reduceToNat, Int.reduceTDiv, Int.reduceTMod, Int.reduceBEq, Int.reduceBNe, decide_true, decide_false, reduceCtorEq, reduceIte, pe23, q23, fl_rn]
    | simp (disch := omega) only [w64, w32, wu8, wu16, wu32, wu64]
    | ((with_reducible refine o_eff [] [0] (stb_p L n hn hl) ?hs ?he ?hh ?_); (case hs => exact ⟨by simp, by simp, by simp, by simp⟩); (case he => first | rfl | (simp [go_sem, Nat.reduceAdd, Nat.reduceSub, Nat.reduceMul, Nat.reduceEqDiff, Nat.reduceLeDiff, Nat.reduceLT, Int.reduceEq, Int.reduceNe, Int.reduceLT, Int.reduceLE, Int.reduceAdd, Int.reduceSub, Int.reduceMul, Int.reduceNeg, Int.reduceToNat, Int.reduceTDiv, Int.reduceTMod, Int.reduceBEq, Int.reduceBNe, decide_true, decide_false, reduceCtorEq, reduceIte, fl_rn]; done)); (case hh => first | rfl | (simp [go_sem, Nat.reduceAdd, Nat.reduceSub, Nat.reduceMul, Nat.reduceEqDiff, Nat.reduceLeDiff, Nat.reduceLT, Int.reduceEq, Int.reduceNe, Int.reduceLT, Int.reduceLE, Int.reduceAdd, Int.reduceSub, Int.reduceMul, Int.reduceNeg, Int.reduceToNat, Int.reduceTDiv, Int.reduceTMod, Int.reduceBEq, Int.reduceBNe, decide_true, decide_false, reduceCtorEq, reduceIte, fl_rn]; done)); rintro _ _ ⟨rfl, rfl⟩)
    | with_reducible apply cd_dec
    | with_reducible apply cd_eq
    | with_reducible apply cd_ne
    | with_reducible apply cd_split
    | ((with_reducible refine And.intro ?hw ?_); (case hw => first | omega | rfl | exact ⟨_, _, rfl⟩ | assumption | (simp only [List.length_cons, List.length_nil, List.length_append, List.length_map, List.length_replicate, List.length_take, List.length_drop, fl_rn] <;> omega)))
    | with_reducible intro _)
  exact ⟨_, weak_refl, rfl⟩

theorem mul_p (x y : Nat) (hx : x < 18446744073709551616) (hy : y < 18446744073709551616) (h : x * y < 18446744073709551616) : Pur M 21 [.int .u64 x, .int .u64 y] (.tup [.int .u64 0, .int .u64 (x * y : Nat)]) := by
  refine pur_ext (vs := [.int .u64 x, .int .u64 y]) (v := .tuple #[.int .u64 0, .int .u64 (x * y : Nat)]) ⟨Tryd.f21, Tryd.func21, rfl, rfl⟩ (fun w I xs h => ?_) (fun w I => ?_) (fun w hA => ?_)
  · obtain ⟨x, xs', rfl, g1, g2⟩ := h.inv
    obtain ⟨x2, xs2, rfl, g3, g4⟩ := g2.inv
    simp only [Rel] at g1 g3
    rw [g4.inv_nil, g1, g3]
  · simp only [Rel]
    exact ⟨_, rfl, by simp [RelL, Rel]⟩
  · refine (Tryd.bits_Mul64 x y hx hy w).mono fun e w' h' => ?_
    obtain ⟨rfl, rfl⟩ := h'
    rw [Nat.div_eq_of_lt h, Nat.mod_eq_of_lt h]
    exact ⟨rfl, ⟨rfl, rfl, rfl, Nat.le_refl _, fun _ _ => rfl⟩⟩

theorem div_p (x y : Int) (h0 : 0 ≤ x) (h1 : x ≤ 18446744073709551615) (hy : 0 < y) : Pur M 22 [.int .u64 0, .int .u64 x, .int .u64 y] (.tup [.int .u64 (x / y), .int .u64 (x % y)]) := by
  refine ok22 rfl ?_
  rw [i22]
  unfold c22
  have t1 : x.tdiv y = x / y := Int.tdiv_eq_ediv_of_nonneg h0
  have t2 : x.tmod y = x % y := Int.tmod_eq_emod_of_nonneg h0
  have t3 : 0 ≤ x / y := Int.ediv_nonneg h0 (by omega)
  have t4 : x / y ≤ x := Int.ediv_le_self _ h0
  generalize x / y = q at *
  generalize x % y = r at *
  repeat' (first
    | with_reducible apply swp_seq
    | with_reducible apply swp_reg
    | with_reducible apply swp_regD
    | with_reducible apply swp_block
    | with_reducible apply swp_exit
    | with_reducible apply swp_ret
    | with_reducible apply swp_skip
    | with_reducible apply swp_cd
    | simp only [go_sem, Nat.reduceAdd, Nat.reduceSub, Nat.reduceMul, Nat.reduceEqDiff, Nat.reduceLeDiff, Nat.reduceLT, Int.reduceEq, Int.reduceNe, Int.reduceLT, Int.reduceLE, Int.reduceAdd, Int.reduceSub, Int.reduceMul, Int.reduceNeg, Int.reduceToNat, Int.reduceTDiv, Int.reduceTMod, Int.reduceBEq, Int.reduceBNe, decide_true, decide_false, reduceCtorEq, reduceIte, P22, q22, t1, t2]
    | simp (disch := omega) only [w64, w32, wu8, wu16, wu32, wu64]
    | with_reducible apply cd_dec
    | with_reducible apply cd_eq
    | with_reducible apply cd_ne
    | with_reducible apply cd_split
    | with_reducible apply gd_dec
    | with_reducible apply gd_eq
    | with_reducible apply gd_ne
    | with_reducible apply gd_split
    | ((with_reducible refine And.intro ?hw ?_); (case hw => first | omega | rfl | exact ⟨_, _, rfl⟩ | assumption | (simp only [List.length_cons, List.length_nil, List.length_append, List.length_map, List.length_replicate, List.length_take, List.length_drop] <;> omega)))
    | with_reducible intro _)
  all_goals first
    | omega
    | simp [D.closed, D.er, D.closedL, D.erL]

theorem parts_p (a b c : Int) (ha : Am a) (hb : 0 ≤ b) (hbc : b ≤ c) (hc : 0 < c) (hc2 : c ≤ 200000000) : Pur M 27 [.int .i64 a, .int .i64 b, .int .i64 c] (.tup [.int .i64 (a * b / c), .int .i64 (a * b % c)]) := by
  refine ok27 rfl ?_
  rw [i27]
  unfold c27
  obtain ⟨a0, a1⟩ := ha
  have t1 : a.tdiv 1000000 = a / 1000000 := Int.tdiv_eq_ediv_of_nonneg a0
  have t2 : a.tmod 1000000 = a % 1000000 := Int.tmod_eq_emod_of_nonneg a0
  have m1 : 0 ≤ a / 1000000 * b ∧ a / 1000000 * b ≤ 200000000000000 := by
    refine ⟨Int.mul_nonneg (by omega) hb, ?_⟩
    have := Int.mul_le_mul (show a / 1000000 ≤ 1000000 by omega) (show b ≤ 200000000 by omega) hb (by omega)
    omega
  have m2 : 0 ≤ a % 1000000 * b ∧ a % 1000000 * b ≤ 200000000000000 := by
    refine ⟨Int.mul_nonneg (by omega) hb, ?_⟩
    have := Int.mul_le_mul (show a % 1000000 ≤ 1000000 by omega) (show b ≤ 200000000 by omega) hb (by omega)
    omega
  have t3 : (a / 1000000 * b).tdiv c = a / 1000000 * b / c := Int.tdiv_eq_ediv_of_nonneg m1.1
  have t4 : (a / 1000000 * b).tmod c = a / 1000000 * b % c := Int.tmod_eq_emod_of_nonneg m1.1
  have e0 : a * b = 1000000 * (a / 1000000 * b) + a % 1000000 * b := by
    conv => lhs; rw [← Int.mul_ediv_add_emod a 1000000]
    rw [Int.add_mul, Int.mul_assoc]
  have q0 : 0 ≤ a / 1000000 * b / c := Int.ediv_nonneg m1.1 (by omega)
  have q1 : a / 1000000 * b / c ≤ 1000000 := by
    refine Int.ediv_le_of_le_mul hc ?_
    have h1 := Int.mul_le_mul_of_nonneg_right (show a / 1000000 ≤ 1000000 by omega) hb
    omega
  have r0 : 0 ≤ a / 1000000 * b % c := Int.emod_nonneg _ (by omega)
  have r1 : a / 1000000 * b % c < c := Int.emod_lt_of_pos _ hc
  have e1 := Int.mul_ediv_add_emod (a / 1000000 * b) c
  have e2 : a * b = c * (a / 1000000 * b / c * 1000000) + (a / 1000000 * b % c * 1000000 + a % 1000000 * b) := by
    rw [e0]
    conv => lhs; rw [← e1]
    rw [Int.mul_add, ← Int.mul_assoc c, Int.mul_comm 1000000 (c * _), Int.mul_comm 1000000 (_ % _), Int.add_assoc]
  have e3 : a * b / c = a / 1000000 * b / c * 1000000 + (a / 1000000 * b % c * 1000000 + a % 1000000 * b) / c := by
    rw [e2, Int.mul_add_ediv_left _ _ (by omega)]
  have e4 : a * b % c = (a / 1000000 * b % c * 1000000 + a % 1000000 * b) % c := by
    rw [e2, Int.mul_add_emod_self_left]
  have s0 : 0 ≤ a / 1000000 * b % c * 1000000 + a % 1000000 * b := by omega
  have t5 : (a / 1000000 * b % c * 1000000 + a % 1000000 * b).tdiv c = (a / 1000000 * b % c * 1000000 + a % 1000000 * b) / c := Int.tdiv_eq_ediv_of_nonneg s0
  have t6 : (a / 1000000 * b % c * 1000000 + a % 1000000 * b).tmod c = (a / 1000000 * b % c * 1000000 + a % 1000000 * b) % c := Int.tmod_eq_emod_of_nonneg s0
  have q2 : 0 ≤ (a / 1000000 * b % c * 1000000 + a % 1000000 * b) / c := Int.ediv_nonneg s0 (by omega)
  have q3 : (a / 1000000 * b % c * 1000000 + a % 1000000 * b) / c ≤ a / 1000000 * b % c * 1000000 + a % 1000000 * b := Int.ediv_le_self _ s0
  rw [e3, e4]
  clear e0 e1 e2 e3 e4
  generalize (a / 1000000 * b % c * 1000000 + a % 1000000 * b) / c = Q at *
  generalize (a / 1000000 * b % c * 1000000 + a % 1000000 * b) % c = R at *
  generalize a / 1000000 * b % c = r at *
  generalize a / 1000000 * b / c = q at *
  generalize hu : a % 1000000 * b = u at *
  generalize hv : a / 1000000 * b = v at *
  repeat' (first
    | with_reducible apply swp_seq
    | with_reducible apply swp_reg
    | with_reducible apply swp_regD
    | with_reducible apply swp_block
    | with_reducible apply swp_exit
    | with_reducible apply swp_ret
    | with_reducible apply swp_skip
    | with_reducible apply swp_cd
    | simp only [go_sem, Nat.reduceAdd, Nat.reduceSub, Nat.reduceMul, Nat.reduceEqDiff, Nat.reduceLeDiff, Nat.reduceLT, Int.reduceEq, Int.reduceNe, Int.reduceLT, Int.reduceLE, Int.reduceAdd, Int.reduceSub, Int.reduceMul, Int.reduceNeg, Int.reduceToNat, Int.reduceTDiv, Int.reduceTMod, Int.reduceBEq, Int.reduceBNe, decide_true, decide_false, reduceCtorEq, reduceIte, P27, q27, t1, t2, t3, t4, t5, t6, hu, hv]
    | simp (disch := omega) only [w64, w32, wu8, wu16, wu32, wu64]
    | with_reducible apply cd_dec
    | with_reducible apply cd_eq
    | with_reducible apply cd_ne
    | with_reducible apply cd_split
    | ((with_reducible refine And.intro ?hw ?_); (case hw => first | omega | rfl | exact ⟨_, _, rfl⟩ | assumption | (simp only [List.length_cons, List.length_nil, List.length_append, List.length_map, List.length_replicate, List.length_take, List.length_drop] <;> omega)))
    | with_reducible intro _)
  all_goals first
    | omega
    | simp [D.closed, D.er, D.closedL, D.erL]
end Go.Proofs.YtniglomooepbcaaDoor
