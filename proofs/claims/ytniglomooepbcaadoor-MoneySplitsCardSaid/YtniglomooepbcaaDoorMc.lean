/- What the functions of money compute: the walks, second part: Percent, parts, texts. Own work. -/
import Derived.Test.YtniglomooepbcaaDoorMb
import Derived.Test.YtniglomooepbcaaDoorShelf
set_option maxRecDepth 100000
set_option linter.unusedSimpArgs false
set_option linter.unusedVariables false
namespace Go.Proofs.YtniglomooepbcaaDoor
open Go GoV

theorem tab_ok (w : World) (h : M.amb w []) : Lib.TabIs Tryd.prog w "internal/strconv.uint64pow10" .u64 Lib.pow10Tab :=
  tabIs_of (P := Tryd.prog) (r := []) h (by kernel_rfl) (List.mem_singleton.2 rfl)

theorem itoa_p (n : Int) (h0 : -9223372036854775808 ≤ n) (h1 : n ≤ 9223372036854775807) : Pur M 28 [.int .i64 n] (.str (Lib.itoa n)) := by
  refine pur_ext (vs := [.int .i64 n]) (v := .string ⟨(Lib.itoa n).toArray⟩) ⟨Tryd.f28, Tryd.func28, rfl, rfl⟩ (fun w I xs h => ?_) (fun w I => ?_) (fun w hA => ?_)
  · obtain ⟨x, xs', rfl, g1, g2⟩ := h.inv
    simp only [Rel] at g1
    rw [g2.inv_nil, g1]
  · simp [Rel]
  · refine (Tryd.strconv_Itoa n h0 h1 w (tab_ok w hA)).mono fun e w' h => ?_
    obtain ⟨rfl, k, os, rfl⟩ := h
    exact ⟨rfl, below_grow k os⟩

theorem pct_p (n p : Int) : Pur M 11 [.int .i64 n, .int .i64 p] (.tup [.int .i64 (pct n p).1, .int .i64 (pct n p).2]) := by
  refine ok11 rfl ?_
  rw [i11]
  unfold c11
  have b1 := btw_p n 0 1000000000000
  have b2 := btw_p p 0 100
  by_cases h1 : 0 ≤ n ∧ n ≤ 1000000000000
  case neg =>
    have e : pct n p = (0, 1) := by unfold pct; rw [if_neg (fun h => h1 ⟨h.1, h.2.1⟩)]
    rw [e]
    rw [decide_eq_false h1] at b1
    repeat' (first
    | with_reducible apply swp_seq
    | with_reducible apply swp_reg
    | with_reducible apply swp_regD
    | with_reducible apply swp_block
    | with_reducible apply swp_exit
    | with_reducible apply swp_ret
    | with_reducible apply swp_skip
    | with_reducible apply swp_cd
    | simp only [go_sem, Nat.reduceAdd, Nat.reduceSub, Nat.reduceMul, Nat.reduceEqDiff, Nat.reduceLeDiff, Nat.reduceLT, Int.reduceEq, Int.reduceNe, Int.reduceLT, Int.reduceLE, Int.reduceAdd, Int.reduceSub, Int.reduceMul, Int.reduceNeg, Int.reduceToNat, Int.reduceTDiv, Int.reduceTMod, Int.reduceBEq, Int.reduceBNe, decide_true, decide_false, reduceCtorEq, reduceIte, P11, q11]
    | simp (disch := omega) only [w64, w32, wu8, wu16, wu32, wu64]
    | ((with_reducible refine o_call (b1) ?he ?hc ?_); (case he => first | rfl | (simp [D.erL, D.er]; done)); (case hc => first | rfl | (simp [D.closedL, D.closed]; done)))
    | ((with_reducible refine o_call (b2) ?he ?hc ?_); (case he => first | rfl | (simp [D.erL, D.er]; done)); (case hc => first | rfl | (simp [D.closedL, D.closed]; done)))
    | with_reducible apply cd_dec
    | with_reducible apply cd_eq
    | with_reducible apply cd_ne
    | with_reducible apply cd_split
    | with_reducible apply gd_dec
    | with_reducible apply gd_eq
    | with_reducible apply gd_ne
    | with_reducible apply gd_split
    | ((with_reducible refine And.intro ?hw ?_); (case hw => first | omega | rfl | exact ⟨_, _, rfl⟩ | assumption | (simp only [List.length_cons, List.length_nil, List.length_append, List.length_map, List.length_replicate, List.length_take, List.length_drop] <;> omega)))
    | with_reducible intro _)
    all_goals first
      | omega
      | simp [D.closed, D.er, D.closedL, D.erL]
  case pos =>
    rw [decide_eq_true h1] at b1
    by_cases h2 : 0 ≤ p ∧ p ≤ 100
    case neg =>
      have e : pct n p = (0, 1) := by unfold pct; rw [if_neg (fun h => h2 ⟨h.2.2.1, h.2.2.2⟩)]
      rw [e]
      rw [decide_eq_false h2] at b2
      repeat' (first
    | with_reducible apply swp_seq
    | with_reducible apply swp_reg
    | with_reducible apply swp_regD
    | with_reducible apply swp_block
    | with_reducible apply swp_exit
    | with_reducible apply swp_ret
    | with_reducible apply swp_skip
    | with_reducible apply swp_cd
    | simp only [go_sem, Nat.reduceAdd, Nat.reduceSub, Nat.reduceMul, Nat.reduceEqDiff, Nat.reduceLeDiff, Nat.reduceLT, Int.reduceEq, Int.reduceNe, Int.reduceLT, Int.reduceLE, Int.reduceAdd, Int.reduceSub, Int.reduceMul, Int.reduceNeg, Int.reduceToNat, Int.reduceTDiv, Int.reduceTMod, Int.reduceBEq, Int.reduceBNe, decide_true, decide_false, reduceCtorEq, reduceIte, P11, q11]
    | simp (disch := omega) only [w64, w32, wu8, wu16, wu32, wu64]
    | ((with_reducible refine o_call (b1) ?he ?hc ?_); (case he => first | rfl | (simp [D.erL, D.er]; done)); (case hc => first | rfl | (simp [D.closedL, D.closed]; done)))
    | ((with_reducible refine o_call (b2) ?he ?hc ?_); (case he => first | rfl | (simp [D.erL, D.er]; done)); (case hc => first | rfl | (simp [D.closedL, D.closed]; done)))
    | with_reducible apply cd_dec
    | with_reducible apply cd_eq
    | with_reducible apply cd_ne
    | with_reducible apply cd_split
    | with_reducible apply gd_dec
    | with_reducible apply gd_eq
    | with_reducible apply gd_ne
    | with_reducible apply gd_split
    | ((with_reducible refine And.intro ?hw ?_); (case hw => first | omega | rfl | exact ⟨_, _, rfl⟩ | assumption | (simp only [List.length_cons, List.length_nil, List.length_append, List.length_map, List.length_replicate, List.length_take, List.length_drop] <;> omega)))
    | with_reducible intro _)
      all_goals first
        | omega
        | simp [D.closed, D.er, D.closedL, D.erL]
    case pos =>
      rw [decide_eq_true h2] at b2
      have hb : 0 ≤ n * p ∧ n * p ≤ 100000000000000 := by
        refine ⟨Int.mul_nonneg h1.1 h2.1, ?_⟩
        have := Int.mul_le_mul h1.2 h2.2 h2.1 (by omega : (0 : Int) ≤ 1000000000000)
        omega
      have e : pct n p = (n * p / 100 + (if n * p % 100 > 50 ∨ n * p % 100 = 50 ∧ n * p / 100 % 2 = 1 then 1 else 0), 0) := by unfold pct; rw [if_pos ⟨h1.1, h1.2, h2.1, h2.2⟩]
      rw [e]
      generalize hnp : n * p = m at *
      have t1 : m.tdiv 100 = m / 100 := Int.tdiv_eq_ediv_of_nonneg (by omega)
      have t2 : m.tmod 100 = m % 100 := Int.tmod_eq_emod_of_nonneg (by omega)
      have t3 : (m / 100).tmod 2 = m / 100 % 2 := Int.tmod_eq_emod_of_nonneg (by omega)
      have r1 : 0 ≤ m % 100 ∧ m % 100 < 100 := by omega
      have r2 : 0 ≤ m / 100 ∧ m / 100 ≤ 1000000000000 := by omega
      have r3 : 0 ≤ m / 100 % 2 ∧ m / 100 % 2 < 2 := by omega
      generalize m % 100 = r at *
      generalize hq : m / 100 = q at *
      repeat' (first
    | with_reducible apply swp_seq
    | with_reducible apply swp_reg
    | with_reducible apply swp_regD
    | with_reducible apply swp_block
    | with_reducible apply swp_exit
    | with_reducible apply swp_ret
    | with_reducible apply swp_skip
    | with_reducible apply swp_cd
    | simp only [go_sem, Nat.reduceAdd, Nat.reduceSub, Nat.reduceMul, Nat.reduceEqDiff, Nat.reduceLeDiff, Nat.reduceLT, Int.reduceEq, Int.reduceNe, Int.reduceLT, Int.reduceLE, Int.reduceAdd, Int.reduceSub, Int.reduceMul, Int.reduceNeg, Int.reduceToNat, Int.reduceTDiv, Int.reduceTMod, Int.reduceBEq, Int.reduceBNe, decide_true, decide_false, reduceCtorEq, reduceIte, P11, q11, hnp, t1, t2, t3]
    | simp (disch := omega) only [w64, w32, wu8, wu16, wu32, wu64]
    | ((with_reducible refine o_call (b1) ?he ?hc ?_); (case he => first | rfl | (simp [D.erL, D.er]; done)); (case hc => first | rfl | (simp [D.closedL, D.closed]; done)))
    | ((with_reducible refine o_call (b2) ?he ?hc ?_); (case he => first | rfl | (simp [D.erL, D.er]; done)); (case hc => first | rfl | (simp [D.closedL, D.closed]; done)))
    | with_reducible apply cd_dec
    | with_reducible apply cd_eq
    | with_reducible apply cd_ne
    | with_reducible apply cd_split
    | with_reducible apply gd_dec
    | with_reducible apply gd_eq
    | with_reducible apply gd_ne
    | with_reducible apply gd_split
    | ((with_reducible refine And.intro ?hw ?_); (case hw => first | omega | rfl | exact ⟨_, _, rfl⟩ | assumption | (simp only [List.length_cons, List.length_nil, List.length_append, List.length_map, List.length_replicate, List.length_take, List.length_drop] <;> omega)))
    | with_reducible intro _)
      all_goals first
        | omega
        | (simp [D.closed, D.er, D.closedL, D.erL]; omega)

theorem rpct_p (n p : Int) : Pur M 12 [.int .i64 n, .int .i64 p] (.tup [.int .i64 (pct n p).1, .int .i64 (pct n p).2]) := by
  refine ok12 rfl ?_
  rw [i12]
  unfold c12
  have b1 := is_p n
  by_cases h1 : 0 ≤ n ∧ n ≤ 1000000000000
  case neg =>
    have e : pct n p = (0, 1) := by unfold pct; rw [if_neg (fun h => h1 ⟨h.1, h.2.1⟩)]
    rw [e]
    rw [decide_eq_false h1] at b1
    repeat' (first
    | with_reducible apply swp_seq
    | with_reducible apply swp_reg
    | with_reducible apply swp_regD
    | with_reducible apply swp_block
    | with_reducible apply swp_exit
    | with_reducible apply swp_ret
    | with_reducible apply swp_skip
    | with_reducible apply swp_cd
    | simp only [go_sem, Nat.reduceAdd, Nat.reduceSub, Nat.reduceMul, Nat.reduceEqDiff, Nat.reduceLeDiff, Nat.reduceLT, Int.reduceEq, Int.reduceNe, Int.reduceLT, Int.reduceLE, Int.reduceAdd, Int.reduceSub, Int.reduceMul, Int.reduceNeg, Int.reduceToNat, Int.reduceTDiv, Int.reduceTMod, Int.reduceBEq, Int.reduceBNe, decide_true, decide_false, reduceCtorEq, reduceIte, P12, q12]
    | simp (disch := omega) only [w64, w32, wu8, wu16, wu32, wu64]
    | ((with_reducible refine o_call (b1) ?he ?hc ?_); (case he => first | rfl | (simp [D.erL, D.er]; done)); (case hc => first | rfl | (simp [D.closedL, D.closed]; done)))
    | with_reducible apply cd_dec
    | with_reducible apply cd_eq
    | with_reducible apply cd_ne
    | with_reducible apply cd_split
    | with_reducible apply gd_dec
    | with_reducible apply gd_eq
    | with_reducible apply gd_ne
    | with_reducible apply gd_split
    | ((with_reducible refine And.intro ?hw ?_); (case hw => first | omega | rfl | exact ⟨_, _, rfl⟩ | assumption | (simp only [List.length_cons, List.length_nil, List.length_append, List.length_map, List.length_replicate, List.length_take, List.length_drop] <;> omega)))
    | with_reducible intro _)
    all_goals first
      | omega
      | simp [D.closed, D.er, D.closedL, D.erL]
  case pos =>
    rw [decide_eq_true h1] at b1
    by_cases h2 : 0 ≤ p ∧ p ≤ 100
    case neg =>
      have e : pct n p = (0, 1) := by unfold pct; rw [if_neg (fun h => h2 ⟨h.2.2.1, h.2.2.2⟩)]
      rw [e]
      repeat' (first
    | with_reducible apply swp_seq
    | with_reducible apply swp_reg
    | with_reducible apply swp_regD
    | with_reducible apply swp_block
    | with_reducible apply swp_exit
    | with_reducible apply swp_ret
    | with_reducible apply swp_skip
    | with_reducible apply swp_cd
    | simp only [go_sem, Nat.reduceAdd, Nat.reduceSub, Nat.reduceMul, Nat.reduceEqDiff, Nat.reduceLeDiff, Nat.reduceLT, Int.reduceEq, Int.reduceNe, Int.reduceLT, Int.reduceLE, Int.reduceAdd, Int.reduceSub, Int.reduceMul, Int.reduceNeg, Int.reduceToNat, Int.reduceTDiv, Int.reduceTMod, Int.reduceBEq, Int.reduceBNe, decide_true, decide_false, reduceCtorEq, reduceIte, P12, q12]
    | simp (disch := omega) only [w64, w32, wu8, wu16, wu32, wu64]
    | ((with_reducible refine o_call (b1) ?he ?hc ?_); (case he => first | rfl | (simp [D.erL, D.er]; done)); (case hc => first | rfl | (simp [D.closedL, D.closed]; done)))
    | with_reducible apply cd_dec
    | with_reducible apply cd_eq
    | with_reducible apply cd_ne
    | with_reducible apply cd_split
    | with_reducible apply gd_dec
    | with_reducible apply gd_eq
    | with_reducible apply gd_ne
    | with_reducible apply gd_split
    | ((with_reducible refine And.intro ?hw ?_); (case hw => first | omega | rfl | exact ⟨_, _, rfl⟩ | assumption | (simp only [List.length_cons, List.length_nil, List.length_append, List.length_map, List.length_replicate, List.length_take, List.length_drop] <;> omega)))
    | with_reducible intro _)
      all_goals first
        | omega
        | simp [D.closed, D.er, D.closedL, D.erL]
    case pos =>
      have hb : 0 ≤ n * p ∧ n * p ≤ 100000000000000 := by
        refine ⟨Int.mul_nonneg h1.1 h2.1, ?_⟩
        have := Int.mul_le_mul h1.2 h2.2 h2.1 (by omega : (0 : Int) ≤ 1000000000000)
        omega
      have e : pct n p = (n * p / 100 + (if n * p % 100 > 50 ∨ n * p % 100 = 50 ∧ n * p / 100 % 2 = 1 then 1 else 0), 0) := by unfold pct; rw [if_pos ⟨h1.1, h1.2, h2.1, h2.2⟩]
      rw [e]
      generalize hnp : n * p = m at *
      have t1 : m.tdiv 100 = m / 100 := Int.tdiv_eq_ediv_of_nonneg (by omega)
      have t2 : m.tmod 100 = m % 100 := Int.tmod_eq_emod_of_nonneg (by omega)
      have t3 : (m / 100).tmod 2 = m / 100 % 2 := Int.tmod_eq_emod_of_nonneg (by omega)
      have r1 : 0 ≤ m % 100 ∧ m % 100 < 100 := by omega
      have r2 : 0 ≤ m / 100 ∧ m / 100 ≤ 1000000000000 := by omega
      have r3 : 0 ≤ m / 100 % 2 ∧ m / 100 % 2 < 2 := by omega
      generalize m % 100 = r at *
      generalize hq : m / 100 = q at *
      repeat' (first
    | with_reducible apply swp_seq
    | with_reducible apply swp_reg
    | with_reducible apply swp_regD
    | with_reducible apply swp_block
    | with_reducible apply swp_exit
    | with_reducible apply swp_ret
    | with_reducible apply swp_skip
    | with_reducible apply swp_cd
    | simp only [go_sem, Nat.reduceAdd, Nat.reduceSub, Nat.reduceMul, Nat.reduceEqDiff, Nat.reduceLeDiff, Nat.reduceLT, Int.reduceEq, Int.reduceNe, Int.reduceLT, Int.reduceLE, Int.reduceAdd, Int.reduceSub, Int.reduceMul, Int.reduceNeg, Int.reduceToNat, Int.reduceTDiv, Int.reduceTMod, Int.reduceBEq, Int.reduceBNe, decide_true, decide_false, reduceCtorEq, reduceIte, P12, q12, hnp, t1, t2, t3]
    | simp (disch := omega) only [w64, w32, wu8, wu16, wu32, wu64]
    | ((with_reducible refine o_call (b1) ?he ?hc ?_); (case he => first | rfl | (simp [D.erL, D.er]; done)); (case hc => first | rfl | (simp [D.closedL, D.closed]; done)))
    | with_reducible apply cd_dec
    | with_reducible apply cd_eq
    | with_reducible apply cd_ne
    | with_reducible apply cd_split
    | with_reducible apply gd_dec
    | with_reducible apply gd_eq
    | with_reducible apply gd_ne
    | with_reducible apply gd_split
    | ((with_reducible refine And.intro ?hw ?_); (case hw => first | omega | rfl | exact ⟨_, _, rfl⟩ | assumption | (simp only [List.length_cons, List.length_nil, List.length_append, List.length_map, List.length_replicate, List.length_take, List.length_drop] <;> omega)))
    | with_reducible intro _)
      all_goals first
        | omega
        | (simp [D.closed, D.er, D.closedL, D.erL]; omega)

/-- Decimal digits. -/
theorem dec_step {u : Nat} (h : ¬u < 10) : Lib.decDigits u = Lib.decDigits (u / 10) ++ [UInt8.ofNat (48 + u % 10)] := by
  rw [Lib.decDigits, dif_neg h]

theorem digit_at (r : Nat) (h : r < 10) : List.drop r (48 :: List.take r ([49, 50, 51, 52, 53, 54, 55, 56, 57] : List UInt8)) = [UInt8.ofNat (48 + r)] := by
  have : r = 0 ∨ r = 1 ∨ r = 2 ∨ r = 3 ∨ r = 4 ∨ r = 5 ∨ r = 6 ∨ r = 7 ∨ r = 8 ∨ r = 9 := by omega
  rcases this with h | h | h | h | h | h | h | h | h | h <;> subst h <;> rfl

theorem dec_p (n : Nat) (h0 : n < 100000000000000) : Pur M 29 [.int .i64 n] (.str (Lib.decDigits n)) := by
  refine ok29 rfl ?_
  rw [i29]
  unfold c29
  repeat' (first
    | with_reducible apply swp_seq
    | with_reducible apply swp_reg
    | with_reducible apply swp_regD
    | with_reducible apply swp_block
    | with_reducible apply swp_exit
    | with_reducible apply swp_ret
    | with_reducible apply swp_skip
    | with_reducible apply swp_cd
    | simp only [go_sem, Nat.reduceAdd, Nat.reduceSub, Nat.reduceMul, Nat.reduceEqDiff, Nat.reduceLeDiff, Nat.reduceLT, Int.reduceEq, Int.reduceNe, Int.reduceLT, Int.reduceLE, Int.reduceAdd, Int.reduceSub, Int.reduceMul, Int.reduceNeg, Int.reduceToNat, Int.reduceTDiv, Int.reduceTMod, Int.reduceBEq, Int.reduceBNe, decide_true, decide_false, reduceCtorEq, reduceIte, P29, q29]
    | simp (disch := omega) only [w64, w32, wu8, wu16, wu32, wu64]
    | with_reducible apply cd_dec
    | with_reducible apply cd_eq
    | with_reducible apply cd_ne
    | with_reducible apply cd_split
    | ((with_reducible refine And.intro ?hw ?_); (case hw => first | omega | rfl | exact ⟨_, _, rfl⟩ | assumption | (simp only [List.length_cons, List.length_nil, List.length_append, List.length_map, List.length_replicate, List.length_take, List.length_drop] <;> omega)))
    | with_reducible intro _)
  refine swp_fam [0, 1, 2] (fun p : Nat × List UInt8 => ⟨[.int .i64 p.1, .str [], .str p.2, .undef], [], ⟨[], []⟩⟩)
    (fun p => p.1 ≤ n ∧ p.2.length + p.1 ≤ n ∧ Lib.decDigits p.1 ++ p.2 = Lib.decDigits n) (fun p => p.1) (n, []) ⟨by simp, by simp, by simp⟩ ?_ ?_
  · simp [keepE, St.keep]
  · rintro ⟨m, s⟩ ⟨g1, g2, g3⟩
    simp only at g1 g2 g3 ⊢
    have t1 : (m : Int).tmod 10 = ((m % 10 : Nat) : Int) := by rw [Int.tmod_eq_emod_of_nonneg (by omega)]; omega
    have t2 : (m : Int).tdiv 10 = ((m / 10 : Nat) : Int) := by rw [Int.tdiv_eq_ediv_of_nonneg (by omega)]; omega
    have t3 : ((m % 10 : Nat) : Int).toNat = m % 10 := by omega
    have t4 : (((m % 10 : Nat) : Int) + 1).toNat = m % 10 + 1 := by omega
    have t5 := digit_at (m % 10) (by omega)
    have t6 : ([UInt8.ofNat (48 + m % 10)] : List UInt8).length = 1 := rfl
    have hb : m % 10 < 10 := by omega
    by_cases hm : 9 < m
    · repeat' (first
    | with_reducible apply swp_seq
    | with_reducible apply swp_reg
    | with_reducible apply swp_regD
    | with_reducible apply swp_block
    | with_reducible apply swp_exit
    | with_reducible apply swp_ret
    | with_reducible apply swp_skip
    | with_reducible apply swp_cd
    | simp only [go_sem, Nat.reduceAdd, Nat.reduceSub, Nat.reduceMul, Nat.reduceEqDiff, Nat.reduceLeDiff, Nat.reduceLT, Int.reduceEq, Int.reduceNe, Int.reduceLT, Int.reduceLE, Int.reduceAdd, Int.reduceSub, Int.reduceMul, Int.reduceNeg, Int.reduceToNat, Int.reduceTDiv, Int.reduceTMod, Int.reduceBEq, Int.reduceBNe, decide_true, decide_false, reduceCtorEq, reduceIte, P29, q29, t1, t2, t3, t4, t5, t6, List.length_append]
    | simp (disch := omega) only [w64, w32, wu8, wu16, wu32, wu64]
    | with_reducible apply cd_dec
    | with_reducible apply cd_eq
    | with_reducible apply cd_ne
    | with_reducible apply cd_split
    | ((with_reducible refine And.intro ?hw ?_); (case hw => first | omega | rfl | exact ⟨_, _, rfl⟩ | assumption | (simp only [List.length_cons, List.length_nil, List.length_append, List.length_map, List.length_replicate, List.length_take, List.length_drop] <;> omega)))
    | with_reducible intro _)
      all_goals try omega
      refine ⟨(m / 10, UInt8.ofNat (48 + m % 10) :: s), ⟨by simp only; omega, by simp only [List.length_cons]; omega, ?_⟩, by simp only; omega, ?_⟩
      · rw [← g3, dec_step (u := m) (by omega)]
        simp
      · simp [keepE, St.keep]
    · have u1 : ((m : Int)).toNat = m := by omega
      have u2 : ((m : Int) + 1).toNat = m + 1 := by omega
      have u5 := digit_at m (by omega)
      have u6 : ([UInt8.ofNat (48 + m)] : List UInt8).length = 1 := rfl
      repeat' (first
    | with_reducible apply swp_seq
    | with_reducible apply swp_reg
    | with_reducible apply swp_regD
    | with_reducible apply swp_block
    | with_reducible apply swp_exit
    | with_reducible apply swp_ret
    | with_reducible apply swp_skip
    | with_reducible apply swp_cd
    | simp only [go_sem, Nat.reduceAdd, Nat.reduceSub, Nat.reduceMul, Nat.reduceEqDiff, Nat.reduceLeDiff, Nat.reduceLT, Int.reduceEq, Int.reduceNe, Int.reduceLT, Int.reduceLE, Int.reduceAdd, Int.reduceSub, Int.reduceMul, Int.reduceNeg, Int.reduceToNat, Int.reduceTDiv, Int.reduceTMod, Int.reduceBEq, Int.reduceBNe, decide_true, decide_false, reduceCtorEq, reduceIte, P29, q29, u1, u2, u5, u6, List.length_append]
    | simp (disch := omega) only [w64, w32, wu8, wu16, wu32, wu64]
    | with_reducible apply cd_dec
    | with_reducible apply cd_eq
    | with_reducible apply cd_ne
    | with_reducible apply cd_split
    | ((with_reducible refine And.intro ?hw ?_); (case hw => first | omega | rfl | exact ⟨_, _, rfl⟩ | assumption | (simp only [List.length_cons, List.length_nil, List.length_append, List.length_map, List.length_replicate, List.length_take, List.length_drop] <;> omega)))
    | with_reducible intro _)
      all_goals try omega
      rw [← g3, Lib.decDigits_one (by omega)]
      have : m % 10 = m := by omega
      simp [D.closed, D.er]

/-- The text of an amount. -/
def txt (n : Int) : List UInt8 := Lib.decDigits (n / 100).toNat ++ [46, UInt8.ofNat (48 + (n / 10 % 10).toNat), UInt8.ofNat (48 + (n % 10).toNat)]

abbrev Am (n : Int) : Prop := 0 ≤ n ∧ n ≤ 1000000000000
def txtR (n : Int) : List UInt8 := if Am n then txt n else []
def txtE (n : Int) : Int := if Am n then 0 else 1

theorem nd_le : ∀ (k u : Nat), u < 10 ^ (k + 1) → (Lib.decDigits u).length ≤ k + 1
  | 0, u, h => by rw [Lib.decDigits_one (by omega)]; simp
  | k + 1, u, h => by
    by_cases hu : u < 10
    · rw [Lib.decDigits_one hu]; simp
    · rw [dec_step hu]
      have := nd_le k (u / 10) (by rw [Nat.pow_succ] at h; omega)
      simp; omega

theorem rtext_p (n : Int) : Pur M 14 [.int .i64 n] (.tup [.str (txtR n), .int .i64 (txtE n)]) := by
  refine ok14 rfl ?_
  rw [i14]
  unfold c14
  have b1 := is_p n
  by_cases h : Am n
  case neg =>
    rw [decide_eq_false h] at b1
    have e1 : txtR n = [] := by unfold txtR; rw [if_neg h]
    have e2 : txtE n = 1 := by unfold txtE; rw [if_neg h]
    rw [e1, e2]
    repeat' (first
    | with_reducible apply swp_seq
    | with_reducible apply swp_reg
    | with_reducible apply swp_regD
    | with_reducible apply swp_block
    | with_reducible apply swp_exit
    | with_reducible apply swp_ret
    | with_reducible apply swp_skip
    | with_reducible apply swp_cd
    | simp only [go_sem, Nat.reduceAdd, Nat.reduceSub, Nat.reduceMul, Nat.reduceEqDiff, Nat.reduceLeDiff, Nat.reduceLT, Int.reduceEq, Int.reduceNe, Int.reduceLT, Int.reduceLE, Int.reduceAdd, Int.reduceSub, Int.reduceMul, Int.reduceNeg, Int.reduceToNat, Int.reduceTDiv, Int.reduceTMod, Int.reduceBEq, Int.reduceBNe, decide_true, decide_false, reduceCtorEq, reduceIte, P14, q14]
    | simp (disch := omega) only [w64, w32, wu8, wu16, wu32, wu64]
    | ((with_reducible refine o_call (b1) ?he ?hc ?_); (case he => first | rfl | (simp [D.erL, D.er]; done)); (case hc => first | rfl | (simp [D.closedL, D.closed]; done)))
    | with_reducible apply cd_dec
    | with_reducible apply cd_eq
    | with_reducible apply cd_ne
    | with_reducible apply cd_split
    | ((with_reducible refine And.intro ?hw ?_); (case hw => first | omega | rfl | exact ⟨_, _, rfl⟩ | assumption | (simp only [List.length_cons, List.length_nil, List.length_append, List.length_map, List.length_replicate, List.length_take, List.length_drop] <;> omega)))
    | with_reducible intro _)
    all_goals simp [D.closed, D.er, D.closedL, D.erL]
  case pos =>
    rw [decide_eq_true h] at b1
    have e1 : txtR n = txt n := by unfold txtR; rw [if_pos h]
    have e2 : txtE n = 0 := by unfold txtE; rw [if_pos h]
    obtain ⟨m, rfl⟩ : ∃ m : Nat, n = m := ⟨n.toNat, by omega⟩
    have hm : m ≤ 1000000000000 := by have := h.2; omega
    have d1 := dec_p (m / 100) (by omega)
    have d2 := dec_p (m / 10 % 10) (by omega)
    have d3 := dec_p (m % 10) (by omega)
    rw [e1, e2]
    have et : txt m = Lib.decDigits (m / 100) ++ [46] ++ [UInt8.ofNat (48 + m / 10 % 10)] ++ [UInt8.ofNat (48 + m % 10)] := by
      unfold txt
      have a1 : ((m : Int) / 100).toNat = m / 100 := by omega
      have a2 : ((m : Int) / 10 % 10).toNat = m / 10 % 10 := by omega
      have a3 : ((m : Int) % 10).toNat = m % 10 := by omega
      rw [a1, a2, a3]; simp
    rw [Lib.decDigits_one (by omega)] at d2 d3
    have t1 : (m : Int).tdiv 100 = ((m / 100 : Nat) : Int) := by rw [Int.tdiv_eq_ediv_of_nonneg (by omega)]; omega
    have t2 : (m : Int).tdiv 10 = ((m / 10 : Nat) : Int) := by rw [Int.tdiv_eq_ediv_of_nonneg (by omega)]; omega
    have t3 : ((m / 10 : Nat) : Int).tmod 10 = ((m / 10 % 10 : Nat) : Int) := by rw [Int.tmod_eq_emod_of_nonneg (by omega)]; omega
    have t4 : (m : Int).tmod 10 = ((m % 10 : Nat) : Int) := by rw [Int.tmod_eq_emod_of_nonneg (by omega)]; omega
    have hl := nd_le 14 (m / 100) (by omega)
    rw [et]
    generalize Lib.decDigits (m / 100) = l at *
    repeat' (first
    | with_reducible apply swp_seq
    | with_reducible apply swp_reg
    | with_reducible apply swp_regD
    | with_reducible apply swp_block
    | with_reducible apply swp_exit
    | with_reducible apply swp_ret
    | with_reducible apply swp_skip
    | with_reducible apply swp_cd
    | simp only [go_sem, Nat.reduceAdd, Nat.reduceSub, Nat.reduceMul, Nat.reduceEqDiff, Nat.reduceLeDiff, Nat.reduceLT, Int.reduceEq, Int.reduceNe, Int.reduceLT, Int.reduceLE, Int.reduceAdd, Int.reduceSub, Int.reduceMul, Int.reduceNeg, Int.reduceToNat, Int.reduceTDiv, Int.reduceTMod, Int.reduceBEq, Int.reduceBNe, decide_true, decide_false, reduceCtorEq, reduceIte, P14, q14, t1, t2, t3, t4, List.length_append]
    | simp (disch := omega) only [w64, w32, wu8, wu16, wu32, wu64]
    | ((with_reducible refine o_call (b1) ?he ?hc ?_); (case he => first | rfl | (simp [D.erL, D.er]; done)); (case hc => first | rfl | (simp [D.closedL, D.closed]; done)))
    | ((with_reducible refine o_call (d1) ?he ?hc ?_); (case he => first | rfl | (simp [D.erL, D.er]; done)); (case hc => first | rfl | (simp [D.closedL, D.closed]; done)))
    | ((with_reducible refine o_call (d2) ?he ?hc ?_); (case he => first | rfl | (simp [D.erL, D.er]; done)); (case hc => first | rfl | (simp [D.closedL, D.closed]; done)))
    | ((with_reducible refine o_call (d3) ?he ?hc ?_); (case he => first | rfl | (simp [D.erL, D.er]; done)); (case hc => first | rfl | (simp [D.closedL, D.closed]; done)))
    | with_reducible apply cd_dec
    | with_reducible apply cd_eq
    | with_reducible apply cd_ne
    | with_reducible apply cd_split
    | ((with_reducible refine And.intro ?hw ?_); (case hw => first | omega | rfl | exact ⟨_, _, rfl⟩ | assumption | (simp only [List.length_cons, List.length_nil, List.length_append, List.length_map, List.length_replicate, List.length_take, List.length_drop] <;> omega)))
    | with_reducible intro _)
    all_goals first
      | omega
      | simp [D.closed, D.er, D.closedL, D.erL]

theorem itoa_cents {k : Nat} (h : k < 100) : Lib.itoa ((100 + k : Nat) : Int) = [49, UInt8.ofNat (48 + k / 10), UInt8.ofNat (48 + k % 10)] := by
  unfold Lib.itoa
  have e0 : ((100 + k : Nat) : Int).toNat = 100 + k := by omega
  rw [if_neg (by omega), e0, dec_step (by omega), dec_step (by omega), Lib.decDigits_one (by omega)]
  have e1 : (100 + k) / 10 / 10 = 1 := by omega
  have e2 : (100 + k) / 10 % 10 = k / 10 := by omega
  have e3 : (100 + k) % 10 = k % 10 := by omega
  rw [e1, e2, e3]
  rfl

theorem text_p (n : Int) : Pur M 13 [.int .i64 n] (.tup [.str (txtR n), .int .i64 (txtE n)]) := by
  refine ok13 rfl ?_
  rw [i13]
  unfold c13
  have b1 := btw_p n 0 1000000000000
  by_cases h : Am n
  case neg =>
    rw [decide_eq_false h] at b1
    have e1 : txtR n = [] := by unfold txtR; rw [if_neg h]
    have e2 : txtE n = 1 := by unfold txtE; rw [if_neg h]
    rw [e1, e2]
    repeat' (first
    | with_reducible apply swp_seq
    | with_reducible apply swp_reg
    | with_reducible apply swp_regD
    | with_reducible apply swp_block
    | with_reducible apply swp_exit
    | with_reducible apply swp_ret
    | with_reducible apply swp_skip
    | with_reducible apply swp_cd
    | simp only [go_sem, Nat.reduceAdd, Nat.reduceSub, Nat.reduceMul, Nat.reduceEqDiff, Nat.reduceLeDiff, Nat.reduceLT, Int.reduceEq, Int.reduceNe, Int.reduceLT, Int.reduceLE, Int.reduceAdd, Int.reduceSub, Int.reduceMul, Int.reduceNeg, Int.reduceToNat, Int.reduceTDiv, Int.reduceTMod, Int.reduceBEq, Int.reduceBNe, decide_true, decide_false, reduceCtorEq, reduceIte, P13, q13]
    | simp (disch := omega) only [w64, w32, wu8, wu16, wu32, wu64]
    | ((with_reducible refine o_call (b1) ?he ?hc ?_); (case he => first | rfl | (simp [D.erL, D.er]; done)); (case hc => first | rfl | (simp [D.closedL, D.closed]; done)))
    | ((with_reducible refine p_call (b1) ?he ?hc ?_); (case he => first | rfl | (simp [D.erL, D.er]; done)); (case hc => first | rfl | (simp [D.closedL, D.closed]; done)))
    | ((with_reducible refine c_call (b1) ?he ?hc ?_); (case he => first | rfl | (simp [D.erL, D.er]; done)); (case hc => first | rfl | (simp [D.closedL, D.closed]; done)))
    | with_reducible apply cd_dec
    | with_reducible apply cd_eq
    | with_reducible apply cd_ne
    | with_reducible apply cd_split
    | ((with_reducible refine And.intro ?hw ?_); (case hw => first | omega | rfl | exact ⟨_, _, rfl⟩ | assumption | (simp only [List.length_cons, List.length_nil, List.length_append, List.length_map, List.length_replicate, List.length_take, List.length_drop] <;> omega)))
    | with_reducible intro _)
    all_goals simp [D.closed, D.er, D.closedL, D.erL]
  case pos =>
    rw [decide_eq_true h] at b1
    have e1 : txtR n = txt n := by unfold txtR; rw [if_pos h]
    have e2 : txtE n = 0 := by unfold txtE; rw [if_pos h]
    obtain ⟨m, rfl⟩ : ∃ m : Nat, n = m := ⟨n.toNat, by omega⟩
    have hm : m ≤ 1000000000000 := by have := h.2; omega
    have d1 := itoa_p ((100 + m % 100 : Nat) : Int) (by omega) (by omega)
    have d2 := itoa_p ((m / 100 : Nat) : Int) (by omega) (by omega)
    rw [e1, e2]
    rw [itoa_cents (by omega)] at d1
    have ei : Lib.itoa ((m / 100 : Nat) : Int) = Lib.decDigits (m / 100) := by
      unfold Lib.itoa
      rw [if_neg (by omega)]
      congr 1
    rw [ei] at d2
    have et : txt m = Lib.decDigits (m / 100) ++ [46] ++ [UInt8.ofNat (48 + m % 100 / 10), UInt8.ofNat (48 + m % 100 % 10)] := by
      unfold txt
      have a1 : ((m : Int) / 100).toNat = m / 100 := by omega
      have a2 : ((m : Int) / 10 % 10).toNat = m % 100 / 10 := by omega
      have a3 : ((m : Int) % 10).toNat = m % 100 % 10 := by omega
      rw [a1, a2, a3]; simp
    have t1 : (m : Int).tdiv 100 = ((m / 100 : Nat) : Int) := by rw [Int.tdiv_eq_ediv_of_nonneg (by omega)]; omega
    have t2 : (m : Int).tmod 100 = ((m % 100 : Nat) : Int) := by rw [Int.tmod_eq_emod_of_nonneg (by omega)]; omega
    have t3 : IntKind.i64.wrap (100 + ((m % 100 : Nat) : Int)) = ((100 + m % 100 : Nat) : Int) := by rw [w64 (by omega) (by omega)]; omega
    have hl := nd_le 14 (m / 100) (by omega)
    rw [et]
    generalize Lib.decDigits (m / 100) = l at *
    generalize UInt8.ofNat (48 + m % 100 / 10) = x1 at *
    generalize UInt8.ofNat (48 + m % 100 % 10) = x2 at *
    repeat' (first
    | with_reducible apply swp_seq
    | with_reducible apply swp_reg
    | with_reducible apply swp_regD
    | with_reducible apply swp_block
    | with_reducible apply swp_exit
    | with_reducible apply swp_ret
    | with_reducible apply swp_skip
    | with_reducible apply swp_cd
    | simp only [go_sem, Nat.reduceAdd, Nat.reduceSub, Nat.reduceMul, Nat.reduceEqDiff, Nat.reduceLeDiff, Nat.reduceLT, Int.reduceEq, Int.reduceNe, Int.reduceLT, Int.reduceLE, Int.reduceAdd, Int.reduceSub, Int.reduceMul, Int.reduceNeg, Int.reduceToNat, Int.reduceTDiv, Int.reduceTMod, Int.reduceBEq, Int.reduceBNe, decide_true, decide_false, reduceCtorEq, reduceIte, P13, q13, t1, t2, t3, List.length_append]
    | simp (disch := omega) only [w64, w32, wu8, wu16, wu32, wu64]
    | ((with_reducible refine o_call (b1) ?he ?hc ?_); (case he => first | rfl | (simp [D.erL, D.er]; done)); (case hc => first | rfl | (simp [D.closedL, D.closed]; done)))
    | ((with_reducible refine p_call (b1) ?he ?hc ?_); (case he => first | rfl | (simp [D.erL, D.er]; done)); (case hc => first | rfl | (simp [D.closedL, D.closed]; done)))
    | ((with_reducible refine c_call (b1) ?he ?hc ?_); (case he => first | rfl | (simp [D.erL, D.er]; done)); (case hc => first | rfl | (simp [D.closedL, D.closed]; done)))
    | ((with_reducible refine o_call (d1) ?he ?hc ?_); (case he => first | rfl | (simp [D.erL, D.er]; done)); (case hc => first | rfl | (simp [D.closedL, D.closed]; done)))
    | ((with_reducible refine p_call (d1) ?he ?hc ?_); (case he => first | rfl | (simp [D.erL, D.er]; done)); (case hc => first | rfl | (simp [D.closedL, D.closed]; done)))
    | ((with_reducible refine c_call (d1) ?he ?hc ?_); (case he => first | rfl | (simp [D.erL, D.er]; done)); (case hc => first | rfl | (simp [D.closedL, D.closed]; done)))
    | ((with_reducible refine o_call (d2) ?he ?hc ?_); (case he => first | rfl | (simp [D.erL, D.er]; done)); (case hc => first | rfl | (simp [D.closedL, D.closed]; done)))
    | ((with_reducible refine p_call (d2) ?he ?hc ?_); (case he => first | rfl | (simp [D.erL, D.er]; done)); (case hc => first | rfl | (simp [D.closedL, D.closed]; done)))
    | ((with_reducible refine c_call (d2) ?he ?hc ?_); (case he => first | rfl | (simp [D.erL, D.er]; done)); (case hc => first | rfl | (simp [D.closedL, D.closed]; done)))
    | with_reducible apply cd_dec
    | with_reducible apply cd_eq
    | with_reducible apply cd_ne
    | with_reducible apply cd_split
    | ((with_reducible refine And.intro ?hw ?_); (case hw => first | omega | rfl | exact ⟨_, _, rfl⟩ | assumption | (simp only [List.length_cons, List.length_nil, List.length_append, List.length_map, List.length_replicate, List.length_take, List.length_drop] <;> omega)))
    | with_reducible intro _)
    all_goals first
      | omega
      | simp [D.closed, D.er, D.closedL, D.erL]
end Go.Proofs.YtniglomooepbcaaDoor
