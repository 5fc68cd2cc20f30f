/- What the functions of the day compute: the walks, sixth part: Text, and the examples. Own work. -/
import Derived.Test.YtapoplenfgjcjaaDoorDu
import Derived.Test.YtapoplenfgjcjaaDoorShelf
set_option maxRecDepth 100000
set_option linter.unusedSimpArgs false
set_option linter.unusedVariables false
namespace Go.Proofs.YtapoplenfgjcjaaDoor
open Go GoV

theorem tab_ok (w : World) (h : M.amb w []) : Lib.TabIs Tryd.prog w "internal/strconv.uint64pow10" .u64 Lib.pow10Tab :=
  tabIs_var (P := Tryd.prog) (r := []) h (by kernel_rfl) (List.mem_cons.2 (.inl rfl))

theorem itoa_p (n : Int) (h0 : -9223372036854775808 ≤ n) (h1 : n ≤ 9223372036854775807) : Pur M 28 [.int .i64 n] (.str (Lib.itoa n)) := by
  refine pur_ext (vs := [.int .i64 n]) (v := .string ⟨(Lib.itoa n).toArray⟩) ⟨Tryd.f28, Tryd.func28, rfl, rfl⟩ (fun w I xs h => ?_) (fun w I => ?_) (fun w hA => ?_)
  · obtain ⟨x, xs', rfl, g1, g2⟩ := h.inv
    simp only [Rel] at g1
    rw [g2.inv_nil, g1]
  · simp [Rel]
  · refine (Tryd.strconv_Itoa n h0 h1 w (tab_ok w hA)).mono fun e w' h => ?_
    obtain ⟨rfl, k, os, rfl⟩ := h
    exact ⟨rfl, below_grow k os⟩

theorem nd_le {u : Nat} (h : u < 10000) : 1 ≤ Lib.nDigits u ∧ Lib.nDigits u ≤ 4 := by
  have a (v : Nat) (h : v < 10) : Lib.nDigits v = 1 := Lib.nDigits_small h
  by_cases h1 : u < 10
  · rw [a u h1]; omega
  rw [Lib.nDigits, dif_neg h1]
  by_cases h2 : u / 10 < 10
  · rw [a _ h2]; omega
  rw [Lib.nDigits, dif_neg h2]
  by_cases h3 : u / 10 / 10 < 10
  · rw [a _ h3]; omega
  rw [Lib.nDigits, dif_neg h3]
  rw [a _ (by omega)]; omega

theorem itoa_len {n : Int} (h0 : 0 ≤ n) (h1 : n < 10000) : 1 ≤ (Lib.itoa n).length ∧ (Lib.itoa n).length ≤ 4 := by
  unfold Lib.itoa
  rw [if_neg (by omega), Lib.decDigits_length]
  exact nd_le (by omega)

def two (k : Int) : List UInt8 := 45 :: (Lib.itoa (100 + k)).drop 1

theorem two_len {k : Int} (h0 : 0 ≤ k) (h1 : k < 1000) : (two k).length ≤ 5 := by
  have := itoa_len (n := 100 + k) (by omega) (by omega)
  simp [two]; omega

theorem two_p (k : Int) (h0 : 0 ≤ k) (h1 : k < 1000) : Pur M 27 [.int .i64 k] (.str (two k)) := by
  refine ok27 rfl ?_
  rw [i27]
  unfold c27
  have hl := itoa_len (n := 100 + k) (by omega) (by omega)
  repeat' (first
    | with_reducible apply swp_seq
    | with_reducible apply swp_reg
    | with_reducible apply swp_regD
    | with_reducible apply swp_block
    | with_reducible apply swp_exit
    | with_reducible apply swp_ret
    | with_reducible apply swp_skip
    | with_reducible apply swp_cd
    | simp only [go_sem, Nat.reduceAdd, Nat.reduceSub, Nat.reduceMul, Nat.reduceEqDiff, Nat.reduceLeDiff, Nat.reduceLT, Int.reduceEq, Int.reduceNe, Int.reduceLT, Int.reduceLE, Int.reduceAdd, Int.reduceSub, Int.reduceMul, Int.reduceNeg, Int.reduceToNat, Int.reduceTDiv, Int.reduceTMod, Int.reduceBEq, Int.reduceBNe, decide_true, decide_false, reduceCtorEq, reduceIte, P27, q27, List.length_drop]
    | simp (disch := omega) only [w64, w32, wu8, wu16, wu32, wu64]
    | ((with_reducible refine o_call (itoa_p (100 + k) (by omega) (by omega)) ?he ?hc ?_); (case he => first | rfl | (simp [D.erL, D.er]; done)); (case hc => first | rfl | (simp [D.closedL, D.closed]; done)))
    | with_reducible apply cd_dec
    | with_reducible apply cd_eq
    | with_reducible apply cd_ne
    | with_reducible apply cd_split
    | ((with_reducible refine And.intro ?hw ?_); (case hw => first | omega | rfl | exact ⟨_, _, rfl⟩ | assumption | (simp only [List.length_cons, List.length_nil, List.length_append, List.length_map, List.length_replicate, List.length_take, List.length_drop] <;> omega)))
    | with_reducible intro _)
  all_goals simp [D.closed, D.er, D.closedL, D.erL, two]

noncomputable def txt (n : Int) : List UInt8 := Lib.itoa (dat n).1 ++ two (dat n).2.1 ++ two (dat n).2.2

theorem text_p (n : Int) : Pur M 14 [.int .i64 n] (.tup [.str (if 0 ≤ n ∧ n ≤ 40000 then txt n else []), .int .i64 (dayE n)]) := by
  refine ok14 rfl ?_
  rw [i14]
  unfold c14
  have hdp := dateOf_p n
  by_cases h : 0 ≤ n ∧ n ≤ 40000
  case neg =>
    have e : dayE n = 13 := by unfold dayE; rw [if_neg h]
    rw [if_neg h]
    rw [e] at hdp ⊢
    repeat' (first
    | with_reducible apply swp_seq
    | with_reducible apply swp_reg
    | with_reducible apply swp_regD
    | with_reducible apply swp_block
    | with_reducible apply swp_exit
    | with_reducible apply swp_ret
    | with_reducible apply swp_skip
    | with_reducible apply swp_cd
    | simp only [go_sem, Nat.reduceAdd, Nat.reduceSub, Nat.reduceMul, Nat.reduceEqDiff, Nat.reduceLeDiff, Nat.reduceLT, Int.reduceEq, Int.reduceNe, Int.reduceLT, Int.reduceLE, Int.reduceAdd, Int.reduceSub, Int.reduceMul, Int.reduceNeg, Int.reduceToNat, Int.reduceTDiv, Int.reduceTMod, Int.reduceBEq, Int.reduceBNe, decide_true, decide_false, reduceCtorEq, reduceIte, P14, q14]
    | simp (disch := omega) only [w64, w32, wu8, wu16, wu32, wu64]
    | ((with_reducible refine o_call (hdp) ?he ?hc ?_); (case he => first | rfl | (simp [D.erL, D.er]; done)); (case hc => first | rfl | (simp [D.closedL, D.closed]; done)))
    | ((with_reducible refine p_call (hdp) ?he ?hc ?_); (case he => first | rfl | (simp [D.erL, D.er]; done)); (case hc => first | rfl | (simp [D.closedL, D.closed]; done)))
    | ((with_reducible refine c_call (hdp) ?he ?hc ?_); (case he => first | rfl | (simp [D.erL, D.er]; done)); (case hc => first | rfl | (simp [D.closedL, D.closed]; done)))
    | with_reducible apply cd_dec
    | with_reducible apply cd_eq
    | with_reducible apply cd_ne
    | with_reducible apply cd_split
    | ((with_reducible refine And.intro ?hw ?_); (case hw => first | omega | rfl | exact ⟨_, _, rfl⟩ | assumption | (simp only [List.length_cons, List.length_nil, List.length_append, List.length_map, List.length_replicate, List.length_take, List.length_drop] <;> omega)))
    | with_reducible intro _)
    all_goals simp [D.closed, D.er, D.closedL, D.erL]
  case pos =>
    have e : dayE n = 0 := by unfold dayE; rw [if_pos h]
    rw [if_pos h]
    rw [e] at hdp ⊢
    obtain ⟨s1, s2, ⟨v1, v2, v3, v4⟩, s4⟩ := dat_spec h
    unfold txt
    generalize dat n = p at *
    obtain ⟨Y, Mo, Da⟩ := p
    simp only at *
    have ml := mlen_le Y Mo
    have l1 := itoa_len (n := Y) (by omega) (by omega)
    have l2 := two_len (k := Mo) (by omega) (by omega)
    have l3 := two_len (k := Da) (by omega) (by omega)
    have w1 := two_p Mo (by omega) (by omega)
    have w2 := two_p Da (by omega) (by omega)
    repeat' (first
    | with_reducible apply swp_seq
    | with_reducible apply swp_reg
    | with_reducible apply swp_regD
    | with_reducible apply swp_block
    | with_reducible apply swp_exit
    | with_reducible apply swp_ret
    | with_reducible apply swp_skip
    | with_reducible apply swp_cd
    | simp only [go_sem, Nat.reduceAdd, Nat.reduceSub, Nat.reduceMul, Nat.reduceEqDiff, Nat.reduceLeDiff, Nat.reduceLT, Int.reduceEq, Int.reduceNe, Int.reduceLT, Int.reduceLE, Int.reduceAdd, Int.reduceSub, Int.reduceMul, Int.reduceNeg, Int.reduceToNat, Int.reduceTDiv, Int.reduceTMod, Int.reduceBEq, Int.reduceBNe, decide_true, decide_false, reduceCtorEq, reduceIte, P14, q14, List.length_append]
    | simp (disch := omega) only [w64, w32, wu8, wu16, wu32, wu64]
    | ((with_reducible refine o_call (hdp) ?he ?hc ?_); (case he => first | rfl | (simp [D.erL, D.er]; done)); (case hc => first | rfl | (simp [D.closedL, D.closed]; done)))
    | ((with_reducible refine p_call (hdp) ?he ?hc ?_); (case he => first | rfl | (simp [D.erL, D.er]; done)); (case hc => first | rfl | (simp [D.closedL, D.closed]; done)))
    | ((with_reducible refine c_call (hdp) ?he ?hc ?_); (case he => first | rfl | (simp [D.erL, D.er]; done)); (case hc => first | rfl | (simp [D.closedL, D.closed]; done)))
    | ((with_reducible refine o_call (itoa_p Y (by omega) (by omega)) ?he ?hc ?_); (case he => first | rfl | (simp [D.erL, D.er]; done)); (case hc => first | rfl | (simp [D.closedL, D.closed]; done)))
    | ((with_reducible refine p_call (itoa_p Y (by omega) (by omega)) ?he ?hc ?_); (case he => first | rfl | (simp [D.erL, D.er]; done)); (case hc => first | rfl | (simp [D.closedL, D.closed]; done)))
    | ((with_reducible refine c_call (itoa_p Y (by omega) (by omega)) ?he ?hc ?_); (case he => first | rfl | (simp [D.erL, D.er]; done)); (case hc => first | rfl | (simp [D.closedL, D.closed]; done)))
    | ((with_reducible refine o_call (w1) ?he ?hc ?_); (case he => first | rfl | (simp [D.erL, D.er]; done)); (case hc => first | rfl | (simp [D.closedL, D.closed]; done)))
    | ((with_reducible refine p_call (w1) ?he ?hc ?_); (case he => first | rfl | (simp [D.erL, D.er]; done)); (case hc => first | rfl | (simp [D.closedL, D.closed]; done)))
    | ((with_reducible refine c_call (w1) ?he ?hc ?_); (case he => first | rfl | (simp [D.erL, D.er]; done)); (case hc => first | rfl | (simp [D.closedL, D.closed]; done)))
    | ((with_reducible refine o_call (w2) ?he ?hc ?_); (case he => first | rfl | (simp [D.erL, D.er]; done)); (case hc => first | rfl | (simp [D.closedL, D.closed]; done)))
    | ((with_reducible refine p_call (w2) ?he ?hc ?_); (case he => first | rfl | (simp [D.erL, D.er]; done)); (case hc => first | rfl | (simp [D.closedL, D.closed]; done)))
    | ((with_reducible refine c_call (w2) ?he ?hc ?_); (case he => first | rfl | (simp [D.erL, D.er]; done)); (case hc => first | rfl | (simp [D.closedL, D.closed]; done)))
    | with_reducible apply cd_dec
    | with_reducible apply cd_eq
    | with_reducible apply cd_ne
    | with_reducible apply cd_split
    | ((with_reducible refine And.intro ?hw ?_); (case hw => first | omega | rfl | exact ⟨_, _, rfl⟩ | assumption | (simp only [List.length_cons, List.length_nil, List.length_append, List.length_map, List.length_replicate, List.length_take, List.length_drop] <;> omega)))
    | with_reducible intro _)
    all_goals simp [D.closed, D.er, D.closedL, D.erL]

theorem dat_at {y m d n : Int} (h0 : 2000 ≤ y) (h : Valid y m d) (hn : num y m d = n) (h1 : n ≤ 40000) : dat n = (y, m, d) := by
  subst hn; exact dat_num h0 h h1

theorem head_p : Pur M 8 [] (.bool true) := by
  refine ok8 rfl ?_
  rw [i8]
  unfold c8
  have d0 : dat 0 = (2000, 1, 1) := dat_at (by decide) (by decide) (by decide) (by decide)
  have d1 : dat 59 = (2000, 2, 29) := dat_at (by decide) (by decide) (by decide) (by decide)
  have d2 : dat 40000 = (2109, 7, 8) := dat_at (by decide) (by decide) (by decide) (by decide)
  have d3 : dat 366 = (2001, 1, 1) := dat_at (by decide) (by decide) (by decide) (by decide)
  have d4 : dat 30 = (2000, 1, 31) := dat_at (by decide) (by decide) (by decide) (by decide)
  have o0 := of_p 0
  have o1 := of_p 59
  have o2 := of_p 40000
  have o3 := number_p 2100 2 29
  have o4 := text_p 366
  have o5 := months_p 30 1 (by decide) (by decide)
  have e3 : nmb 2100 2 29 = (0, 1) := by decide
  have e4 : mon 30 1 = (59, 0) := by
    unfold mon; rw [d4]; decide
  have e5 : txt 366 = [50, 48, 48, 49, 45, 48, 49, 45, 48, 49] := by
    unfold txt; rw [d3]
    simp [two, Lib.itoa, Lib.decDigits]
  rw [d0] at o0; rw [d1] at o1; rw [d2] at o2; rw [e3] at o3; rw [e4] at o5; rw [if_pos (by decide), e5] at o4
  rw [show dayE 0 = 0 by decide] at o0; rw [show dayE 59 = 0 by decide] at o1; rw [show dayE 40000 = 0 by decide] at o2; rw [show dayE 366 = 0 by decide] at o4
  simp only at o0 o1 o2 o3 o4 o5
  repeat' (first
    | with_reducible apply swp_seq
    | with_reducible apply swp_reg
    | with_reducible apply swp_regD
    | with_reducible apply swp_block
    | with_reducible apply swp_exit
    | with_reducible apply swp_ret
    | with_reducible apply swp_skip
    | with_reducible apply swp_cd
    | simp only [go_sem, Nat.reduceAdd, Nat.reduceSub, Nat.reduceMul, Nat.reduceEqDiff, Nat.reduceLeDiff, Nat.reduceLT, Int.reduceEq, Int.reduceNe, Int.reduceLT, Int.reduceLE, Int.reduceAdd, Int.reduceSub, Int.reduceMul, Int.reduceNeg, Int.reduceToNat, Int.reduceTDiv, Int.reduceTMod, Int.reduceBEq, Int.reduceBNe, decide_true, decide_false, reduceCtorEq, reduceIte, P8, q8, eqDs, beq_self_eq_true, Bool.and_true]
    | ((with_reducible refine o_call (o0) ?he ?hc ?_); (case he => first | rfl | (simp [D.erL, D.er]; done)); (case hc => first | rfl | (simp [D.closedL, D.closed]; done)))
    | ((with_reducible refine o_call (o1) ?he ?hc ?_); (case he => first | rfl | (simp [D.erL, D.er]; done)); (case hc => first | rfl | (simp [D.closedL, D.closed]; done)))
    | ((with_reducible refine o_call (o2) ?he ?hc ?_); (case he => first | rfl | (simp [D.erL, D.er]; done)); (case hc => first | rfl | (simp [D.closedL, D.closed]; done)))
    | ((with_reducible refine o_call (o3) ?he ?hc ?_); (case he => first | rfl | (simp [D.erL, D.er]; done)); (case hc => first | rfl | (simp [D.closedL, D.closed]; done)))
    | ((with_reducible refine o_call (o4) ?he ?hc ?_); (case he => first | rfl | (simp [D.erL, D.er]; done)); (case hc => first | rfl | (simp [D.closedL, D.closed]; done)))
    | ((with_reducible refine o_call (o5) ?he ?hc ?_); (case he => first | rfl | (simp [D.erL, D.er]; done)); (case hc => first | rfl | (simp [D.closedL, D.closed]; done)))
    | with_reducible apply cd_dec
    | with_reducible apply cd_eq
    | with_reducible apply cd_ne
    | with_reducible apply cd_split
    | with_reducible apply gd_dec
    | with_reducible apply gd_eq
    | with_reducible apply gd_ne
    | with_reducible apply gd_split
    | ((with_reducible refine And.intro ?hw ?_); (case hw => first | omega | rfl | exact ⟨_, _, rfl⟩ | assumption | (simp only [List.length_cons, List.length_nil, List.length_append, List.length_map, List.length_replicate, List.length_take, List.length_drop] <;> omega)))
    | with_reducible intro _)
  all_goals simp [D.closed, D.er, D.closedL, D.erL]
end Go.Proofs.YtapoplenfgjcjaaDoor
