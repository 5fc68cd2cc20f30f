/- What the functions of money compute: the walks, fourth part: comparing, sorting, dividing. Own work. -/
import Derived.Test.YtniglomooepbcaaDoorMd
set_option maxRecDepth 100000
set_option linter.unusedSimpArgs false
set_option linter.unusedVariables false
namespace Go.Proofs.YtniglomooepbcaaDoor
open Go GoV

theorem nan_p (x : Int) : Pur M 33 [.int .u64 x] (.bool false) := by
  refine ok33 rfl ?_
  rw [i33]
  unfold c33
  have h : (x != x) = false := by simp
  repeat' (first
    | with_reducible apply swp_seq
    | with_reducible apply swp_reg
    | with_reducible apply swp_regD
    | with_reducible apply swp_block
    | with_reducible apply swp_exit
    | with_reducible apply swp_ret
    | with_reducible apply swp_skip
    | with_reducible apply swp_cd
    | simp only [go_sem, Nat.reduceAdd, Nat.reduceSub, Nat.reduceMul, Nat.reduceEqDiff, Nat.reduceLeDiff, Nat.reduceLT, Int.reduceEq, Int.reduceNe, Int.reduceLT, Int.reduceLE, Int.reduceAdd, Int.reduceSub, Int.reduceMul, Int.reduceNeg, Int.reduceToNat, Int.reduceTDiv, Int.reduceTMod, Int.reduceBEq, Int.reduceBNe, decide_true, decide_false, reduceCtorEq, reduceIte, P33, q33, h]
    | simp (disch := omega) only [w64, w32, wu8, wu16, wu32, wu64]
    | with_reducible apply cd_dec
    | with_reducible apply cd_eq
    | with_reducible apply cd_ne
    | with_reducible apply cd_split
    | ((with_reducible refine And.intro ?hw ?_); (case hw => first | omega | rfl | exact ⟨_, _, rfl⟩ | assumption | (simp only [List.length_cons, List.length_nil, List.length_append, List.length_map, List.length_replicate, List.length_take, List.length_drop] <;> omega)))
    | with_reducible intro _)
  all_goals simp [D.closed, D.er]

theorem cmp_p (x y : Int) : Pur M 25 [.int .u64 x, .int .u64 y] (.int .i64 (if x < y then -1 else if y < x then 1 else 0)) := by
  refine ok25 rfl ?_
  rw [i25]
  unfold c25
  by_cases h1 : x < y
  · rw [if_pos h1]
    repeat' (first
    | with_reducible apply swp_seq
    | with_reducible apply swp_reg
    | with_reducible apply swp_regD
    | with_reducible apply swp_block
    | with_reducible apply swp_exit
    | with_reducible apply swp_ret
    | with_reducible apply swp_skip
    | with_reducible apply swp_cd
    | simp only [go_sem, Nat.reduceAdd, Nat.reduceSub, Nat.reduceMul, Nat.reduceEqDiff, Nat.reduceLeDiff, Nat.reduceLT, Int.reduceEq, Int.reduceNe, Int.reduceLT, Int.reduceLE, Int.reduceAdd, Int.reduceSub, Int.reduceMul, Int.reduceNeg, Int.reduceToNat, Int.reduceTDiv, Int.reduceTMod, Int.reduceBEq, Int.reduceBNe, decide_true, decide_false, reduceCtorEq, reduceIte, P25, q25]
    | simp (disch := omega) only [w64, w32, wu8, wu16, wu32, wu64]
    | ((with_reducible refine o_call (nan_p x) ?he ?hc ?_); (case he => first | rfl | (simp [D.erL, D.er]; done)); (case hc => first | rfl | (simp [D.closedL, D.closed]; done)))
    | ((with_reducible refine o_call (nan_p y) ?he ?hc ?_); (case he => first | rfl | (simp [D.erL, D.er]; done)); (case hc => first | rfl | (simp [D.closedL, D.closed]; done)))
    | with_reducible apply cd_dec
    | with_reducible apply cd_eq
    | with_reducible apply cd_ne
    | with_reducible apply cd_split
    | ((with_reducible refine And.intro ?hw ?_); (case hw => first | omega | rfl | exact ⟨_, _, rfl⟩ | assumption | (simp only [List.length_cons, List.length_nil, List.length_append, List.length_map, List.length_replicate, List.length_take, List.length_drop] <;> omega)))
    | with_reducible intro _)
    all_goals first
      | omega
      | simp [D.closed, D.er]
  · rw [if_neg h1]
    by_cases h2 : y < x
    · rw [if_pos h2]
      repeat' (first
    | with_reducible apply swp_seq
    | with_reducible apply swp_reg
    | with_reducible apply swp_regD
    | with_reducible apply swp_block
    | with_reducible apply swp_exit
    | with_reducible apply swp_ret
    | with_reducible apply swp_skip
    | with_reducible apply swp_cd
    | simp only [go_sem, Nat.reduceAdd, Nat.reduceSub, Nat.reduceMul, Nat.reduceEqDiff, Nat.reduceLeDiff, Nat.reduceLT, Int.reduceEq, Int.reduceNe, Int.reduceLT, Int.reduceLE, Int.reduceAdd, Int.reduceSub, Int.reduceMul, Int.reduceNeg, Int.reduceToNat, Int.reduceTDiv, Int.reduceTMod, Int.reduceBEq, Int.reduceBNe, decide_true, decide_false, reduceCtorEq, reduceIte, P25, q25]
    | simp (disch := omega) only [w64, w32, wu8, wu16, wu32, wu64]
    | ((with_reducible refine o_call (nan_p x) ?he ?hc ?_); (case he => first | rfl | (simp [D.erL, D.er]; done)); (case hc => first | rfl | (simp [D.closedL, D.closed]; done)))
    | ((with_reducible refine o_call (nan_p y) ?he ?hc ?_); (case he => first | rfl | (simp [D.erL, D.er]; done)); (case hc => first | rfl | (simp [D.closedL, D.closed]; done)))
    | with_reducible apply cd_dec
    | with_reducible apply cd_eq
    | with_reducible apply cd_ne
    | with_reducible apply cd_split
    | ((with_reducible refine And.intro ?hw ?_); (case hw => first | omega | rfl | exact ⟨_, _, rfl⟩ | assumption | (simp only [List.length_cons, List.length_nil, List.length_append, List.length_map, List.length_replicate, List.length_take, List.length_drop] <;> omega)))
    | with_reducible intro _)
      all_goals first
        | omega
        | simp [D.closed, D.er]
    · rw [if_neg h2]
      repeat' (first
    | with_reducible apply swp_seq
    | with_reducible apply swp_reg
    | with_reducible apply swp_regD
    | with_reducible apply swp_block
    | with_reducible apply swp_exit
    | with_reducible apply swp_ret
    | with_reducible apply swp_skip
    | with_reducible apply swp_cd
    | simp only [go_sem, Nat.reduceAdd, Nat.reduceSub, Nat.reduceMul, Nat.reduceEqDiff, Nat.reduceLeDiff, Nat.reduceLT, Int.reduceEq, Int.reduceNe, Int.reduceLT, Int.reduceLE, Int.reduceAdd, Int.reduceSub, Int.reduceMul, Int.reduceNeg, Int.reduceToNat, Int.reduceTDiv, Int.reduceTMod, Int.reduceBEq, Int.reduceBNe, decide_true, decide_false, reduceCtorEq, reduceIte, P25, q25]
    | simp (disch := omega) only [w64, w32, wu8, wu16, wu32, wu64]
    | ((with_reducible refine o_call (nan_p x) ?he ?hc ?_); (case he => first | rfl | (simp [D.erL, D.er]; done)); (case hc => first | rfl | (simp [D.closedL, D.closed]; done)))
    | ((with_reducible refine o_call (nan_p y) ?he ?hc ?_); (case he => first | rfl | (simp [D.erL, D.er]; done)); (case hc => first | rfl | (simp [D.closedL, D.closed]; done)))
    | with_reducible apply cd_dec
    | with_reducible apply cd_eq
    | with_reducible apply cd_ne
    | with_reducible apply cd_split
    | ((with_reducible refine And.intro ?hw ?_); (case hw => first | omega | rfl | exact ⟨_, _, rfl⟩ | assumption | (simp only [List.length_cons, List.length_nil, List.length_append, List.length_map, List.length_replicate, List.length_take, List.length_drop] <;> omega)))
    | with_reducible intro _)
      all_goals first
        | omega
        | simp [D.closed, D.er]

/-- A share: its index, its amount, what is left over. -/
structure Sh where
  i : Int
  a : Int
  l : Int

instance : Inhabited Sh := ⟨⟨0, 0, 0⟩⟩

abbrev Sh.cs (s : Sh) : List D := [.int .i64 s.i, .int .i64 s.a, .int .u64 s.l]

/-- The cells of a row of shares. -/
def fl : List Sh → List D
  | [] => []
  | s :: r => s.cs ++ fl r

theorem fl_len : ∀ L : List Sh, (fl L).length = L.length * 3
  | [] => rfl
  | s :: r => by simp [fl, fl_len r, Nat.add_mul]

theorem fl_drop : ∀ (L : List Sh) (j : Nat), (fl L).drop (j * 3) = fl (L.drop j)
  | L, 0 => by simp
  | [], j + 1 => by simp [fl]
  | s :: r, j + 1 => by
    have e : (fl (s :: r)).drop 3 = fl r := rfl
    rw [List.drop_succ_cons, ← fl_drop r j, ← e, List.drop_drop]
    congr 1; omega

theorem fl_get {L : List Sh} {j : Nat} (h : j < L.length) : ((fl L).drop (j * 3)).take 3 = (L.getD j default).cs := by
  rw [fl_drop, List.drop_eq_getElem_cons h]
  simp [fl, List.getD, h]

theorem setL_cons (x : D) : ∀ (vs l : List D) (o : Nat), setL (x :: l) (o + 1) vs = x :: setL l o vs
  | [], _, _ => rfl
  | v :: vs, l, o => by simp only [setL, List.set_cons_succ]; exact setL_cons x vs _ _

theorem fl_set : ∀ (L : List Sh) (j : Nat) (s : Sh), j < L.length → setL (fl L) (j * 3) s.cs = fl (L.set j s)
  | t :: r, 0, s, _ => by simp [fl, setL]
  | t :: r, j + 1, s, h => by
    rw [show (j + 1) * 3 = j * 3 + 1 + 1 + 1 by omega, show fl (t :: r) = .int .i64 t.i :: .int .i64 t.a :: .int .u64 t.l :: fl r from rfl, setL_cons, setL_cons, setL_cons, fl_set r j s (by simpa using h)]
    rfl

theorem fl_app (L : List Sh) (s : Sh) : fl (L ++ [s]) = fl L ++ s.cs := by
  induction L with
  | nil => simp [fl]
  | cons t r ih => simp [fl, ih]

theorem cl_p (x y : Sh) : Pur M 24 [.agg x.cs, .agg y.cs] (.int .i64 (if y.l < x.l then -1 else if x.l < y.l then 1 else 0)) := by
  refine ok24 rfl ?_
  rw [i24]
  unfold c24
  repeat' (first
    | with_reducible apply swp_seq
    | with_reducible apply swp_reg
    | with_reducible apply swp_regD
    | with_reducible apply swp_block
    | with_reducible apply swp_exit
    | with_reducible apply swp_ret
    | with_reducible apply swp_skip
    | with_reducible apply swp_cd
    | simp only [go_sem, Nat.reduceAdd, Nat.reduceSub, Nat.reduceMul, Nat.reduceEqDiff, Nat.reduceLeDiff, Nat.reduceLT, Int.reduceEq, Int.reduceNe, Int.reduceLT, Int.reduceLE, Int.reduceAdd, Int.reduceSub, Int.reduceMul, Int.reduceNeg, Int.reduceToNat, Int.reduceTDiv, Int.reduceTMod, Int.reduceBEq, Int.reduceBNe, decide_true, decide_false, reduceCtorEq, reduceIte, P24, q24]
    | simp (disch := omega) only [w64, w32, wu8, wu16, wu32, wu64]
    | ((with_reducible refine o_call (cmp_p y.l x.l) ?he ?hc ?_); (case he => first | rfl | (simp [D.erL, D.er]; done)); (case hc => first | rfl | (simp [D.closedL, D.closed]; done)))
    | with_reducible apply cd_dec
    | with_reducible apply cd_eq
    | with_reducible apply cd_ne
    | with_reducible apply cd_split
    | ((with_reducible refine And.intro ?hw ?_); (case hw => first | omega | rfl | exact ⟨_, _, rfl⟩ | assumption | (simp only [List.length_cons, List.length_nil, List.length_append, List.length_map, List.length_replicate, List.length_take, List.length_drop] <;> omega)))
    | with_reducible intro _)
  all_goals simp [D.closed, D.er]

/-- Element j moves down behind those that are as great. -/
def sink : Nat → List Sh → List Sh
  | 0, L => L
  | j + 1, L => if (L.getD j default).l < (L.getD (j + 1) default).l then sink j ((L.set (j + 1) (L.getD j default)).set j (L.getD (j + 1) default)) else L

/-- The first i elements in order. -/
def isort (L : List Sh) : Nat → List Sh
  | 0 => L
  | i + 1 => sink i (isort L i)

theorem sink_len : ∀ (j : Nat) (L : List Sh), (sink j L).length = L.length
  | 0, L => rfl
  | j + 1, L => by
    simp only [sink]
    split
    · rw [sink_len j]; simp
    · rfl

theorem isort_len (L : List Sh) : ∀ i, (isort L i).length = L.length
  | 0 => rfl
  | i + 1 => by rw [isort, sink_len, isort_len L i]

set_option maxHeartbeats 1000000 in
theorem ins_p (L : List Sh) (b n : Nat) (hn : n = L.length) (hb : b ≤ n) (hl : n ≤ 1000000) : Eff M 36 [.gs 0 n, .int .i64 0, .int .i64 b, .fn (.func 24) [] []] ⟨[], [.chg 3 (fl L)]⟩ (fun d hp => d = .tup [] ∧ hp = ⟨[], [.chg 3 (fl (isort L b))]⟩) := by
  refine oe36 0 1 rfl rfl rfl ?_
  rw [ie36]
  unfold c36
  repeat' (first
    | with_reducible apply swp_seq
    | with_reducible apply swp_reg
    | with_reducible apply swp_regD
    | with_reducible apply swp_block
    | with_reducible apply swp_exit
    | with_reducible apply swp_ret
    | with_reducible apply swp_skip
    | with_reducible apply swp_cd
    | simp only [go_sem, Nat.reduceAdd, Nat.reduceSub, Nat.reduceMul, Nat.reduceEqDiff, Nat.reduceLeDiff, Nat.reduceLT, Int.reduceEq, Int.reduceNe, Int.reduceLT, Int.reduceLE, Int.reduceAdd, Int.reduceSub, Int.reduceMul, Int.reduceNeg, Int.reduceToNat, Int.reduceTDiv, Int.reduceTMod, Int.reduceBEq, Int.reduceBNe, decide_true, decide_false, reduceCtorEq, reduceIte, pe36, q36]
    | simp (disch := omega) only [w64, w32, wu8, wu16, wu32, wu64]
    | with_reducible apply cd_dec
    | with_reducible apply cd_eq
    | with_reducible apply cd_ne
    | with_reducible apply cd_split
    | with_reducible apply gd_dec
    | with_reducible apply gd_eq
    | with_reducible apply gd_ne
    | with_reducible apply gd_split
    | with_reducible apply gq_dec
    | with_reducible apply gq_eq
    | with_reducible apply gq_ne
    | with_reducible apply gq_split
    | ((with_reducible refine And.intro ?hw ?_); (case hw => first | omega | rfl | exact ⟨_, _, rfl⟩ | assumption | (simp only [List.length_cons, List.length_nil, List.length_append, List.length_map, List.length_replicate, List.length_take, List.length_drop] <;> omega)))
    | with_reducible intro _)
  refine swp_fam [0, 1, 2, 3, 4] (fun i : Nat => ⟨[.gs 0 n, .int .i64 0, .int .i64 b, .fn (.func 24) [] [], .int .i64 i, .undef, .undef, .undef], [], ⟨[], [.chg 3 (fl (isort L i))]⟩⟩)
    (fun i => 1 ≤ i ∧ (b ≤ i → isort L i = isort L b)) (fun i => b - i) 1 ⟨by omega, fun h => ?_⟩ ?_ ?_
  · have : b = 0 ∨ b = 1 := by omega
    rcases this with h | h <;> subst h <;> rfl
  · simp [keepE, St.keep, isort, sink]
  · rintro i ⟨g1, g2⟩
    by_cases hi : i < b
    · have hlen := isort_len L i
      rw [← hn] at hlen
      generalize hT : isort L i = T at *
      repeat' (first
    | with_reducible apply swp_seq
    | with_reducible apply swp_reg
    | with_reducible apply swp_regD
    | with_reducible apply swp_block
    | with_reducible apply swp_exit
    | with_reducible apply swp_ret
    | with_reducible apply swp_skip
    | with_reducible apply swp_cd
    | simp only [go_sem, Nat.reduceAdd, Nat.reduceSub, Nat.reduceMul, Nat.reduceEqDiff, Nat.reduceLeDiff, Nat.reduceLT, Int.reduceEq, Int.reduceNe, Int.reduceLT, Int.reduceLE, Int.reduceAdd, Int.reduceSub, Int.reduceMul, Int.reduceNeg, Int.reduceToNat, Int.reduceTDiv, Int.reduceTMod, Int.reduceBEq, Int.reduceBNe, decide_true, decide_false, reduceCtorEq, reduceIte, pe36, q36]
    | simp (disch := omega) only [w64, w32, wu8, wu16, wu32, wu64]
    | with_reducible apply cd_dec
    | with_reducible apply cd_eq
    | with_reducible apply cd_ne
    | with_reducible apply cd_split
    | with_reducible apply gd_dec
    | with_reducible apply gd_eq
    | with_reducible apply gd_ne
    | with_reducible apply gd_split
    | with_reducible apply gq_dec
    | with_reducible apply gq_eq
    | with_reducible apply gq_ne
    | with_reducible apply gq_split
    | ((with_reducible refine And.intro ?hw ?_); (case hw => first | omega | rfl | exact ⟨_, _, rfl⟩ | assumption | (simp only [List.length_cons, List.length_nil, List.length_append, List.length_map, List.length_replicate, List.length_take, List.length_drop] <;> omega)))
    | with_reducible intro _)
      all_goals try omega
      refine swp_fam [0, 1, 2, 3, 4, 5] (fun p : Nat × List Sh => ⟨[.gs 0 n, .int .i64 0, .int .i64 b, .fn (.func 24) [] [], .int .i64 i, .int .i64 p.1, .undef, .undef], [], ⟨[], [.chg 3 (fl p.2)]⟩⟩)
        (fun p => p.1 ≤ i ∧ p.2.length = n ∧ sink p.1 p.2 = isort L (i + 1)) (fun p => p.1) (i, T) ⟨by simp, hlen, by rw [isort, hT]⟩ ?_ ?_
      · simp [keepE, St.keep]
      · rintro ⟨j, U⟩ ⟨f1, f2, f3⟩
        simp only at f1 f2 f3 ⊢
        cases j with
        | zero =>
          repeat' (first
    | with_reducible apply swp_seq
    | with_reducible apply swp_reg
    | with_reducible apply swp_regD
    | with_reducible apply swp_block
    | with_reducible apply swp_exit
    | with_reducible apply swp_ret
    | with_reducible apply swp_skip
    | with_reducible apply swp_cd
    | simp only [go_sem, Nat.reduceAdd, Nat.reduceSub, Nat.reduceMul, Nat.reduceEqDiff, Nat.reduceLeDiff, Nat.reduceLT, Int.reduceEq, Int.reduceNe, Int.reduceLT, Int.reduceLE, Int.reduceAdd, Int.reduceSub, Int.reduceMul, Int.reduceNeg, Int.reduceToNat, Int.reduceTDiv, Int.reduceTMod, Int.reduceBEq, Int.reduceBNe, decide_true, decide_false, reduceCtorEq, reduceIte, pe36, q36]
    | simp (disch := omega) only [w64, w32, wu8, wu16, wu32, wu64]
    | with_reducible apply cd_dec
    | with_reducible apply cd_eq
    | with_reducible apply cd_ne
    | with_reducible apply cd_split
    | with_reducible apply gd_dec
    | with_reducible apply gd_eq
    | with_reducible apply gd_ne
    | with_reducible apply gd_split
    | with_reducible apply gq_dec
    | with_reducible apply gq_eq
    | with_reducible apply gq_ne
    | with_reducible apply gq_split
    | ((with_reducible refine And.intro ?hw ?_); (case hw => first | omega | rfl | exact ⟨_, _, rfl⟩ | assumption | (simp only [List.length_cons, List.length_nil, List.length_append, List.length_map, List.length_replicate, List.length_take, List.length_drop] <;> omega)))
    | with_reducible intro _)
          all_goals try omega
          refine ⟨i + 1, ⟨by omega, fun h => ?_⟩, by omega, ?_⟩
          · have : b = i + 1 := by omega
            rw [this]
          · simp only [sink] at f3
            simp [keepE, St.keep, f3]
        | succ k =>
          have t1 : (((k + 1 : Nat) : Int) - 1).toNat = k := by omega
          have h1 := fl_get (L := U) (j := k) (by omega)
          have h2 := fl_get (L := U) (j := k + 1) (by omega)
          have hfl : (fl U).length = n * 3 := by rw [fl_len, f2]
          have hc := cl_p (U.getD (k + 1) default) (U.getD k default)
          have hs1 := fl_set U (k + 1) (U.getD k default) (by omega)
          have hs2 := fl_set (U.set (k + 1) (U.getD k default)) k (U.getD (k + 1) default) (by simp; omega)
          have hfl2 : (fl (U.set (k + 1) (U.getD k default))).length = n * 3 := by rw [fl_len]; simp [f2]
          simp only [sink] at f3
          have f2' : ((U.set (k + 1) (U.getD k default)).set k (U.getD (k + 1) default)).length = n := by simp [f2]
          simp only [Sh.cs, setL] at h1 h2 hc hs1 hs2
          by_cases hlt : (U.getD k default).l < (U.getD (k + 1) default).l
          · rw [if_pos hlt] at hc f3
            generalize U.getD k default = x at *
            generalize U.getD (k + 1) default = y at *
            repeat' (first
    | with_reducible apply swp_seq
    | with_reducible apply swp_reg
    | with_reducible apply swp_regD
    | with_reducible apply swp_block
    | with_reducible apply swp_exit
    | with_reducible apply swp_ret
    | with_reducible apply swp_skip
    | with_reducible apply swp_cd
    | simp only [go_sem, Nat.reduceAdd, Nat.reduceSub, Nat.reduceMul, Nat.reduceEqDiff, Nat.reduceLeDiff, Nat.reduceLT, Int.reduceEq, Int.reduceNe, Int.reduceLT, Int.reduceLE, Int.reduceAdd, Int.reduceSub, Int.reduceMul, Int.reduceNeg, Int.reduceToNat, Int.reduceTDiv, Int.reduceTMod, Int.reduceBEq, Int.reduceBNe, decide_true, decide_false, reduceCtorEq, reduceIte, pe36, q36, t1, h1, h2, hs1, hs2]
    | simp (disch := omega) only [w64, w32, wu8, wu16, wu32, wu64]
    | ((with_reducible refine o_call (hc) ?he ?hc ?_); (case he => first | rfl | (simp [D.erL, D.er, hfl, hfl2]; done)); (case hc => first | rfl | (simp [D.closedL, D.closed, hfl, hfl2]; done)))
    | with_reducible apply cd_dec
    | with_reducible apply cd_eq
    | with_reducible apply cd_ne
    | with_reducible apply cd_split
    | with_reducible apply gd_dec
    | with_reducible apply gd_eq
    | with_reducible apply gd_ne
    | with_reducible apply gd_split
    | with_reducible apply gq_dec
    | with_reducible apply gq_eq
    | with_reducible apply gq_ne
    | with_reducible apply gq_split
    | ((with_reducible refine And.intro ?hw ?_); (case hw => first | omega | rfl | exact ⟨_, _, rfl⟩ | assumption | (simp only [List.length_cons, List.length_nil, List.length_append, List.length_map, List.length_replicate, List.length_take, List.length_drop, hfl, hfl2] <;> omega)))
    | with_reducible intro _)
            all_goals try omega
            exact ⟨(k, (U.set (k + 1) x).set k y), ⟨by simp only; omega, f2', f3⟩, by simp only; omega, by simp only [St.keep, keepE]; simp⟩
          · rw [if_neg hlt] at hc f3
            have hc' : ¬ (if (U.getD (k + 1) default).l < (U.getD k default).l then (1 : Int) else 0) < 0 := by split <;> omega
            generalize (if (U.getD (k + 1) default).l < (U.getD k default).l then (1 : Int) else 0) = cv at *
            generalize U.getD k default = x at *
            generalize U.getD (k + 1) default = y at *
            repeat' (first
    | with_reducible apply swp_seq
    | with_reducible apply swp_reg
    | with_reducible apply swp_regD
    | with_reducible apply swp_block
    | with_reducible apply swp_exit
    | with_reducible apply swp_ret
    | with_reducible apply swp_skip
    | with_reducible apply swp_cd
    | simp only [go_sem, Nat.reduceAdd, Nat.reduceSub, Nat.reduceMul, Nat.reduceEqDiff, Nat.reduceLeDiff, Nat.reduceLT, Int.reduceEq, Int.reduceNe, Int.reduceLT, Int.reduceLE, Int.reduceAdd, Int.reduceSub, Int.reduceMul, Int.reduceNeg, Int.reduceToNat, Int.reduceTDiv, Int.reduceTMod, Int.reduceBEq, Int.reduceBNe, decide_true, decide_false, reduceCtorEq, reduceIte, pe36, q36, t1, h1, h2]
    | simp (disch := omega) only [w64, w32, wu8, wu16, wu32, wu64]
    | ((with_reducible refine o_call (hc) ?he ?hc ?_); (case he => first | rfl | (simp [D.erL, D.er, hfl]; done)); (case hc => first | rfl | (simp [D.closedL, D.closed, hfl]; done)))
    | with_reducible apply cd_dec
    | with_reducible apply cd_eq
    | with_reducible apply cd_ne
    | with_reducible apply cd_split
    | with_reducible apply gd_dec
    | with_reducible apply gd_eq
    | with_reducible apply gd_ne
    | with_reducible apply gd_split
    | with_reducible apply gq_dec
    | with_reducible apply gq_eq
    | with_reducible apply gq_ne
    | with_reducible apply gq_split
    | ((with_reducible refine And.intro ?hw ?_); (case hw => first | omega | rfl | exact ⟨_, _, rfl⟩ | assumption | (simp only [List.length_cons, List.length_nil, List.length_append, List.length_map, List.length_replicate, List.length_take, List.length_drop, hfl] <;> omega)))
    | with_reducible intro _)
            all_goals try omega
            refine ⟨i + 1, ⟨by omega, fun h => by rw [show b = i + 1 by omega]⟩, by omega, ?_⟩
            simp [St.keep, keepE, f3]
    · repeat' (first
    | with_reducible apply swp_seq
    | with_reducible apply swp_reg
    | with_reducible apply swp_regD
    | with_reducible apply swp_block
    | with_reducible apply swp_exit
    | with_reducible apply swp_ret
    | with_reducible apply swp_skip
    | with_reducible apply swp_cd
    | simp only [go_sem, Nat.reduceAdd, Nat.reduceSub, Nat.reduceMul, Nat.reduceEqDiff, Nat.reduceLeDiff, Nat.reduceLT, Int.reduceEq, Int.reduceNe, Int.reduceLT, Int.reduceLE, Int.reduceAdd, Int.reduceSub, Int.reduceMul, Int.reduceNeg, Int.reduceToNat, Int.reduceTDiv, Int.reduceTMod, Int.reduceBEq, Int.reduceBNe, decide_true, decide_false, reduceCtorEq, reduceIte, pe36, q36]
    | simp (disch := omega) only [w64, w32, wu8, wu16, wu32, wu64]
    | with_reducible apply cd_dec
    | with_reducible apply cd_eq
    | with_reducible apply cd_ne
    | with_reducible apply cd_split
    | with_reducible apply gd_dec
    | with_reducible apply gd_eq
    | with_reducible apply gd_ne
    | with_reducible apply gd_split
    | with_reducible apply gq_dec
    | with_reducible apply gq_eq
    | with_reducible apply gq_ne
    | with_reducible apply gq_split
    | ((with_reducible refine And.intro ?hw ?_); (case hw => first | omega | rfl | exact ⟨_, _, rfl⟩ | assumption | (simp only [List.length_cons, List.length_nil, List.length_append, List.length_map, List.length_replicate, List.length_take, List.length_drop] <;> omega)))
    | with_reducible intro _)
      all_goals try omega
      exact ⟨_, weak_refl, by rw [g2 (by omega)]⟩
end Go.Proofs.YtniglomooepbcaaDoor
