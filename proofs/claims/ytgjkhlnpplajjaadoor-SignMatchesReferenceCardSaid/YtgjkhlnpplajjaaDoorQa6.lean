/- Own texts, merged by a program: the engine that walks the code, and what the functions that the law reaches compute. -/
import Derived.Test.YtgjkhlnpplajjaaDoorQa5
section
set_option maxRecDepth 100000
set_option linter.unusedSimpArgs false
set_option linter.unusedVariables false
namespace Go.Proofs.YtgjkhlnpplajjaaDoor
open Go GoV Go.RowKit
theorem sameS_refl (a : Seal) : sameS a a = true := by simp [sameS]
theorem sgnR_lens (s : List UInt8) (h i : Int) (m : List UInt8) : (sgnR s h i m).1.sig.length ≤ 1000 ∧ (sgnR s h i m).1.path.length ≤ 1000 := by
  unfold sgnR
  split
  · rename_i q
    have hh : h.toNat ≤ 8 := by omega
    have hi : i.toNat < 2 ^ h.toNat := by
      have e4 : (2 : Int) ^ h.toNat = ((2 ^ h.toNat : Nat) : Int) := by simp
      rw [e4] at q
      omega
    obtain ⟨h1, h2, _⟩ := sgn_parts s m hh hi
    exact ⟨by simp only; omega, by simp only; omega⟩
  · simp
set_option maxHeartbeats 4000000 in
theorem l3_p (s : List UInt8) (h i : Int) (m p : List UInt8) (x : Seal) (hb : -9223372036854775808 ≤ i) : Pur M 3 [.str s, .int .i64 h, .int .i64 i, .str m, .str p, sealD x] (.bool true) := by
  refine ok3 rfl ?_
  rw [i3]
  unfold c3 sealD
  have c0 := head_p
  have c1 := short_p [s, m, p] (by simp)
  have s1 : strs [s, m, p] = [.str s, .str m, .str p] := rfl
  rw [s1] at c1
  have d1 := closed_strs x.sig
  have d2 := closed_strs x.path
  have d3 := erL_strs x.sig
  have d4 := erL_strs x.path
  have c2 := few_p x
  unfold sealD at c2
  cases h1 : ([s, m, p].all fun x => decide (x.length ≤ 300))
  · rw [h1] at c1
    generalize strs x.sig = SS at *
    generalize strs x.path = PP at *
    repeat' (first
    | with_reducible first | apply swp_seq | apply swp_reg | apply swp_regD | apply swp_block | apply swp_exit | apply swp_ret | apply swp_skip | apply swp_cd
    | simp only [go_sem, Nat.reduceAdd, Nat.reduceSub, Nat.reduceMul, Nat.reduceEqDiff, Nat.reduceLeDiff, Nat.reduceLT, Int.reduceEq, Int.reduceNe, Int.reduceLT, Int.reduceLE, Int.reduceAdd, Int.reduceSub, Int.reduceMul, Int.reduceNeg, Int.reduceToNat, Int.reduceTDiv, Int.reduceTMod, Int.reduceBEq, Int.reduceBNe, decide_true, decide_false, reduceCtorEq, reduceIte, P3, q3]
    | simp (disch := omega) only [w64, w32, wu8, wu16, wu32, wu64]
    | ((with_reducible first | refine o_call (c0) ?he ?hc ?_ | refine p_call (c0) ?he ?hc ?_ | refine c_call (c0) ?he ?hc ?_); (case he | hc => first | rfl | (simp [D.erL, D.er, D.closedL, D.closed, d1, d2, d3, d4]; done)))
    | ((with_reducible first | refine o_call (c1) ?he ?hc ?_ | refine p_call (c1) ?he ?hc ?_ | refine c_call (c1) ?he ?hc ?_); (case he | hc => first | rfl | (simp [D.erL, D.er, D.closedL, D.closed, d1, d2, d3, d4]; done)))
    | ((with_reducible apply s_bsl); (case he | hl | hc => first | rfl | assumption | omega | ((first | refine ⟨?_, ?_⟩ | skip) <;> first | omega | (simp only [lN1, lN2, lN3, lN4, lN5, lN6, lN7, d1, d2, d3, d4] <;> omega)) | (simp [elemsK, D.isVal, D.cells, D.closedL, D.closed, d1, d2, d3, d4]; first | done | omega)))
    | with_reducible first | apply cd_dec | apply cd_eq | apply cd_ne | apply cd_split | apply gd_dec | apply gd_eq | apply gd_ne | apply gd_split | apply gq_dec | apply gq_eq | apply gq_ne | apply gq_split
    | ((with_reducible refine And.intro ?hw ?_); (case hw => first | omega | rfl | exact ⟨_, _, rfl⟩ | assumption | (simp only [lN1, lN2, lN3, lN4, lN5, lN6, lN7, d1, d2, d3, d4] <;> omega)))
    | with_reducible intro _)
    all_goals first
      | omega
      | (simp [D.closed, D.er]; done)
  rw [h1] at c1
  have hp : s.length ≤ 300 ∧ m.length ≤ 300 ∧ p.length ≤ 300 := by simpa using h1
  cases h2 : fewB x
  · rw [h2] at c2
    generalize strs x.sig = SS at *
    generalize strs x.path = PP at *
    repeat' (first
    | with_reducible first | apply swp_seq | apply swp_reg | apply swp_regD | apply swp_block | apply swp_exit | apply swp_ret | apply swp_skip | apply swp_cd
    | simp only [go_sem, Nat.reduceAdd, Nat.reduceSub, Nat.reduceMul, Nat.reduceEqDiff, Nat.reduceLeDiff, Nat.reduceLT, Int.reduceEq, Int.reduceNe, Int.reduceLT, Int.reduceLE, Int.reduceAdd, Int.reduceSub, Int.reduceMul, Int.reduceNeg, Int.reduceToNat, Int.reduceTDiv, Int.reduceTMod, Int.reduceBEq, Int.reduceBNe, decide_true, decide_false, reduceCtorEq, reduceIte, P3, q3]
    | simp (disch := omega) only [w64, w32, wu8, wu16, wu32, wu64]
    | ((with_reducible first | refine o_call (c0) ?he ?hc ?_ | refine p_call (c0) ?he ?hc ?_ | refine c_call (c0) ?he ?hc ?_); (case he | hc => first | rfl | (simp [D.erL, D.er, D.closedL, D.closed, d1, d2, d3, d4]; done)))
    | ((with_reducible first | refine o_call (c1) ?he ?hc ?_ | refine p_call (c1) ?he ?hc ?_ | refine c_call (c1) ?he ?hc ?_); (case he | hc => first | rfl | (simp [D.erL, D.er, D.closedL, D.closed, d1, d2, d3, d4]; done)))
    | ((with_reducible first | refine o_call (c2) ?he ?hc ?_ | refine p_call (c2) ?he ?hc ?_ | refine c_call (c2) ?he ?hc ?_); (case he | hc => first | rfl | (simp [D.erL, D.er, D.closedL, D.closed, d1, d2, d3, d4]; done)))
    | ((with_reducible apply s_bsl); (case he | hl | hc => first | rfl | assumption | omega | ((first | refine ⟨?_, ?_⟩ | skip) <;> first | omega | (simp only [lN1, lN2, lN3, lN4, lN5, lN6, lN7, d1, d2, d3, d4] <;> omega)) | (simp [elemsK, D.isVal, D.cells, D.closedL, D.closed, d1, d2, d3, d4]; first | done | omega)))
    | with_reducible first | apply cd_dec | apply cd_eq | apply cd_ne | apply cd_split | apply gd_dec | apply gd_eq | apply gd_ne | apply gd_split | apply gq_dec | apply gq_eq | apply gq_ne | apply gq_split
    | ((with_reducible refine And.intro ?hw ?_); (case hw => first | omega | rfl | exact ⟨_, _, rfl⟩ | assumption | (simp only [lN1, lN2, lN3, lN4, lN5, lN6, lN7, d1, d2, d3, d4] <;> omega)))
    | with_reducible intro _)
    all_goals first
      | omega
      | (simp [D.closed, D.er]; done)
  rw [h2] at c2
  obtain ⟨hsm, n1, n2, n3, n4⟩ := few_small h2
  have e1 := public_p s h hp.1
  have e2 := rpublic_p s h hp.1
  have e3 := sign_p s h i m hp.1 hp.2.1 hb
  have e4 := rsign_p s h i m hp.1 hp.2.1
  obtain ⟨l1, l2⟩ := sgnR_lens s h i m
  have e5 := ssame_p (sgnR s h i m).1 (sgnR s h i m).1 (by omega) (by omega)
  rw [sameS_refl] at e5
  have f1 := verify_p p m x hsm hp.2.1
  have f2 := rverify_p p m x hsm hp.2.1
  have f3 := verify_p (pubR s h).1 m x hsm hp.2.1
  have f4 := rverify_p (pubR s h).1 m x hsm hp.2.1
  have g1 := closed_strs (sgnR s h i m).1.sig
  have g2 := closed_strs (sgnR s h i m).1.path
  have g3 := erL_strs (sgnR s h i m).1.sig
  have g4 := erL_strs (sgnR s h i m).1.path
  unfold sgnD sealD at e3 e4
  unfold pubD at e1 e2
  unfold sealD at e5 f1 f2 f3 f4
  generalize ver (pubR s h).1 m x = b2 at *
  generalize ver p m x = b1 at *
  generalize pubR s h = PU at *
  generalize sgnR s h i m = SG at *
  obtain ⟨p1, p2⟩ := PU
  obtain ⟨⟨si, ss, sp⟩, er⟩ := SG
  simp only at e1 e2 e3 e4 e5 f1 f2 f3 f4 g1 g2 g3 g4
  generalize strs x.sig = SS at *
  generalize strs x.path = PP at *
  generalize strs ss = SA at *
  generalize strs sp = SB at *
  have w1 : (p1 == p1) = true := by simp
  have w2 : (p2 == p2) = true := by simp
  have w3 : (er == er) = true := by simp
  have w4 : (b1 == b1) = true := by simp
  have w5 : (b2 == b2) = true := by simp
  by_cases hh : h > 3 ∧ h ≤ 8
  · have k1 : decide (3 < h) = true := decide_eq_true hh.1
    have k2 : decide (h ≤ 8) = true := decide_eq_true hh.2
    repeat' (first
    | with_reducible first | apply swp_seq | apply swp_reg | apply swp_regD | apply swp_block | apply swp_exit | apply swp_ret | apply swp_skip | apply swp_cd
    | simp only [go_sem, Nat.reduceAdd, Nat.reduceSub, Nat.reduceMul, Nat.reduceEqDiff, Nat.reduceLeDiff, Nat.reduceLT, Int.reduceEq, Int.reduceNe, Int.reduceLT, Int.reduceLE, Int.reduceAdd, Int.reduceSub, Int.reduceMul, Int.reduceNeg, Int.reduceToNat, Int.reduceTDiv, Int.reduceTMod, Int.reduceBEq, Int.reduceBNe, decide_true, decide_false, reduceCtorEq, reduceIte, P3, q3, k1, k2]
    | simp (disch := omega) only [w64, w32, wu8, wu16, wu32, wu64]
    | ((with_reducible first | refine o_call (c0) ?he ?hc ?_ | refine p_call (c0) ?he ?hc ?_ | refine c_call (c0) ?he ?hc ?_); (case he | hc => first | rfl | (simp [D.erL, D.er, D.closedL, D.closed, d1, d2, d3, d4]; done)))
    | ((with_reducible first | refine o_call (c1) ?he ?hc ?_ | refine p_call (c1) ?he ?hc ?_ | refine c_call (c1) ?he ?hc ?_); (case he | hc => first | rfl | (simp [D.erL, D.er, D.closedL, D.closed, d1, d2, d3, d4]; done)))
    | ((with_reducible first | refine o_call (c2) ?he ?hc ?_ | refine p_call (c2) ?he ?hc ?_ | refine c_call (c2) ?he ?hc ?_); (case he | hc => first | rfl | (simp [D.erL, D.er, D.closedL, D.closed, d1, d2, d3, d4]; done)))
    | ((with_reducible apply s_bsl); (case he | hl | hc => first | rfl | assumption | omega | ((first | refine ⟨?_, ?_⟩ | skip) <;> first | omega | (simp only [lN1, lN2, lN3, lN4, lN5, lN6, lN7, d1, d2, d3, d4] <;> omega)) | (simp [elemsK, D.isVal, D.cells, D.closedL, D.closed, d1, d2, d3, d4]; first | done | omega)))
    | with_reducible first | apply cd_dec | apply cd_eq | apply cd_ne | apply cd_split | apply gd_dec | apply gd_eq | apply gd_ne | apply gd_split | apply gq_dec | apply gq_eq | apply gq_ne | apply gq_split
    | ((with_reducible refine And.intro ?hw ?_); (case hw => first | omega | rfl | exact ⟨_, _, rfl⟩ | assumption | (simp only [lN1, lN2, lN3, lN4, lN5, lN6, lN7, d1, d2, d3, d4] <;> omega)))
    | with_reducible intro _)
    all_goals first
      | omega
      | (simp [D.closed, D.er]; done)
  · by_cases h3 : 3 < h
    · have k1 : decide (3 < h) = true := decide_eq_true h3
      have k2 : decide (h ≤ 8) = false := decide_eq_false (by omega)
      repeat' (first
    | with_reducible first | apply swp_seq | apply swp_reg | apply swp_regD | apply swp_block | apply swp_exit | apply swp_ret | apply swp_skip | apply swp_cd
    | simp only [go_sem, Nat.reduceAdd, Nat.reduceSub, Nat.reduceMul, Nat.reduceEqDiff, Nat.reduceLeDiff, Nat.reduceLT, Int.reduceEq, Int.reduceNe, Int.reduceLT, Int.reduceLE, Int.reduceAdd, Int.reduceSub, Int.reduceMul, Int.reduceNeg, Int.reduceToNat, Int.reduceTDiv, Int.reduceTMod, Int.reduceBEq, Int.reduceBNe, decide_true, decide_false, reduceCtorEq, reduceIte, P3, q3, k1, k2, w1, w2, w3, w4, w5]
    | simp (disch := omega) only [w64, w32, wu8, wu16, wu32, wu64]
    | ((with_reducible first | refine o_call (c0) ?he ?hc ?_ | refine p_call (c0) ?he ?hc ?_ | refine c_call (c0) ?he ?hc ?_); (case he | hc => first | rfl | (simp [D.erL, D.er, D.closedL, D.closed, d1, d2, d3, d4, g1, g2, g3, g4]; done)))
    | ((with_reducible first | refine o_call (c1) ?he ?hc ?_ | refine p_call (c1) ?he ?hc ?_ | refine c_call (c1) ?he ?hc ?_); (case he | hc => first | rfl | (simp [D.erL, D.er, D.closedL, D.closed, d1, d2, d3, d4, g1, g2, g3, g4]; done)))
    | ((with_reducible first | refine o_call (c2) ?he ?hc ?_ | refine p_call (c2) ?he ?hc ?_ | refine c_call (c2) ?he ?hc ?_); (case he | hc => first | rfl | (simp [D.erL, D.er, D.closedL, D.closed, d1, d2, d3, d4, g1, g2, g3, g4]; done)))
    | ((with_reducible first | refine o_call (e1) ?he ?hc ?_ | refine p_call (e1) ?he ?hc ?_ | refine c_call (e1) ?he ?hc ?_); (case he | hc => first | rfl | (simp [D.erL, D.er, D.closedL, D.closed, d1, d2, d3, d4, g1, g2, g3, g4]; done)))
    | ((with_reducible first | refine o_call (e2) ?he ?hc ?_ | refine p_call (e2) ?he ?hc ?_ | refine c_call (e2) ?he ?hc ?_); (case he | hc => first | rfl | (simp [D.erL, D.er, D.closedL, D.closed, d1, d2, d3, d4, g1, g2, g3, g4]; done)))
    | ((with_reducible first | refine o_call (e3) ?he ?hc ?_ | refine p_call (e3) ?he ?hc ?_ | refine c_call (e3) ?he ?hc ?_); (case he | hc => first | rfl | (simp [D.erL, D.er, D.closedL, D.closed, d1, d2, d3, d4, g1, g2, g3, g4]; done)))
    | ((with_reducible first | refine o_call (e4) ?he ?hc ?_ | refine p_call (e4) ?he ?hc ?_ | refine c_call (e4) ?he ?hc ?_); (case he | hc => first | rfl | (simp [D.erL, D.er, D.closedL, D.closed, d1, d2, d3, d4, g1, g2, g3, g4]; done)))
    | ((with_reducible first | refine o_call (e5) ?he ?hc ?_ | refine p_call (e5) ?he ?hc ?_ | refine c_call (e5) ?he ?hc ?_); (case he | hc => first | rfl | (simp [D.erL, D.er, D.closedL, D.closed, d1, d2, d3, d4, g1, g2, g3, g4]; done)))
    | ((with_reducible first | refine o_call (f1) ?he ?hc ?_ | refine p_call (f1) ?he ?hc ?_ | refine c_call (f1) ?he ?hc ?_); (case he | hc => first | rfl | (simp [D.erL, D.er, D.closedL, D.closed, d1, d2, d3, d4, g1, g2, g3, g4]; done)))
    | ((with_reducible first | refine o_call (f2) ?he ?hc ?_ | refine p_call (f2) ?he ?hc ?_ | refine c_call (f2) ?he ?hc ?_); (case he | hc => first | rfl | (simp [D.erL, D.er, D.closedL, D.closed, d1, d2, d3, d4, g1, g2, g3, g4]; done)))
    | ((with_reducible first | refine o_call (f3) ?he ?hc ?_ | refine p_call (f3) ?he ?hc ?_ | refine c_call (f3) ?he ?hc ?_); (case he | hc => first | rfl | (simp [D.erL, D.er, D.closedL, D.closed, d1, d2, d3, d4, g1, g2, g3, g4]; done)))
    | ((with_reducible first | refine o_call (f4) ?he ?hc ?_ | refine p_call (f4) ?he ?hc ?_ | refine c_call (f4) ?he ?hc ?_); (case he | hc => first | rfl | (simp [D.erL, D.er, D.closedL, D.closed, d1, d2, d3, d4, g1, g2, g3, g4]; done)))
    | ((with_reducible apply s_bsl); (case he | hl | hc => first | rfl | assumption | omega | ((first | refine ⟨?_, ?_⟩ | skip) <;> first | omega | (simp only [lN1, lN2, lN3, lN4, lN5, lN6, lN7, d1, d2, d3, d4, g1, g2, g3, g4] <;> omega)) | (simp [elemsK, D.isVal, D.cells, D.closedL, D.closed, d1, d2, d3, d4, g1, g2, g3, g4]; first | done | omega)))
    | with_reducible first | apply cd_dec | apply cd_eq | apply cd_ne | apply cd_split | apply gd_dec | apply gd_eq | apply gd_ne | apply gd_split | apply gq_dec | apply gq_eq | apply gq_ne | apply gq_split
    | ((with_reducible refine And.intro ?hw ?_); (case hw => first | omega | rfl | exact ⟨_, _, rfl⟩ | assumption | (simp only [lN1, lN2, lN3, lN4, lN5, lN6, lN7, d1, d2, d3, d4, g1, g2, g3, g4] <;> omega)))
    | with_reducible intro _)
      all_goals first
        | omega
        | (simp [D.closed, D.er]; done)
        | trace_state
    · have k1 : decide (3 < h) = false := decide_eq_false h3
      repeat' (first
    | with_reducible first | apply swp_seq | apply swp_reg | apply swp_regD | apply swp_block | apply swp_exit | apply swp_ret | apply swp_skip | apply swp_cd
    | simp only [go_sem, Nat.reduceAdd, Nat.reduceSub, Nat.reduceMul, Nat.reduceEqDiff, Nat.reduceLeDiff, Nat.reduceLT, Int.reduceEq, Int.reduceNe, Int.reduceLT, Int.reduceLE, Int.reduceAdd, Int.reduceSub, Int.reduceMul, Int.reduceNeg, Int.reduceToNat, Int.reduceTDiv, Int.reduceTMod, Int.reduceBEq, Int.reduceBNe, decide_true, decide_false, reduceCtorEq, reduceIte, P3, q3, k1, w1, w2, w3, w4, w5]
    | simp (disch := omega) only [w64, w32, wu8, wu16, wu32, wu64]
    | ((with_reducible first | refine o_call (c0) ?he ?hc ?_ | refine p_call (c0) ?he ?hc ?_ | refine c_call (c0) ?he ?hc ?_); (case he | hc => first | rfl | (simp [D.erL, D.er, D.closedL, D.closed, d1, d2, d3, d4, g1, g2, g3, g4]; done)))
    | ((with_reducible first | refine o_call (c1) ?he ?hc ?_ | refine p_call (c1) ?he ?hc ?_ | refine c_call (c1) ?he ?hc ?_); (case he | hc => first | rfl | (simp [D.erL, D.er, D.closedL, D.closed, d1, d2, d3, d4, g1, g2, g3, g4]; done)))
    | ((with_reducible first | refine o_call (c2) ?he ?hc ?_ | refine p_call (c2) ?he ?hc ?_ | refine c_call (c2) ?he ?hc ?_); (case he | hc => first | rfl | (simp [D.erL, D.er, D.closedL, D.closed, d1, d2, d3, d4, g1, g2, g3, g4]; done)))
    | ((with_reducible first | refine o_call (e1) ?he ?hc ?_ | refine p_call (e1) ?he ?hc ?_ | refine c_call (e1) ?he ?hc ?_); (case he | hc => first | rfl | (simp [D.erL, D.er, D.closedL, D.closed, d1, d2, d3, d4, g1, g2, g3, g4]; done)))
    | ((with_reducible first | refine o_call (e2) ?he ?hc ?_ | refine p_call (e2) ?he ?hc ?_ | refine c_call (e2) ?he ?hc ?_); (case he | hc => first | rfl | (simp [D.erL, D.er, D.closedL, D.closed, d1, d2, d3, d4, g1, g2, g3, g4]; done)))
    | ((with_reducible first | refine o_call (e3) ?he ?hc ?_ | refine p_call (e3) ?he ?hc ?_ | refine c_call (e3) ?he ?hc ?_); (case he | hc => first | rfl | (simp [D.erL, D.er, D.closedL, D.closed, d1, d2, d3, d4, g1, g2, g3, g4]; done)))
    | ((with_reducible first | refine o_call (e4) ?he ?hc ?_ | refine p_call (e4) ?he ?hc ?_ | refine c_call (e4) ?he ?hc ?_); (case he | hc => first | rfl | (simp [D.erL, D.er, D.closedL, D.closed, d1, d2, d3, d4, g1, g2, g3, g4]; done)))
    | ((with_reducible first | refine o_call (e5) ?he ?hc ?_ | refine p_call (e5) ?he ?hc ?_ | refine c_call (e5) ?he ?hc ?_); (case he | hc => first | rfl | (simp [D.erL, D.er, D.closedL, D.closed, d1, d2, d3, d4, g1, g2, g3, g4]; done)))
    | ((with_reducible first | refine o_call (f1) ?he ?hc ?_ | refine p_call (f1) ?he ?hc ?_ | refine c_call (f1) ?he ?hc ?_); (case he | hc => first | rfl | (simp [D.erL, D.er, D.closedL, D.closed, d1, d2, d3, d4, g1, g2, g3, g4]; done)))
    | ((with_reducible first | refine o_call (f2) ?he ?hc ?_ | refine p_call (f2) ?he ?hc ?_ | refine c_call (f2) ?he ?hc ?_); (case he | hc => first | rfl | (simp [D.erL, D.er, D.closedL, D.closed, d1, d2, d3, d4, g1, g2, g3, g4]; done)))
    | ((with_reducible first | refine o_call (f3) ?he ?hc ?_ | refine p_call (f3) ?he ?hc ?_ | refine c_call (f3) ?he ?hc ?_); (case he | hc => first | rfl | (simp [D.erL, D.er, D.closedL, D.closed, d1, d2, d3, d4, g1, g2, g3, g4]; done)))
    | ((with_reducible first | refine o_call (f4) ?he ?hc ?_ | refine p_call (f4) ?he ?hc ?_ | refine c_call (f4) ?he ?hc ?_); (case he | hc => first | rfl | (simp [D.erL, D.er, D.closedL, D.closed, d1, d2, d3, d4, g1, g2, g3, g4]; done)))
    | ((with_reducible apply s_bsl); (case he | hl | hc => first | rfl | assumption | omega | ((first | refine ⟨?_, ?_⟩ | skip) <;> first | omega | (simp only [lN1, lN2, lN3, lN4, lN5, lN6, lN7, d1, d2, d3, d4, g1, g2, g3, g4] <;> omega)) | (simp [elemsK, D.isVal, D.cells, D.closedL, D.closed, d1, d2, d3, d4, g1, g2, g3, g4]; first | done | omega)))
    | with_reducible first | apply cd_dec | apply cd_eq | apply cd_ne | apply cd_split | apply gd_dec | apply gd_eq | apply gd_ne | apply gd_split | apply gq_dec | apply gq_eq | apply gq_ne | apply gq_split
    | ((with_reducible refine And.intro ?hw ?_); (case hw => first | omega | rfl | exact ⟨_, _, rfl⟩ | assumption | (simp only [lN1, lN2, lN3, lN4, lN5, lN6, lN7, d1, d2, d3, d4, g1, g2, g3, g4] <;> omega)))
    | with_reducible intro _)
      all_goals first
        | omega
        | (simp [D.closed, D.er]; done)
end Go.Proofs.YtgjkhlnpplajjaaDoor
end
section
set_option maxRecDepth 100000
set_option linter.unusedSimpArgs false
set_option linter.unusedVariables false
namespace Go.Proofs.YtgjkhlnpplajjaaDoor
open Go GoV Go.RowKit
end Go.Proofs.YtgjkhlnpplajjaaDoor
end
section
set_option maxRecDepth 100000
set_option linter.unusedSimpArgs false
set_option linter.unusedVariables false
namespace Go.Proofs.YtgjkhlnpplajjaaDoor
open Go GoV Go.RowKit
theorem opens_strs {w : World} : ∀ n, Opens Tryd.prog w n 22 (fun l : List (List UInt8) => [.slice (strs l) .no]) (fun l => l.length ≤ 9223372036854775807) :=
  opens_all fun _ => (opens_slice Tryd.underlying22 (show 0 < Tryd.prog.cellsOf 9 by rw [show Tryd.prog.cellsOf 9 = 1 by kernel_rfl]; exact Nat.one_pos) (opens_str Tryd.underlying9)).imp id (fun a _ => rfl) (fun a h => h.1)
theorem opens_seal {w : World} : ∀ n, Opens Tryd.prog w n 24 (fun x : Seal => [.int .i64 x.idx, .slice (strs x.sig) .no, .slice (strs x.path) .no]) (fun x => -9223372036854775808 ≤ x.idx ∧ x.idx ≤ 9223372036854775807) := by
  refine opens_all fun n => ?_
  have hF : OpensF Tryd.prog w n [⟨"Index", 3, 0, false, "", "", 0⟩, ⟨"Sig", 22, 1, false, "", "", 8⟩, ⟨"Path", 22, 2, false, "", "", 32⟩] 0 _ _ :=
    opensF_cons (c := 1) rfl (by kernel_rfl) (opens_i64 Tryd.underlying3) (opensF_cons (c := 1) rfl (by kernel_rfl) (opens_strs n) (opensF_cons (c := 1) rfl (by kernel_rfl) (opens_strs n) opensF_nil))
  exact (opens_struct Tryd.underlying24 (by kernel_rfl) hF).imp (fun a => ⟨a.1, a.2.1, a.2.2.1⟩) (fun a _ => by simp) (fun a h => h.1)
end Go.Proofs.YtgjkhlnpplajjaaDoor
end
