/- Own texts, merged by a program: the engine that walks the code, and what the functions that the law reaches compute. -/
import Derived.Test.YtgjkhlnpplajjaaDoorQa3
import Derived.Test.YtgjkhlnpplajjaaDoorProg
import Derived.KernelRfl
import Derived.Lib.ItoaNum
section
set_option maxRecDepth 100000
set_option linter.unusedSimpArgs false
set_option linter.unusedVariables false
namespace Go.Proofs.YtgjkhlnpplajjaaDoor
open Go GoV Go.RowKit
theorem getD_lt {l : List (List UInt8)} {i : Nat} (hi : i < l.length) : l.getD i [] = l[i] := by simp [List.getD, hi]
theorem same_p (a b : List (List UInt8)) (hl : a.length ≤ 4611686018427387904) : Pur M 21 [.slice (strs a) .no, .slice (strs b) .no] (.bool (decide (a = b))) := by
  refine ok21 rfl ?_
  rw [i21]
  unfold c21
  by_cases hn : a.length = b.length
  · repeat' (first
    | with_reducible first | apply swp_seq | apply swp_reg | apply swp_regD | apply swp_block | apply swp_exit | apply swp_ret | apply swp_skip | apply swp_cd
    | simp only [go_sem, Nat.reduceAdd, Nat.reduceSub, Nat.reduceMul, Nat.reduceEqDiff, Nat.reduceLeDiff, Nat.reduceLT, Int.reduceEq, Int.reduceNe, Int.reduceLT, Int.reduceLE, Int.reduceAdd, Int.reduceSub, Int.reduceMul, Int.reduceNeg, Int.reduceToNat, Int.reduceTDiv, Int.reduceTMod, Int.reduceBEq, Int.reduceBNe, decide_true, decide_false, reduceCtorEq, reduceIte, P21, q21, List.length_map]
    | simp (disch := omega) only [w64, w32, wu8, wu16, wu32, wu64]
    | with_reducible first | apply cd_dec | apply cd_eq | apply cd_ne | apply cd_split
    | ((with_reducible refine And.intro ?hw ?_); (case hw => first | omega | rfl | exact ⟨_, _, rfl⟩ | assumption | (simp only [lN1, lN2, lN3, lN4, lN5, lN6, lN7] <;> omega)))
    | with_reducible intro _)
    all_goals try omega
    refine swp_fam [0, 1, 2, 3] (fun i : Nat => ⟨[.slice (strs a) .no, .slice (strs b) .no, .bool false, .int .i64 i, .undef, .undef, .undef], [], ⟨[], []⟩⟩)
      (fun i => i ≤ a.length ∧ a.take i = b.take i) (fun i => a.length - i) 0 ⟨by omega, by simp⟩ ?_ ?_
    · simp [keepE, St.keep]
    · rintro i ⟨g1, g2⟩
      by_cases hi : i < a.length
      · have hg := strs_get hi
        have hg2 := strs_get (l := b) (i := i) (by omega)
        by_cases he : a.getD i [] = b.getD i []
        · have h6 : (b.getD i [] == b.getD i []) = true := by simp
          rw [he] at hg
          repeat' (first
    | with_reducible first | apply swp_seq | apply swp_reg | apply swp_regD | apply swp_block | apply swp_exit | apply swp_ret | apply swp_skip | apply swp_cd
    | simp only [go_sem, Nat.reduceAdd, Nat.reduceSub, Nat.reduceMul, Nat.reduceEqDiff, Nat.reduceLeDiff, Nat.reduceLT, Int.reduceEq, Int.reduceNe, Int.reduceLT, Int.reduceLE, Int.reduceAdd, Int.reduceSub, Int.reduceMul, Int.reduceNeg, Int.reduceToNat, Int.reduceTDiv, Int.reduceTMod, Int.reduceBEq, Int.reduceBNe, decide_true, decide_false, reduceCtorEq, reduceIte, P21, q21, List.length_map, hg, hg2]
    | simp (disch := omega) only [w64, w32, wu8, wu16, wu32, wu64]
    | with_reducible first | apply cd_dec | apply cd_eq | apply cd_ne | apply cd_split
    | ((with_reducible refine And.intro ?hw ?_); (case hw => first | omega | rfl | exact ⟨_, _, rfl⟩ | assumption | (simp only [lN1, lN2, lN3, lN4, lN5, lN6, lN7] <;> omega)))
    | with_reducible intro _)
          all_goals try omega
          all_goals try (simp at *; done)
          refine ⟨i + 1, ⟨by omega, ?_⟩, by omega, ?_⟩
          · rw [getD_lt hi, getD_lt (show i < b.length by omega)] at he
            rw [List.take_succ_eq_append_getElem hi, List.take_succ_eq_append_getElem (show i < b.length by omega), g2, he]
          · simp [keepE, St.keep]
        · have hne : decide (a = b) = false := by
            simp only [decide_eq_false_iff_not]
            rintro rfl
            exact he rfl
          rw [hne]
          generalize a.getD i [] = x at *
          generalize b.getD i [] = y at *
          repeat' (first
    | with_reducible first | apply swp_seq | apply swp_reg | apply swp_regD | apply swp_block | apply swp_exit | apply swp_ret | apply swp_skip | apply swp_cd
    | simp only [go_sem, Nat.reduceAdd, Nat.reduceSub, Nat.reduceMul, Nat.reduceEqDiff, Nat.reduceLeDiff, Nat.reduceLT, Int.reduceEq, Int.reduceNe, Int.reduceLT, Int.reduceLE, Int.reduceAdd, Int.reduceSub, Int.reduceMul, Int.reduceNeg, Int.reduceToNat, Int.reduceTDiv, Int.reduceTMod, Int.reduceBEq, Int.reduceBNe, decide_true, decide_false, reduceCtorEq, reduceIte, P21, q21, List.length_map, hg, hg2]
    | simp (disch := omega) only [w64, w32, wu8, wu16, wu32, wu64]
    | with_reducible first | apply cd_dec | apply cd_eq | apply cd_ne | apply cd_split
    | ((with_reducible refine And.intro ?hw ?_); (case hw => first | omega | rfl | exact ⟨_, _, rfl⟩ | assumption | (simp only [lN1, lN2, lN3, lN4, lN5, lN6, lN7] <;> omega)))
    | with_reducible intro _)
          all_goals first
            | omega
            | (simp [D.closed, D.er]; done)
            | (simp at *; done)
            | (simp_all; done)
      · have e : i = a.length := by omega
        subst e
        rw [List.take_length, hn, List.take_length] at g2
        have hne : decide (a = b) = true := by simpa using g2
        rw [hne]
        repeat' (first
    | with_reducible first | apply swp_seq | apply swp_reg | apply swp_regD | apply swp_block | apply swp_exit | apply swp_ret | apply swp_skip | apply swp_cd
    | simp only [go_sem, Nat.reduceAdd, Nat.reduceSub, Nat.reduceMul, Nat.reduceEqDiff, Nat.reduceLeDiff, Nat.reduceLT, Int.reduceEq, Int.reduceNe, Int.reduceLT, Int.reduceLE, Int.reduceAdd, Int.reduceSub, Int.reduceMul, Int.reduceNeg, Int.reduceToNat, Int.reduceTDiv, Int.reduceTMod, Int.reduceBEq, Int.reduceBNe, decide_true, decide_false, reduceCtorEq, reduceIte, P21, q21, List.length_map]
    | simp (disch := omega) only [w64, w32, wu8, wu16, wu32, wu64]
    | with_reducible first | apply cd_dec | apply cd_eq | apply cd_ne | apply cd_split
    | ((with_reducible refine And.intro ?hw ?_); (case hw => first | omega | rfl | exact ⟨_, _, rfl⟩ | assumption | (simp only [lN1, lN2, lN3, lN4, lN5, lN6, lN7] <;> omega)))
    | with_reducible intro _)
        all_goals first
          | omega
          | (simp [D.closed, D.er]; done)
  · have hne : decide (a = b) = false := by
      simp only [decide_eq_false_iff_not]
      rintro rfl
      exact hn rfl
    rw [hne]
    repeat' (first
    | with_reducible first | apply swp_seq | apply swp_reg | apply swp_regD | apply swp_block | apply swp_exit | apply swp_ret | apply swp_skip | apply swp_cd
    | simp only [go_sem, Nat.reduceAdd, Nat.reduceSub, Nat.reduceMul, Nat.reduceEqDiff, Nat.reduceLeDiff, Nat.reduceLT, Int.reduceEq, Int.reduceNe, Int.reduceLT, Int.reduceLE, Int.reduceAdd, Int.reduceSub, Int.reduceMul, Int.reduceNeg, Int.reduceToNat, Int.reduceTDiv, Int.reduceTMod, Int.reduceBEq, Int.reduceBNe, decide_true, decide_false, reduceCtorEq, reduceIte, P21, q21, List.length_map]
    | simp (disch := omega) only [w64, w32, wu8, wu16, wu32, wu64]
    | with_reducible first | apply cd_dec | apply cd_eq | apply cd_ne | apply cd_split
    | ((with_reducible refine And.intro ?hw ?_); (case hw => first | omega | rfl | exact ⟨_, _, rfl⟩ | assumption | (simp only [lN1, lN2, lN3, lN4, lN5, lN6, lN7] <;> omega)))
    | with_reducible intro _)
    all_goals first
      | omega
      | (simp [D.closed, D.er]; done)
def cnt (l : List (List UInt8)) : Nat := (l.map fun s => s.length + 21).sum
theorem cnt_step {l : List (List UInt8)} {i : Nat} (hi : i < l.length) : cnt (l.take (i + 1)) = cnt (l.take i) + ((l.getD i []).length + 21) := by
  unfold cnt
  rw [List.take_succ_eq_append_getElem hi, getD_lt hi, List.map_append, List.sum_append]
  simp only [List.map_cons, List.map_nil, List.sum_cons, List.sum_nil, Nat.add_zero]
theorem bys_er : ∀ l : List UInt8, D.erL (bys l) = bys l
  | [] => rfl
  | b :: l => by
    have := bys_er l
    simp only [bys, List.map_cons, D.erL, D.er] at this ⊢
    rw [this]
set_option maxHeartbeats 2000000 in
theorem joined_p (l : List (List UInt8)) (h : okL l) : Pur M 47 [.slice (strs l) .no] (.str (joined l)) := by
  refine ok47 rfl ?_
  rw [i47]
  unfold c47
  have hl := h.1
  have hj := joined_len h
  repeat' (first
    | with_reducible first | apply swp_seq | apply swp_reg | apply swp_regD | apply swp_block | apply swp_exit | apply swp_ret | apply swp_skip | apply swp_cd
    | simp only [go_sem, Nat.reduceAdd, Nat.reduceSub, Nat.reduceMul, Nat.reduceEqDiff, Nat.reduceLeDiff, Nat.reduceLT, Int.reduceEq, Int.reduceNe, Int.reduceLT, Int.reduceLE, Int.reduceAdd, Int.reduceSub, Int.reduceMul, Int.reduceNeg, Int.reduceToNat, Int.reduceTDiv, Int.reduceTMod, Int.reduceBEq, Int.reduceBNe, decide_true, decide_false, reduceCtorEq, reduceIte, P47, q47, List.length_map]
    | simp (disch := omega) only [w64, w32, wu8, wu16, wu32, wu64]
    | ((with_reducible apply s_appT); (case he => rfl); (case hK | hc | hr | hV => first | rfl | assumption | omega | ((first | refine ⟨?_, ?_⟩ | skip) <;> first | omega | (simp only [lN1, lN2, lN3, lN4, lN5, lN6, lN7] <;> omega)) | (simp [elemsK, D.isVal, D.cells, D.closedL, D.closed]; first | done | omega)))
    | ((with_reducible apply s_appG); (case he => rfl); (case hV | hK | hr | hl => first | rfl | assumption | omega | ((first | refine ⟨?_, ?_⟩ | skip) <;> first | omega | (simp only [lN1, lN2, lN3, lN4, lN5, lN6, lN7] <;> omega)) | (simp [elemsK, D.isVal, D.cells, D.closedL, D.closed]; first | done | omega)))
    | ((with_reducible apply s_app0); (case he => rfl); (case hK | hc | hr => first | rfl | assumption | omega | ((first | refine ⟨?_, ?_⟩ | skip) <;> first | omega | (simp only [lN1, lN2, lN3, lN4, lN5, lN6, lN7] <;> omega)) | (simp [elemsK, D.isVal, D.cells, D.closedL, D.closed]; first | done | omega)))
    | ((with_reducible apply s_appF); (case he => rfl); (case hK | hc | hr | hx | hn => first | rfl | assumption | omega | ((first | refine ⟨?_, ?_⟩ | skip) <;> first | omega | (simp only [lN1, lN2, lN3, lN4, lN5, lN6, lN7] <;> omega)) | (simp [elemsK, D.isVal, D.cells, D.closedL, D.closed]; first | done | omega)))
    | ((with_reducible apply s_bsl); (case he | hl | hc => first | rfl | assumption | omega | ((first | refine ⟨?_, ?_⟩ | skip) <;> first | omega | (simp only [lN1, lN2, lN3, lN4, lN5, lN6, lN7] <;> omega)) | (simp [elemsK, D.isVal, D.cells, D.closedL, D.closed]; first | done | omega)))
    | ((with_reducible apply s_mks); (case h0 | h1 | h2 => first | rfl | assumption | omega | ((first | refine ⟨?_, ?_⟩ | skip) <;> first | omega | (simp only [lN1, lN2, lN3, lN4, lN5, lN6, lN7] <;> omega)) | (simp [elemsK, D.isVal, D.cells, D.closedL, D.closed]; first | done | omega)))
    | ((with_reducible apply s_b2s); (case he | hb => rfl); (case hn => first | rfl | assumption | omega | ((first | refine ⟨?_, ?_⟩ | skip) <;> first | omega | (simp only [lN1, lN2, lN3, lN4, lN5, lN6, lN7] <;> omega)) | (simp [elemsK, D.isVal, D.cells, D.closedL, D.closed]; first | done | omega)))
    | with_reducible first | apply cd_dec | apply cd_eq | apply cd_ne | apply cd_split
    | ((with_reducible refine And.intro ?hw ?_); (case hw => first | omega | rfl | exact ⟨_, _, rfl⟩ | assumption | (simp only [lN1, lN2, lN3, lN4, lN5, lN6, lN7] <;> omega)))
    | with_reducible intro _)
  refine swp_fam [0, 1, 2, 3] (fun i : Nat => ⟨[.slice (strs l) .no, .str [], .int .i64 (cnt (l.take i) : Nat), .int .i64 i, .undef, .undef, .undef, .undef], [], ⟨[], []⟩⟩)
    (fun i => i ≤ l.length ∧ cnt (l.take i) ≤ 1021 * i) (fun i => l.length - i) 0 ⟨by omega, by simp [cnt]⟩ ?_ ?_
  · simp [keepE, St.keep, cnt]
  · rintro i ⟨g1, g2⟩
    by_cases hi : i < l.length
    · have hg := strs_get hi
      have h1 := okL_get h hi
      have hc := cnt_step hi
      generalize hcv : cnt (l.take i) = v at *
      generalize hs : l.getD i [] = s at *
      repeat' (first
    | with_reducible first | apply swp_seq | apply swp_reg | apply swp_regD | apply swp_block | apply swp_exit | apply swp_ret | apply swp_skip | apply swp_cd
    | simp only [go_sem, Nat.reduceAdd, Nat.reduceSub, Nat.reduceMul, Nat.reduceEqDiff, Nat.reduceLeDiff, Nat.reduceLT, Int.reduceEq, Int.reduceNe, Int.reduceLT, Int.reduceLE, Int.reduceAdd, Int.reduceSub, Int.reduceMul, Int.reduceNeg, Int.reduceToNat, Int.reduceTDiv, Int.reduceTMod, Int.reduceBEq, Int.reduceBNe, decide_true, decide_false, reduceCtorEq, reduceIte, P47, q47, List.length_map, hg]
    | simp (disch := omega) only [w64, w32, wu8, wu16, wu32, wu64]
    | ((with_reducible apply s_appT); (case he => rfl); (case hK | hc | hr | hV => first | rfl | assumption | omega | ((first | refine ⟨?_, ?_⟩ | skip) <;> first | omega | (simp only [lN1, lN2, lN3, lN4, lN5, lN6, lN7] <;> omega)) | (simp [elemsK, D.isVal, D.cells, D.closedL, D.closed]; first | done | omega)))
    | ((with_reducible apply s_appG); (case he => rfl); (case hV | hK | hr | hl => first | rfl | assumption | omega | ((first | refine ⟨?_, ?_⟩ | skip) <;> first | omega | (simp only [lN1, lN2, lN3, lN4, lN5, lN6, lN7] <;> omega)) | (simp [elemsK, D.isVal, D.cells, D.closedL, D.closed]; first | done | omega)))
    | ((with_reducible apply s_app0); (case he => rfl); (case hK | hc | hr => first | rfl | assumption | omega | ((first | refine ⟨?_, ?_⟩ | skip) <;> first | omega | (simp only [lN1, lN2, lN3, lN4, lN5, lN6, lN7] <;> omega)) | (simp [elemsK, D.isVal, D.cells, D.closedL, D.closed]; first | done | omega)))
    | ((with_reducible apply s_appF); (case he => rfl); (case hK | hc | hr | hx | hn => first | rfl | assumption | omega | ((first | refine ⟨?_, ?_⟩ | skip) <;> first | omega | (simp only [lN1, lN2, lN3, lN4, lN5, lN6, lN7] <;> omega)) | (simp [elemsK, D.isVal, D.cells, D.closedL, D.closed]; first | done | omega)))
    | ((with_reducible apply s_bsl); (case he | hl | hc => first | rfl | assumption | omega | ((first | refine ⟨?_, ?_⟩ | skip) <;> first | omega | (simp only [lN1, lN2, lN3, lN4, lN5, lN6, lN7] <;> omega)) | (simp [elemsK, D.isVal, D.cells, D.closedL, D.closed]; first | done | omega)))
    | ((with_reducible apply s_mks); (case h0 | h1 | h2 => first | rfl | assumption | omega | ((first | refine ⟨?_, ?_⟩ | skip) <;> first | omega | (simp only [lN1, lN2, lN3, lN4, lN5, lN6, lN7] <;> omega)) | (simp [elemsK, D.isVal, D.cells, D.closedL, D.closed]; first | done | omega)))
    | ((with_reducible apply s_b2s); (case he | hb => rfl); (case hn => first | rfl | assumption | omega | ((first | refine ⟨?_, ?_⟩ | skip) <;> first | omega | (simp only [lN1, lN2, lN3, lN4, lN5, lN6, lN7] <;> omega)) | (simp [elemsK, D.isVal, D.cells, D.closedL, D.closed]; first | done | omega)))
    | with_reducible first | apply cd_dec | apply cd_eq | apply cd_ne | apply cd_split
    | ((with_reducible refine And.intro ?hw ?_); (case hw => first | omega | rfl | exact ⟨_, _, rfl⟩ | assumption | (simp only [lN1, lN2, lN3, lN4, lN5, lN6, lN7] <;> omega)))
    | with_reducible intro _)
      all_goals try omega
      refine ⟨i + 1, ⟨by omega, by omega⟩, by omega, ?_⟩
      rw [hc]
      simp [keepE, St.keep]
      all_goals omega
    · have e : i = l.length := by omega
      subst e
      rw [List.take_length] at g2 ⊢
      generalize cnt l = v at *
      have hv0 : ((v : Nat) : Int).toNat = v := Int.toNat_natCast v
      have hr0 : roomOk v 1 := by simp [roomOk]; omega
      repeat' (first
    | with_reducible first | apply swp_seq | apply swp_reg | apply swp_regD | apply swp_block | apply swp_exit | apply swp_ret | apply swp_skip | apply swp_cd
    | simp only [go_sem, Nat.reduceAdd, Nat.reduceSub, Nat.reduceMul, Nat.reduceEqDiff, Nat.reduceLeDiff, Nat.reduceLT, Int.reduceEq, Int.reduceNe, Int.reduceLT, Int.reduceLE, Int.reduceAdd, Int.reduceSub, Int.reduceMul, Int.reduceNeg, Int.reduceToNat, Int.reduceTDiv, Int.reduceTMod, Int.reduceBEq, Int.reduceBNe, decide_true, decide_false, reduceCtorEq, reduceIte, P47, q47, List.length_map, hv0]
    | simp (disch := omega) only [w64, w32, wu8, wu16, wu32, wu64]
    | ((with_reducible apply s_appT); (case he => rfl); (case hK | hc | hr | hV => first | rfl | assumption | omega | ((first | refine ⟨?_, ?_⟩ | skip) <;> first | omega | (simp only [lN1, lN2, lN3, lN4, lN5, lN6, lN7] <;> omega)) | (simp [elemsK, D.isVal, D.cells, D.closedL, D.closed]; first | done | omega)))
    | ((with_reducible apply s_appG); (case he => rfl); (case hV | hK | hr | hl => first | rfl | assumption | omega | ((first | refine ⟨?_, ?_⟩ | skip) <;> first | omega | (simp only [lN1, lN2, lN3, lN4, lN5, lN6, lN7] <;> omega)) | (simp [elemsK, D.isVal, D.cells, D.closedL, D.closed]; first | done | omega)))
    | ((with_reducible apply s_app0); (case he => rfl); (case hK | hc | hr => first | rfl | assumption | omega | ((first | refine ⟨?_, ?_⟩ | skip) <;> first | omega | (simp only [lN1, lN2, lN3, lN4, lN5, lN6, lN7] <;> omega)) | (simp [elemsK, D.isVal, D.cells, D.closedL, D.closed]; first | done | omega)))
    | ((with_reducible apply s_appF); (case he => rfl); (case hK | hc | hr | hx | hn => first | rfl | assumption | omega | ((first | refine ⟨?_, ?_⟩ | skip) <;> first | omega | (simp only [lN1, lN2, lN3, lN4, lN5, lN6, lN7] <;> omega)) | (simp [elemsK, D.isVal, D.cells, D.closedL, D.closed]; first | done | omega)))
    | ((with_reducible apply s_bsl); (case he | hl | hc => first | rfl | assumption | omega | ((first | refine ⟨?_, ?_⟩ | skip) <;> first | omega | (simp only [lN1, lN2, lN3, lN4, lN5, lN6, lN7] <;> omega)) | (simp [elemsK, D.isVal, D.cells, D.closedL, D.closed]; first | done | omega)))
    | ((with_reducible apply s_mksT); (case h0 | h1 | h2 | hn => first | rfl | assumption | omega | ((first | refine ⟨?_, ?_⟩ | skip) <;> first | omega | (simp only [lN1, lN2, lN3, lN4, lN5, lN6, lN7] <;> omega)) | (simp [elemsK, D.isVal, D.cells, D.closedL, D.closed]; first | done | omega)))
    | ((with_reducible apply s_b2s); (case he | hb => rfl); (case hn => first | rfl | assumption | omega | ((first | refine ⟨?_, ?_⟩ | skip) <;> first | omega | (simp only [lN1, lN2, lN3, lN4, lN5, lN6, lN7] <;> omega)) | (simp [elemsK, D.isVal, D.cells, D.closedL, D.closed]; first | done | omega)))
    | with_reducible first | apply cd_dec | apply cd_eq | apply cd_ne | apply cd_split
    | ((with_reducible refine And.intro ?hw ?_); (case hw => first | omega | rfl | exact ⟨_, _, rfl⟩ | assumption | (simp only [lN1, lN2, lN3, lN4, lN5, lN6, lN7] <;> omega)))
    | with_reducible intro _)
      all_goals try omega
      refine swp_fam [0, 1, 4, 5] (fun i : Nat => ⟨[.slice (strs l) .no, .str [], .undef, .undef, .slice (bys (joined (l.take i))) (.tok 0), .int .i64 i, .undef, .undef], [], ⟨[], [.per 1 (joined (l.take i)).length]⟩⟩)
        (fun i => i ≤ l.length) (fun i => l.length - i) 0 (by omega) ?_ ?_
      · simp [keepE, St.keep, joined]
      · intro i g1
        by_cases hi : i < l.length
        · have hg := strs_get hi
          have h1 := okL_get h hi
          have h2 := joined_le l i
          have h3 := rdec_p (l.getD i []).length (by omega)
          have h4 := itoa3 h1
          have c4 := joined_step hi
          generalize joined (l.take i) = j at *
          generalize l.getD i [] = s at *
          generalize hu : Lib.itoa (s.length : Int) = u at *
          have b1 := bys_elems u
          have b2 := bys_closed u
          have b3 := bys_er u
          have b4 := bys_elems s
          have b5 := bys_closed s
          have b6 := bys_er s
          repeat' (first
    | with_reducible first | apply swp_seq | apply swp_reg | apply swp_regD | apply swp_block | apply swp_exit | apply swp_ret | apply swp_skip | apply swp_cd
    | simp only [go_sem, Nat.reduceAdd, Nat.reduceSub, Nat.reduceMul, Nat.reduceEqDiff, Nat.reduceLeDiff, Nat.reduceLT, Int.reduceEq, Int.reduceNe, Int.reduceLT, Int.reduceLE, Int.reduceAdd, Int.reduceSub, Int.reduceMul, Int.reduceNeg, Int.reduceToNat, Int.reduceTDiv, Int.reduceTMod, Int.reduceBEq, Int.reduceBNe, decide_true, decide_false, reduceCtorEq, reduceIte, P47, q47, List.length_map, hg, b3, b6]
    | simp (disch := omega) only [w64, w32, wu8, wu16, wu32, wu64]
    | ((with_reducible refine o_call (h3) ?he ?hc ?_); (case he | hc => first | rfl | (simp [D.erL, D.er, D.closedL, D.closed, b1, b2, b4, b5]; done)))
    | ((with_reducible apply s_appT); (case he => rfl); (case hK | hc | hr | hV => first | rfl | assumption | omega | ((first | refine ⟨?_, ?_⟩ | skip) <;> first | omega | (simp only [lN1, lN2, lN3, lN4, lN5, lN6, lN7, b1, b2, b4, b5] <;> omega)) | (simp [elemsK, D.isVal, D.cells, D.closedL, D.closed, b1, b2, b4, b5]; first | done | omega)))
    | ((with_reducible apply s_appG); (case he => rfl); (case hV | hK | hr | hl => first | rfl | assumption | omega | ((first | refine ⟨?_, ?_⟩ | skip) <;> first | omega | (simp only [lN1, lN2, lN3, lN4, lN5, lN6, lN7, b1, b2, b4, b5] <;> omega)) | (simp [elemsK, D.isVal, D.cells, D.closedL, D.closed, b1, b2, b4, b5]; first | done | omega)))
    | ((with_reducible apply s_app0T); (case he => rfl); (case hK | hc | hr => first | rfl | assumption | omega | ((first | refine ⟨?_, ?_⟩ | skip) <;> first | omega | (simp only [lN1, lN2, lN3, lN4, lN5, lN6, lN7, b1, b2, b4, b5] <;> omega)) | (simp [elemsK, D.isVal, D.cells, D.closedL, D.closed, b1, b2, b4, b5]; first | done | omega)))
    | ((with_reducible apply s_appFT); (case he => rfl); (case hK | hc | hr | hx | hn => first | rfl | assumption | omega | ((first | refine ⟨?_, ?_⟩ | skip) <;> first | omega | (simp only [lN1, lN2, lN3, lN4, lN5, lN6, lN7, b1, b2, b4, b5] <;> omega)) | (simp [elemsK, D.isVal, D.cells, D.closedL, D.closed, b1, b2, b4, b5]; first | done | omega)))
    | ((with_reducible apply s_bsl); (case he | hl | hc => first | rfl | assumption | omega | ((first | refine ⟨?_, ?_⟩ | skip) <;> first | omega | (simp only [lN1, lN2, lN3, lN4, lN5, lN6, lN7, b1, b2, b4, b5] <;> omega)) | (simp [elemsK, D.isVal, D.cells, D.closedL, D.closed, b1, b2, b4, b5]; first | done | omega)))
    | ((with_reducible apply s_mks); (case h0 | h1 | h2 => first | rfl | assumption | omega | ((first | refine ⟨?_, ?_⟩ | skip) <;> first | omega | (simp only [lN1, lN2, lN3, lN4, lN5, lN6, lN7, b1, b2, b4, b5] <;> omega)) | (simp [elemsK, D.isVal, D.cells, D.closedL, D.closed, b1, b2, b4, b5]; first | done | omega)))
    | ((with_reducible apply s_b2s); (case he | hb => rfl); (case hn => first | rfl | assumption | omega | ((first | refine ⟨?_, ?_⟩ | skip) <;> first | omega | (simp only [lN1, lN2, lN3, lN4, lN5, lN6, lN7, b1, b2, b4, b5] <;> omega)) | (simp [elemsK, D.isVal, D.cells, D.closedL, D.closed, b1, b2, b4, b5]; first | done | omega)))
    | with_reducible first | apply cd_dec | apply cd_eq | apply cd_ne | apply cd_split
    | ((with_reducible refine And.intro ?hw ?_); (case hw => first | omega | rfl | exact ⟨_, _, rfl⟩ | assumption | (simp only [lN1, lN2, lN3, lN4, lN5, lN6, lN7, b1, b2, b4, b5] <;> omega)))
    | with_reducible intro _)
          all_goals try omega
          refine ⟨i + 1, by omega, by omega, ?_⟩
          have e : piece s = u ++ [58] ++ s := by rw [← hu]; rfl
          rw [c4, e]
          simp [keepE, St.keep]
          omega
        · have e : i = l.length := by omega
          subst e
          rw [List.take_length]
          generalize joined l = j at *
          have b1 := bys_elems j
          have b7 := bys_bytes j
          repeat' (first
    | with_reducible first | apply swp_seq | apply swp_reg | apply swp_regD | apply swp_block | apply swp_exit | apply swp_ret | apply swp_skip | apply swp_cd
    | simp only [go_sem, Nat.reduceAdd, Nat.reduceSub, Nat.reduceMul, Nat.reduceEqDiff, Nat.reduceLeDiff, Nat.reduceLT, Int.reduceEq, Int.reduceNe, Int.reduceLT, Int.reduceLE, Int.reduceAdd, Int.reduceSub, Int.reduceMul, Int.reduceNeg, Int.reduceToNat, Int.reduceTDiv, Int.reduceTMod, Int.reduceBEq, Int.reduceBNe, decide_true, decide_false, reduceCtorEq, reduceIte, P47, q47, List.length_map]
    | simp (disch := omega) only [w64, w32, wu8, wu16, wu32, wu64]
    | ((with_reducible apply s_appT); (case he => rfl); (case hK | hc | hr | hV => first | rfl | assumption | omega | ((first | refine ⟨?_, ?_⟩ | skip) <;> first | omega | (simp only [lN1, lN2, lN3, lN4, lN5, lN6, lN7, b7] <;> omega)) | (simp [elemsK, D.isVal, D.cells, D.closedL, D.closed, b7]; first | done | omega)))
    | ((with_reducible apply s_appG); (case he => rfl); (case hV | hK | hr | hl => first | rfl | assumption | omega | ((first | refine ⟨?_, ?_⟩ | skip) <;> first | omega | (simp only [lN1, lN2, lN3, lN4, lN5, lN6, lN7, b7] <;> omega)) | (simp [elemsK, D.isVal, D.cells, D.closedL, D.closed, b7]; first | done | omega)))
    | ((with_reducible apply s_app0); (case he => rfl); (case hK | hc | hr => first | rfl | assumption | omega | ((first | refine ⟨?_, ?_⟩ | skip) <;> first | omega | (simp only [lN1, lN2, lN3, lN4, lN5, lN6, lN7, b7] <;> omega)) | (simp [elemsK, D.isVal, D.cells, D.closedL, D.closed, b7]; first | done | omega)))
    | ((with_reducible apply s_appF); (case he => rfl); (case hK | hc | hr | hx | hn => first | rfl | assumption | omega | ((first | refine ⟨?_, ?_⟩ | skip) <;> first | omega | (simp only [lN1, lN2, lN3, lN4, lN5, lN6, lN7, b7] <;> omega)) | (simp [elemsK, D.isVal, D.cells, D.closedL, D.closed, b7]; first | done | omega)))
    | ((with_reducible apply s_bsl); (case he | hl | hc => first | rfl | assumption | omega | ((first | refine ⟨?_, ?_⟩ | skip) <;> first | omega | (simp only [lN1, lN2, lN3, lN4, lN5, lN6, lN7, b7] <;> omega)) | (simp [elemsK, D.isVal, D.cells, D.closedL, D.closed, b7]; first | done | omega)))
    | ((with_reducible apply s_mks); (case h0 | h1 | h2 => first | rfl | assumption | omega | ((first | refine ⟨?_, ?_⟩ | skip) <;> first | omega | (simp only [lN1, lN2, lN3, lN4, lN5, lN6, lN7, b7] <;> omega)) | (simp [elemsK, D.isVal, D.cells, D.closedL, D.closed, b7]; first | done | omega)))
    | ((with_reducible apply s_b2s); (case he | hb => rfl); (case hn => first | rfl | assumption | omega | ((first | refine ⟨?_, ?_⟩ | skip) <;> first | omega | (simp only [lN1, lN2, lN3, lN4, lN5, lN6, lN7, b7] <;> omega)) | (simp [elemsK, D.isVal, D.cells, D.closedL, D.closed, b7]; first | done | omega)))
    | with_reducible first | apply cd_dec | apply cd_eq | apply cd_ne | apply cd_split
    | ((with_reducible refine And.intro ?hw ?_); (case hw => first | omega | rfl | exact ⟨_, _, rfl⟩ | assumption | (simp only [lN1, lN2, lN3, lN4, lN5, lN6, lN7, b7] <;> omega)))
    | with_reducible intro _)
          all_goals try omega
          refine s_b2s rfl rfl b7 ?_
          repeat' (first
    | with_reducible first | apply swp_seq | apply swp_reg | apply swp_regD | apply swp_block | apply swp_exit | apply swp_ret | apply swp_skip | apply swp_cd
    | simp only [go_sem, Nat.reduceAdd, Nat.reduceSub, Nat.reduceMul, Nat.reduceEqDiff, Nat.reduceLeDiff, Nat.reduceLT, Int.reduceEq, Int.reduceNe, Int.reduceLT, Int.reduceLE, Int.reduceAdd, Int.reduceSub, Int.reduceMul, Int.reduceNeg, Int.reduceToNat, Int.reduceTDiv, Int.reduceTMod, Int.reduceBEq, Int.reduceBNe, decide_true, decide_false, reduceCtorEq, reduceIte, P47, q47]
    | simp (disch := omega) only [w64, w32, wu8, wu16, wu32, wu64]
    | ((with_reducible apply s_appT); (case he => rfl); (case hK | hc | hr | hV => first | rfl | assumption | omega | ((first | refine ⟨?_, ?_⟩ | skip) <;> first | omega | (simp only [lN1, lN2, lN3, lN4, lN5, lN6, lN7] <;> omega)) | (simp [elemsK, D.isVal, D.cells, D.closedL, D.closed]; first | done | omega)))
    | ((with_reducible apply s_appG); (case he => rfl); (case hV | hK | hr | hl => first | rfl | assumption | omega | ((first | refine ⟨?_, ?_⟩ | skip) <;> first | omega | (simp only [lN1, lN2, lN3, lN4, lN5, lN6, lN7] <;> omega)) | (simp [elemsK, D.isVal, D.cells, D.closedL, D.closed]; first | done | omega)))
    | ((with_reducible apply s_app0); (case he => rfl); (case hK | hc | hr => first | rfl | assumption | omega | ((first | refine ⟨?_, ?_⟩ | skip) <;> first | omega | (simp only [lN1, lN2, lN3, lN4, lN5, lN6, lN7] <;> omega)) | (simp [elemsK, D.isVal, D.cells, D.closedL, D.closed]; first | done | omega)))
    | ((with_reducible apply s_appF); (case he => rfl); (case hK | hc | hr | hx | hn => first | rfl | assumption | omega | ((first | refine ⟨?_, ?_⟩ | skip) <;> first | omega | (simp only [lN1, lN2, lN3, lN4, lN5, lN6, lN7] <;> omega)) | (simp [elemsK, D.isVal, D.cells, D.closedL, D.closed]; first | done | omega)))
    | ((with_reducible apply s_bsl); (case he | hl | hc => first | rfl | assumption | omega | ((first | refine ⟨?_, ?_⟩ | skip) <;> first | omega | (simp only [lN1, lN2, lN3, lN4, lN5, lN6, lN7] <;> omega)) | (simp [elemsK, D.isVal, D.cells, D.closedL, D.closed]; first | done | omega)))
    | ((with_reducible apply s_mks); (case h0 | h1 | h2 => first | rfl | assumption | omega | ((first | refine ⟨?_, ?_⟩ | skip) <;> first | omega | (simp only [lN1, lN2, lN3, lN4, lN5, lN6, lN7] <;> omega)) | (simp [elemsK, D.isVal, D.cells, D.closedL, D.closed]; first | done | omega)))
    | ((with_reducible apply s_b2s); (case he | hb => rfl); (case hn => first | rfl | assumption | omega | ((first | refine ⟨?_, ?_⟩ | skip) <;> first | omega | (simp only [lN1, lN2, lN3, lN4, lN5, lN6, lN7] <;> omega)) | (simp [elemsK, D.isVal, D.cells, D.closedL, D.closed]; first | done | omega)))
    | with_reducible first | apply cd_dec | apply cd_eq | apply cd_ne | apply cd_split
    | ((with_reducible refine And.intro ?hw ?_); (case hw => first | omega | rfl | exact ⟨_, _, rfl⟩ | assumption | (simp only [lN1, lN2, lN3, lN4, lN5, lN6, lN7] <;> omega)))
    | with_reducible intro _)
          all_goals (simp [D.closed, D.er]; done)
end Go.Proofs.YtgjkhlnpplajjaaDoor
end
section
set_option maxRecDepth 100000
set_option linter.unusedSimpArgs false
set_option linter.unusedVariables false
namespace Go.Proofs.YtgjkhlnpplajjaaDoor
open Go GoV Go.RowKit
theorem mulW_word (x c : Nat) : IntKind.u64.wrap ((x : Int) * (c : Int)) = (mulW x c : Nat) := by
  unfold mulW
  rw [← Int.natCast_mul]
  generalize x * c = y
  show (y : Int) % 18446744073709551616 = ((y % 18446744073709551616 : Nat) : Int)
  omega
theorem rmix_p (x : Nat) (hx : x < W) : Pur M 51 [.int .u64 x] (.int .u64 (mixN x : Nat)) := by
  refine ok51 rfl ?_
  rw [i51]
  unfold c51
  have m1 := mulW_word x 6364136223846793005
  have hy := mulW_lt x 6364136223846793005
  unfold mixN
  generalize mulW x 6364136223846793005 = y at *
  have hz := xs_lt (k := 33) hy
  have m2 := mulW_word (xs 33 y) 2685821657736338717
  have e1 := shr_word y 33 (by omega)
  have e2 := bits_xor_u64_nat y (y >>> 33) hy (Nat.lt_of_le_of_lt (shr_le y 33) hy)
  have e3 : y ^^^ y >>> 33 = xs 33 y := rfl
  rw [e3] at e2
  have hu := mulW_lt (xs 33 y) 2685821657736338717
  generalize mulW (xs 33 y) 2685821657736338717 = u at *
  have e4 := shr_word u 27 (by omega)
  have e5 := bits_xor_u64_nat u (u >>> 27) hu (Nat.lt_of_le_of_lt (shr_le u 27) hu)
  have e6 : u ^^^ u >>> 27 = xs 27 u := rfl
  rw [e6] at e5
  generalize xs 33 y = z at *
  have q1 : ((6364136223846793005 : Nat) : Int) = 6364136223846793005 := rfl
  have q2 : ((2685821657736338717 : Nat) : Int) = 2685821657736338717 := rfl
  rw [q1] at m1
  rw [q2] at m2
  generalize y >>> 33 = y' at *
  generalize u >>> 27 = u' at *
  generalize xs 27 u = r at *
  repeat' (first
    | with_reducible first | apply swp_seq | apply swp_reg | apply swp_regD | apply swp_block | apply swp_exit | apply swp_ret | apply swp_skip | apply swp_cd
    | simp only [go_sem, Nat.reduceAdd, Nat.reduceSub, Nat.reduceMul, Nat.reduceEqDiff, Nat.reduceLeDiff, Nat.reduceLT, Int.reduceEq, Int.reduceNe, Int.reduceLT, Int.reduceLE, Int.reduceAdd, Int.reduceSub, Int.reduceMul, Int.reduceNeg, Int.reduceToNat, Int.reduceTDiv, Int.reduceTMod, Int.reduceBEq, Int.reduceBNe, decide_true, decide_false, reduceCtorEq, reduceIte, P51, q51, bitsV, m1, m2, e1, e2, e4, e5]
    | with_reducible first | apply cd_dec | apply cd_eq | apply cd_ne | apply cd_split
    | ((with_reducible refine And.intro ?hw ?_); (case hw => first | omega | rfl | exact ⟨_, _, rfl⟩ | assumption | (simp only [lN1, lN2, lN3, lN4, lN5, lN6, lN7] <;> omega)))
    | with_reducible intro _)
  all_goals first
    | omega
    | (simp [D.closed, D.er]; done)
theorem hex_at (r : Nat) (h : r < 16) : List.drop r (48 :: List.take r ([49, 50, 51, 52, 53, 54, 55, 56, 57, 97, 98, 99, 100, 101, 102] : List UInt8)) = [hexd r] := by
  have : r = 0 ∨ r = 1 ∨ r = 2 ∨ r = 3 ∨ r = 4 ∨ r = 5 ∨ r = 6 ∨ r = 7 ∨ r = 8 ∨ r = 9 ∨ r = 10 ∨ r = 11 ∨ r = 12 ∨ r = 13 ∨ r = 14 ∨ r = 15 := by omega
  rcases this with h | h | h | h | h | h | h | h | h | h | h | h | h | h | h | h <;> subst h <;> rfl
theorem hex16_step {R i : Nat} (h : i < 16) : (hex16 R).drop (16 - (i + 1)) = hexd (R / 16 ^ i % 16) :: (hex16 R).drop (16 - i) := by
  have hl : (hex16 R).length = 16 := hex16_len R
  rw [List.drop_eq_getElem_cons (by omega)]
  congr 1
  · simp only [hex16, List.getElem_map, List.getElem_range]
    rw [show 15 - (16 - (i + 1)) = i by omega]
  · rw [show 16 - (i + 1) + 1 = 16 - i by omega]
theorem pad_get {t : List UInt8} {k j : Nat} (hj : j < 8) : (pad ((t.drop (8 * k)).take 8)).getD j 0 = if 8 * k + j < t.length then t.getD (8 * k + j) 0 else 0 := by
  have hl : ((t.drop (8 * k)).take 8).length = min 8 (t.length - 8 * k) := by simp
  unfold pad
  by_cases h : 8 * k + j < t.length
  · rw [if_pos h]
    have h1 : j < ((t.drop (8 * k)).take 8).length := by omega
    simp only [List.getD]
    rw [List.getElem?_append_left h1]
    simp [hj]
  · rw [if_neg h]
    have h1 : ((t.drop (8 * k)).take 8).length ≤ j := by omega
    simp only [List.getD]
    rw [List.getElem?_append_right h1]
    have : ∀ n m : Nat, ((List.replicate n (0 : UInt8))[m]?).getD 0 = 0 := by
      intro n m
      rw [List.getElem?_replicate]
      split <;> rfl
    exact this _ _
set_option maxHeartbeats 4000000 in
theorem rsum_p (t : List UInt8) (ht : t.length < 65536) : Pur M 25 [.str t] (.str (sumN t)) := by
  refine ok25 rfl ?_
  rw [i25]
  unfold c25
  have hl := len_lt ht
  have e0 : IntKind.u64.wrap (t.length : Int) = t.length := wu64 (by omega) (by omega)
  have e1 := bits_xor_u64_nat 7046029254386353131 t.length (by decide) (by omega)
  have e2 : ((7046029254386353131 : Nat) : Int) = 7046029254386353131 := rfl
  rw [e2] at e1
  have hR : run (7046029254386353131 ^^^ t.length) t = stt t := rfl
  have hRlt := stt_lt t
  unfold sumN
  generalize stt t = R at *
  generalize hS : 7046029254386353131 ^^^ t.length = S at *
  repeat' (first
    | with_reducible first | apply swp_seq | apply swp_reg | apply swp_regD | apply swp_block | apply swp_exit | apply swp_ret | apply swp_skip | apply swp_cd
    | simp only [go_sem, Nat.reduceAdd, Nat.reduceSub, Nat.reduceMul, Nat.reduceEqDiff, Nat.reduceLeDiff, Nat.reduceLT, Int.reduceEq, Int.reduceNe, Int.reduceLT, Int.reduceLE, Int.reduceAdd, Int.reduceSub, Int.reduceMul, Int.reduceNeg, Int.reduceToNat, Int.reduceTDiv, Int.reduceTMod, Int.reduceBEq, Int.reduceBNe, decide_true, decide_false, reduceCtorEq, reduceIte, P25, q25, bitsV, e0, e1]
    | simp (disch := omega) only [w64, w32, wu8, wu16, wu32, wu64]
    | with_reducible first | apply cd_dec | apply cd_eq | apply cd_ne | apply cd_split
    | ((with_reducible refine And.intro ?hw ?_); (case hw => first | omega | rfl | exact ⟨_, _, rfl⟩ | assumption | (simp only [lN1, lN2, lN3, lN4, lN5, lN6, lN7] <;> omega)))
    | with_reducible intro _)
  all_goals try omega
  refine swp_fam [0, 1, 2, 3] (fun p : Nat × Nat => ⟨[.str t, .str [], .int .u64 p.1, .int .i64 (8 * p.2 : Nat), .undef, .undef, .undef, .undef, .undef, .undef, .undef, .undef], [], ⟨[], []⟩⟩)
    (fun p => p.1 < W ∧ 8 * p.2 ≤ t.length + 8 ∧ (8 * p.2 ≤ t.length → run p.1 (t.drop (8 * p.2)) = R) ∧ (t.length < 8 * p.2 → p.1 = R)) (fun p => t.length + 8 - 8 * p.2) (S, 0) ⟨hl, by omega, fun _ => by simpa using hR, fun h => by simp at h⟩ ?_ ?_
  · simp [keepE, St.keep]
  · rintro ⟨s, k⟩ ⟨g1, g2, g3, g4⟩
    simp only at g1 g2 g3 g4 ⊢
    by_cases hk : 8 * k ≤ t.length
    · have g5 := g3 hk
      have hpl : ((t.drop (8 * k)).take 8).length ≤ 8 := by simp; omega
      have hpd := pad_len hpl
      have hpg : ∀ j, j < 8 → _ := fun j hj => pad_get (t := t) (k := k) (j := j) hj
      have hblk := blk_lt hpl
      have hvp := val_pad ((t.drop (8 * k)).take 8)
      have hnext : run s (t.drop (8 * k)) = R → (8 * (k + 1) ≤ t.length → run (mixN (s ^^^ blk ((t.drop (8 * k)).take 8))) (t.drop (8 * (k + 1))) = R) ∧ (t.length < 8 * (k + 1) → mixN (s ^^^ blk ((t.drop (8 * k)).take 8)) = R) := by
        intro e
        constructor
        · intro h
          rw [run_long (by rw [List.length_drop]; omega), List.drop_drop] at e
          exact e
        · intro h
          have h8 : (t.drop (8 * k)).length < 8 := by rw [List.length_drop]; omega
          rw [run_short h8] at e
          rw [List.take_of_length_le (by omega)]
          exact e
      obtain ⟨n1, n2⟩ := hnext g5
      generalize (t.drop (8 * k)).take 8 = p at *
      have hm := rmix_p (s ^^^ blk p) (xor_lt g1 hblk)
      have eb := bits_xor_u64_nat s (blk p) g1 hblk
      have hmlt := mixN_lt (s ^^^ blk p)
      repeat' (first
    | with_reducible first | apply swp_seq | apply swp_reg | apply swp_regD | apply swp_block | apply swp_exit | apply swp_ret | apply swp_skip | apply swp_cd
    | simp only [go_sem, Nat.reduceAdd, Nat.reduceSub, Nat.reduceMul, Nat.reduceEqDiff, Nat.reduceLeDiff, Nat.reduceLT, Int.reduceEq, Int.reduceNe, Int.reduceLT, Int.reduceLE, Int.reduceAdd, Int.reduceSub, Int.reduceMul, Int.reduceNeg, Int.reduceToNat, Int.reduceTDiv, Int.reduceTMod, Int.reduceBEq, Int.reduceBNe, decide_true, decide_false, reduceCtorEq, reduceIte, P25, q25]
    | simp (disch := omega) only [w64, w32, wu8, wu16, wu32, wu64]
    | with_reducible first | apply cd_dec | apply cd_eq | apply cd_ne | apply cd_split
    | ((with_reducible refine And.intro ?hw ?_); (case hw => first | omega | rfl | exact ⟨_, _, rfl⟩ | assumption | (simp only [lN1, lN2, lN3, lN4, lN5, lN6, lN7] <;> omega)))
    | with_reducible intro _)
      all_goals try omega
      refine swp_fam [0, 1, 2, 3, 4, 5] (fun j : Nat => ⟨[.str t, .str [], .int .u64 s, .int .i64 (8 * k : Nat), .int .u64 (val ((pad p).take j) : Nat), .int .i64 (8 * k + j : Nat), .undef, .undef, .undef, .undef, .undef, .undef], [], ⟨[], []⟩⟩)
        (fun j => j ≤ 8) (fun j => 8 - j) 0 (by omega) ?_ ?_
      · simp [keepE, St.keep, val]
      · intro j hj
        by_cases hlt : j < 8
        · have hst : val ((pad p).take (j + 1)) = 256 * val ((pad p).take j) + ((pad p).getD j 0).toNat := by
            rw [List.take_succ_eq_append_getElem (by omega), val_app]
            congr 2
            simp [List.getD, hpd, hlt]
          have hv : val ((pad p).take j) < 72057594037927936 := by
            have h1 := val_lt ((pad p).take j)
            have h2 : ((pad p).take j).length ≤ 7 := by simp; omega
            have h3 : 256 ^ ((pad p).take j).length ≤ 256 ^ 7 := Nat.pow_le_pow_right (by omega) h2
            exact Nat.lt_of_lt_of_le h1 h3
          have hb : ((pad p).getD j 0).toNat < 256 := UInt8.toNat_lt _
          have hg := hpg j hlt
          rw [hg] at hst
          clear hpg hpd hvp hg hb hm eb hmlt n1 n2 hR hRlt g5 g3 g4 hl hS e0 e1 e2
          generalize val ((pad p).take j) = v at *
          have e1 : IntKind.u64.wrap ((v : Int) * 256) = ((256 * v : Nat) : Int) := by rw [wu64 (by omega) (by omega)]; omega
          have e3 : ((8 * k + j : Nat) : Int) < ((8 * k : Nat) : Int) + 8 := by omega
          by_cases hin : 8 * k + j < t.length
          · rw [if_pos hin] at hst
            have hb : (t.getD (8 * k + j) 0).toNat < 256 := UInt8.toNat_lt _
            have ht1 : ((8 * k + j : Nat) : Int).toNat = 8 * k + j := Int.toNat_natCast _
            generalize ht2 : t.getD (8 * k + j) 0 = b at *
            repeat' (first
    | with_reducible first | apply swp_seq | apply swp_reg | apply swp_regD | apply swp_block | apply swp_exit | apply swp_ret | apply swp_skip | apply swp_cd
    | simp only [go_sem, Nat.reduceAdd, Nat.reduceSub, Nat.reduceMul, Nat.reduceEqDiff, Nat.reduceLeDiff, Nat.reduceLT, Int.reduceEq, Int.reduceNe, Int.reduceLT, Int.reduceLE, Int.reduceAdd, Int.reduceSub, Int.reduceMul, Int.reduceNeg, Int.reduceToNat, Int.reduceTDiv, Int.reduceTMod, Int.reduceBEq, Int.reduceBNe, decide_true, decide_false, reduceCtorEq, reduceIte, P25, q25, e1, ht1, ht2]
    | simp (disch := omega) only [w64, w32, wu8, wu16, wu32, wu64]
    | with_reducible first | apply cd_dec | apply cd_eq | apply cd_ne | apply cd_split
    | ((with_reducible refine And.intro ?hw ?_); (case hw => first | omega | rfl | exact ⟨_, _, rfl⟩ | assumption | (simp only [lN1, lN2, lN3, lN4, lN5, lN6, lN7] <;> omega)))
    | with_reducible intro _)
            all_goals try omega
            refine ⟨j + 1, by omega, by omega, ?_⟩
            rw [hst]
            simp [keepE, St.keep]
            omega
          · rw [if_neg hin] at hst
            have hz : (0 : UInt8).toNat = 0 := rfl
            repeat' (first
    | with_reducible first | apply swp_seq | apply swp_reg | apply swp_regD | apply swp_block | apply swp_exit | apply swp_ret | apply swp_skip | apply swp_cd
    | simp only [go_sem, Nat.reduceAdd, Nat.reduceSub, Nat.reduceMul, Nat.reduceEqDiff, Nat.reduceLeDiff, Nat.reduceLT, Int.reduceEq, Int.reduceNe, Int.reduceLT, Int.reduceLE, Int.reduceAdd, Int.reduceSub, Int.reduceMul, Int.reduceNeg, Int.reduceToNat, Int.reduceTDiv, Int.reduceTMod, Int.reduceBEq, Int.reduceBNe, decide_true, decide_false, reduceCtorEq, reduceIte, P25, q25, e1]
    | simp (disch := omega) only [w64, w32, wu8, wu16, wu32, wu64]
    | with_reducible first | apply cd_dec | apply cd_eq | apply cd_ne | apply cd_split
    | ((with_reducible refine And.intro ?hw ?_); (case hw => first | omega | rfl | exact ⟨_, _, rfl⟩ | assumption | (simp only [lN1, lN2, lN3, lN4, lN5, lN6, lN7] <;> omega)))
    | with_reducible intro _)
            all_goals try omega
            refine ⟨j + 1, by omega, by omega, ?_⟩
            rw [hst, hz]
            simp [keepE, St.keep]
            omega
        · have e : j = 8 := by omega
          subst e
          have ht8 : (pad p).take 8 = pad p := List.take_of_length_le (by omega)
          rw [ht8, hvp]
          generalize blk p = q at *
          repeat' (first
    | with_reducible first | apply swp_seq | apply swp_reg | apply swp_regD | apply swp_block | apply swp_exit | apply swp_ret | apply swp_skip | apply swp_cd
    | simp only [go_sem, Nat.reduceAdd, Nat.reduceSub, Nat.reduceMul, Nat.reduceEqDiff, Nat.reduceLeDiff, Nat.reduceLT, Int.reduceEq, Int.reduceNe, Int.reduceLT, Int.reduceLE, Int.reduceAdd, Int.reduceSub, Int.reduceMul, Int.reduceNeg, Int.reduceToNat, Int.reduceTDiv, Int.reduceTMod, Int.reduceBEq, Int.reduceBNe, decide_true, decide_false, reduceCtorEq, reduceIte, P25, q25, bitsV, eb]
    | simp (disch := omega) only [w64, w32, wu8, wu16, wu32, wu64]
    | ((with_reducible refine o_call (hm) ?he ?hc ?_); (case he | hc => first | rfl | (simp [D.erL, D.er, D.closedL, D.closed]; done)))
    | with_reducible first | apply cd_dec | apply cd_eq | apply cd_ne | apply cd_split
    | ((with_reducible refine And.intro ?hw ?_); (case hw => first | omega | rfl | exact ⟨_, _, rfl⟩ | assumption | (simp only [lN1, lN2, lN3, lN4, lN5, lN6, lN7] <;> omega)))
    | with_reducible intro _)
          all_goals try omega
          refine ⟨(mixN (s ^^^ q), k + 1), ⟨mixN_lt _, by simp only; omega, n1, n2⟩, by simp only; omega, ?_⟩
          simp [keepE, St.keep]
          omega
    · have g5 := g4 (by omega)
      subst g5
      repeat' (first
    | with_reducible first | apply swp_seq | apply swp_reg | apply swp_regD | apply swp_block | apply swp_exit | apply swp_ret | apply swp_skip | apply swp_cd
    | simp only [go_sem, Nat.reduceAdd, Nat.reduceSub, Nat.reduceMul, Nat.reduceEqDiff, Nat.reduceLeDiff, Nat.reduceLT, Int.reduceEq, Int.reduceNe, Int.reduceLT, Int.reduceLE, Int.reduceAdd, Int.reduceSub, Int.reduceMul, Int.reduceNeg, Int.reduceToNat, Int.reduceTDiv, Int.reduceTMod, Int.reduceBEq, Int.reduceBNe, decide_true, decide_false, reduceCtorEq, reduceIte, P25, q25]
    | simp (disch := omega) only [w64, w32, wu8, wu16, wu32, wu64]
    | with_reducible first | apply cd_dec | apply cd_eq | apply cd_ne | apply cd_split
    | ((with_reducible refine And.intro ?hw ?_); (case hw => first | omega | rfl | exact ⟨_, _, rfl⟩ | assumption | (simp only [lN1, lN2, lN3, lN4, lN5, lN6, lN7] <;> omega)))
    | with_reducible intro _)
      all_goals try omega
      refine swp_fam [0, 1, 2, 6, 7] (fun i : Nat => ⟨[.str t, .str [], .int .u64 (s / 16 ^ i : Nat), .undef, .undef, .undef, .str ((hex16 s).drop (16 - i)), .int .i64 i, .undef, .undef, .undef, .undef], [], ⟨[], []⟩⟩)
        (fun i => i ≤ 16) (fun i => 16 - i) 0 (by omega) ?_ ?_
      · simp [keepE, St.keep]
        rw [hex16_len]; omega
      · intro i hi
        by_cases hlt : i < 16
        · have hst := hex16_step (R := s) hlt
          have hq : s / 16 ^ (i + 1) = s / 16 ^ i / 16 := by rw [Nat.pow_succ, Nat.div_div_eq_div_mul]
          have hql : s / 16 ^ i ≤ s := Nat.div_le_self _ _
          have hdl : ((hex16 s).drop (16 - i)).length ≤ 16 := by rw [List.length_drop, hex16_len]; omega
          have hlt2 : s < 18446744073709551616 := hRlt
          generalize s / 16 ^ i = m at *
          have t1 : (m : Int).tmod 16 = ((m % 16 : Nat) : Int) := by rw [Int.tmod_eq_emod_of_nonneg (by omega)]; omega
          have t2 : (m : Int).tdiv 16 = ((m / 16 : Nat) : Int) := by rw [Int.tdiv_eq_ediv_of_nonneg (by omega)]; omega
          have t3 : ((m % 16 : Nat) : Int).toNat = m % 16 := by omega
          have t4 : (((m % 16 : Nat) : Int) + 1).toNat = m % 16 + 1 := by omega
          have t5 := hex_at (m % 16) (by omega)
          have hb : m % 16 < 16 := by omega
          have t6 : ([hexd (m % 16)] : List UInt8).length = 1 := rfl
          repeat' (first
    | with_reducible first | apply swp_seq | apply swp_reg | apply swp_regD | apply swp_block | apply swp_exit | apply swp_ret | apply swp_skip | apply swp_cd
    | simp only [go_sem, Nat.reduceAdd, Nat.reduceSub, Nat.reduceMul, Nat.reduceEqDiff, Nat.reduceLeDiff, Nat.reduceLT, Int.reduceEq, Int.reduceNe, Int.reduceLT, Int.reduceLE, Int.reduceAdd, Int.reduceSub, Int.reduceMul, Int.reduceNeg, Int.reduceToNat, Int.reduceTDiv, Int.reduceTMod, Int.reduceBEq, Int.reduceBNe, decide_true, decide_false, reduceCtorEq, reduceIte, P25, q25, t1, t2, t3, t4, t5, t6, List.length_append]
    | simp (disch := omega) only [w64, w32, wu8, wu16, wu32, wu64]
    | with_reducible first | apply cd_dec | apply cd_eq | apply cd_ne | apply cd_split
    | ((with_reducible refine And.intro ?hw ?_); (case hw => first | omega | rfl | exact ⟨_, _, rfl⟩ | assumption | (simp only [lN1, lN2, lN3, lN4, lN5, lN6, lN7] <;> omega)))
    | with_reducible intro _)
          all_goals try omega
          refine ⟨i + 1, by omega, by omega, ?_⟩
          rw [hst, hq]
          simp [keepE, St.keep]
        · have e : i = 16 := by omega
          subst e
          repeat' (first
    | with_reducible first | apply swp_seq | apply swp_reg | apply swp_regD | apply swp_block | apply swp_exit | apply swp_ret | apply swp_skip | apply swp_cd
    | simp only [go_sem, Nat.reduceAdd, Nat.reduceSub, Nat.reduceMul, Nat.reduceEqDiff, Nat.reduceLeDiff, Nat.reduceLT, Int.reduceEq, Int.reduceNe, Int.reduceLT, Int.reduceLE, Int.reduceAdd, Int.reduceSub, Int.reduceMul, Int.reduceNeg, Int.reduceToNat, Int.reduceTDiv, Int.reduceTMod, Int.reduceBEq, Int.reduceBNe, decide_true, decide_false, reduceCtorEq, reduceIte, P25, q25]
    | simp (disch := omega) only [w64, w32, wu8, wu16, wu32, wu64]
    | with_reducible first | apply cd_dec | apply cd_eq | apply cd_ne | apply cd_split
    | ((with_reducible refine And.intro ?hw ?_); (case hw => first | omega | rfl | exact ⟨_, _, rfl⟩ | assumption | (simp only [lN1, lN2, lN3, lN4, lN5, lN6, lN7] <;> omega)))
    | with_reducible intro _)
          all_goals try omega
          all_goals (simp [D.closed, D.er]; done)
end Go.Proofs.YtgjkhlnpplajjaaDoor
end
section
set_option maxRecDepth 100000
namespace Go.Proofs.YtgjkhlnpplajjaaDoor
open Go GoV
/- 31 bogie.sign.chain · 2 arguments · kept slots [0, 1, 4, 5, 6, 7] -/
noncomputable def E31 (n m : Nat) : Cfg := ⟨M, [0, 1, 4, 5, 6, 7], 12, n, m, []⟩
noncomputable def C31 : Cfg := E31 0 0
@[reducible] noncomputable def r31_0 : List RO := [
  ⟨.var 2, .mv, [(.con (.str []))], none⟩]
@[reducible] noncomputable def r31_1 : List RO := [
  ⟨.var 3, .mv, [.var 1], none⟩,
  ⟨.var 4, .mv, [.con (.int .i64 0)], none⟩]
@[reducible] noncomputable def r31_2 : List RO := [
  ⟨.var 5, .bin .lss, [.var 4, .var 3], none⟩]
@[reducible] noncomputable def r31_3 : List RO := [
  ⟨.loc 8, .mv, [.var 0], none⟩,
  ⟨.loc 9, .call, [(.con (.fn (.func 57) [] [])), .loc 8], none⟩,
  ⟨.var 0, .mv, [.loc 9], none⟩]
@[reducible] noncomputable def r31_4 : List RO := [
  ⟨.loc 10, .bin .add, [.var 4, .con (.int .i64 1)], none⟩,
  ⟨.var 4, .mv, [.loc 10], none⟩]
@[reducible] noncomputable def r31_5 : List RO := [
  ⟨.loc 11, .mv, [.var 0], none⟩,
  ⟨.var 2, .mv, [.loc 11], none⟩]
theorem P31 : C31.M = M := by unfold C31 E31; rfl
theorem i31 {a0 a1 : D} : St.init C31 [a0, a1] ⟨[], []⟩ = ⟨[a0, a1, .undef, .undef, .undef, .undef], [], ⟨[], []⟩⟩ := by unfold C31 E31; rfl
noncomputable def c31 : RC := (.seq (.reg r31_0) (.seq (.seq (.reg r31_1) (.block 0 (.loop (.seq (.reg r31_2) (.seq (.cond (.var 5) .skip (.exit 0)) (.seq (.block 1 (.reg r31_3)) (.reg r31_4))))))) (.seq (.reg r31_5) .ret)))
noncomputable def q31 : List RR := [(.slot (.var 2))]
theorem z31 {n m : Nat} : resCode (E31 n m) (Tryd.f31.body.getD .skip) = some c31 := by kernel_rfl
theorem zr31 {n m : Nat} : resRs (E31 n m) Tryd.f31.results.toList = some q31 := by kernel_rfl
theorem ok31 {args : List D} {d : D} (hl : args.length = 2) (h : SWp C31 c31 (fun e s => (match e with | .exit _ => False | _ => True) ∧ rrsWp q31 s fun ds => D.closed (oneOrTup ds) = true ∧ (oneOrTup ds).er = d) (St.init C31 args ⟨[], []⟩)) : Pur M 31 args d :=
  pur_of_body (C := C31) (fn := Tryd.f31) Tryd.func31 (by kernel_rfl) (by kernel_rfl) (rc := c31) z31 (rs := q31) zr31 (by kernel_rfl) (by rw [hl]; rfl) (by rw [hl]; decide) rfl rfl h
/- 32 bogie.sign.start · 3 arguments · kept slots [0, 1, 2, 6] -/
noncomputable def E32 (n m : Nat) : Cfg := ⟨M, [0, 1, 2, 6], 14, n, m, []⟩
noncomputable def C32 : Cfg := E32 0 0
@[reducible] noncomputable def r32_0 : List RO := [
  ⟨.var 3, .mv, [(.con (.str []))], none⟩]
@[reducible] noncomputable def r32_1 : List RO := [
  ⟨.loc 7, .mv, [.var 0], none⟩,
  ⟨.loc 8, .mv, [.var 1], none⟩,
  ⟨.loc 9, .call, [(.con (.fn (.func 59) [] [])), .loc 8], none⟩,
  ⟨.loc 10, .mv, [.var 2], none⟩,
  ⟨.loc 11, .call, [(.con (.fn (.func 59) [] [])), .loc 10], none⟩,
  ⟨.loc 12, .bsl 1, [.loc 7, .loc 9, .loc 11], none⟩,
  ⟨.loc 13, .call, [(.con (.fn (.func 41) [] [])), .loc 12], none⟩,
  ⟨.var 3, .mv, [.loc 13], none⟩]
theorem P32 : C32.M = M := by unfold C32 E32; rfl
theorem i32 {a0 a1 a2 : D} : St.init C32 [a0, a1, a2] ⟨[], []⟩ = ⟨[a0, a1, a2, .undef], [], ⟨[], []⟩⟩ := by unfold C32 E32; rfl
noncomputable def c32 : RC := (.seq (.reg r32_0) (.seq (.reg r32_1) .ret))
noncomputable def q32 : List RR := [(.slot (.var 3))]
theorem z32 {n m : Nat} : resCode (E32 n m) (Tryd.f32.body.getD .skip) = some c32 := by kernel_rfl
theorem zr32 {n m : Nat} : resRs (E32 n m) Tryd.f32.results.toList = some q32 := by kernel_rfl
theorem ok32 {args : List D} {d : D} (hl : args.length = 3) (h : SWp C32 c32 (fun e s => (match e with | .exit _ => False | _ => True) ∧ rrsWp q32 s fun ds => D.closed (oneOrTup ds) = true ∧ (oneOrTup ds).er = d) (St.init C32 args ⟨[], []⟩)) : Pur M 32 args d :=
  pur_of_body (C := C32) (fn := Tryd.f32) Tryd.func32 (by kernel_rfl) (by kernel_rfl) (rc := c32) z32 (rs := q32) zr32 (by kernel_rfl) (by rw [hl]; rfl) (by rw [hl]; decide) rfl rfl h
/- 41 bogie.sign.of · 1 arguments · kept slots [0, 2] -/
noncomputable def E41 (n m : Nat) : Cfg := ⟨M, [0, 2], 5, n, m, []⟩
noncomputable def C41 : Cfg := E41 0 0
@[reducible] noncomputable def r41_0 : List RO := [
  ⟨.var 1, .mv, [(.con (.str []))], none⟩]
@[reducible] noncomputable def r41_1 : List RO := [
  ⟨.loc 3, .mv, [.var 0], none⟩,
  ⟨.loc 4, .call, [(.con (.fn (.func 62) [] [])), .loc 3], none⟩,
  ⟨.var 1, .mv, [.loc 4], none⟩]
theorem P41 : C41.M = M := by unfold C41 E41; rfl
theorem i41 {a0 : D} : St.init C41 [a0] ⟨[], []⟩ = ⟨[a0, .undef], [], ⟨[], []⟩⟩ := by unfold C41 E41; rfl
noncomputable def c41 : RC := (.seq (.reg r41_0) (.seq (.reg r41_1) .ret))
noncomputable def q41 : List RR := [(.slot (.var 1))]
theorem z41 {n m : Nat} : resCode (E41 n m) (Tryd.f41.body.getD .skip) = some c41 := by kernel_rfl
theorem zr41 {n m : Nat} : resRs (E41 n m) Tryd.f41.results.toList = some q41 := by kernel_rfl
theorem ok41 {args : List D} {d : D} (hl : args.length = 1) (h : SWp C41 c41 (fun e s => (match e with | .exit _ => False | _ => True) ∧ rrsWp q41 s fun ds => D.closed (oneOrTup ds) = true ∧ (oneOrTup ds).er = d) (St.init C41 args ⟨[], []⟩)) : Pur M 41 args d :=
  pur_of_body (C := C41) (fn := Tryd.f41) Tryd.func41 (by kernel_rfl) (by kernel_rfl) (rc := c41) z41 (rs := q41) zr41 (by kernel_rfl) (by rw [hl]; rfl) (by rw [hl]; decide) rfl rfl h
/- 42 bogie.sign.node · 3 arguments · kept slots [0, 1, 2, 6, 7] -/
noncomputable def E42 (n m : Nat) : Cfg := ⟨M, [0, 1, 2, 6, 7], 14, n, m, []⟩
noncomputable def C42 : Cfg := E42 0 0
@[reducible] noncomputable def r42_0 : List RO := [
  ⟨.var 3, .mv, [(.con (.str []))], none⟩]
@[reducible] noncomputable def r42_1 : List RO := [
  ⟨.var 4, .mv, [.var 2], none⟩]
@[reducible] noncomputable def r42_2 : List RO := [
  ⟨.loc 8, .mv, [.var 1], none⟩,
  ⟨.loc 9, .mv, [.var 0], none⟩,
  ⟨.var 0, .mv, [.loc 8], none⟩,
  ⟨.var 1, .mv, [.loc 9], none⟩]
@[reducible] noncomputable def r42_3 : List RO := [
  ⟨.loc 10, .mv, [.var 0], none⟩,
  ⟨.loc 11, .mv, [.var 1], none⟩,
  ⟨.loc 12, .bsl 1, [(.con (.str [110, 111, 100, 101])), .loc 10, .loc 11], none⟩,
  ⟨.loc 13, .call, [(.con (.fn (.func 41) [] [])), .loc 12], none⟩,
  ⟨.var 3, .mv, [.loc 13], none⟩]
theorem P42 : C42.M = M := by unfold C42 E42; rfl
theorem i42 {a0 a1 a2 : D} : St.init C42 [a0, a1, a2] ⟨[], []⟩ = ⟨[a0, a1, a2, .undef, .undef], [], ⟨[], []⟩⟩ := by unfold C42 E42; rfl
noncomputable def c42 : RC := (.seq (.reg r42_0) (.seq (.seq (.reg r42_1) (.cond (.var 4) (.reg r42_2) .skip)) (.seq (.reg r42_3) .ret)))
noncomputable def q42 : List RR := [(.slot (.var 3))]
theorem z42 {n m : Nat} : resCode (E42 n m) (Tryd.f42.body.getD .skip) = some c42 := by kernel_rfl
theorem zr42 {n m : Nat} : resRs (E42 n m) Tryd.f42.results.toList = some q42 := by kernel_rfl
theorem ok42 {args : List D} {d : D} (hl : args.length = 3) (h : SWp C42 c42 (fun e s => (match e with | .exit _ => False | _ => True) ∧ rrsWp q42 s fun ds => D.closed (oneOrTup ds) = true ∧ (oneOrTup ds).er = d) (St.init C42 args ⟨[], []⟩)) : Pur M 42 args d :=
  pur_of_body (C := C42) (fn := Tryd.f42) Tryd.func42 (by kernel_rfl) (by kernel_rfl) (rc := c42) z42 (rs := q42) zr42 (by kernel_rfl) (by rw [hl]; rfl) (by rw [hl]; decide) rfl rfl h
/- 52 bogie.sign.key · 2 arguments · kept slots [0, 1, 4, 5, 6, 7, 8] -/
noncomputable def E52 (n m : Nat) : Cfg := ⟨M, [0, 1, 4, 5, 6, 7, 8], 21, n, m, []⟩
noncomputable def C52 : Cfg := E52 0 0
@[reducible] noncomputable def r52_0 : List RO := [
  ⟨.var 2, .mv, [(.con (.str []))], none⟩]
@[reducible] noncomputable def r52_1 : List RO := [
  ⟨.var 3, .mv, [(.con (.lit (.slice none 0 0)))], none⟩]
@[reducible] noncomputable def r52_2 : List RO := [
  ⟨.var 5, .mv, [.con (.int .i64 0)], none⟩]
@[reducible] noncomputable def r52_3 : List RO := [
  ⟨.var 6, .bin .lss, [.var 5, .con (.int .i64 18)], none⟩]
@[reducible] noncomputable def r52_4 : List RO := [
  ⟨.loc 9, .mv, [.var 5], none⟩,
  ⟨.var 4, .mv, [.loc 9], none⟩]
@[reducible] noncomputable def r52_5 : List RO := [
  ⟨.loc 10, .mv, [.var 3], none⟩,
  ⟨.loc 11, .mv, [.var 0], none⟩,
  ⟨.loc 12, .mv, [.var 1], none⟩,
  ⟨.loc 13, .mv, [.var 4], none⟩,
  ⟨.loc 14, .call, [(.con (.fn (.func 32) [] [])), .loc 11, .loc 12, .loc 13], none⟩,
  ⟨.loc 15, .call, [(.con (.fn (.func 31) [] [])), .loc 14, .con (.int .i64 15)], none⟩,
  ⟨.loc 16, .bsl 1, [.loc 15], none⟩,
  ⟨.loc 17, .app 1 16 9, [.loc 10, .loc 16], none⟩,
  ⟨.var 3, .mv, [.loc 17], none⟩]
@[reducible] noncomputable def r52_6 : List RO := [
  ⟨.loc 18, .bin .add, [.var 5, .con (.int .i64 1)], none⟩,
  ⟨.var 5, .mv, [.loc 18], none⟩]
@[reducible] noncomputable def r52_7 : List RO := [
  ⟨.loc 19, .mv, [.var 3], none⟩,
  ⟨.loc 20, .call, [(.con (.fn (.func 41) [] [])), .loc 19], none⟩,
  ⟨.var 2, .mv, [.loc 20], none⟩]
theorem P52 : C52.M = M := by unfold C52 E52; rfl
theorem i52 {a0 a1 : D} : St.init C52 [a0, a1] ⟨[], []⟩ = ⟨[a0, a1, .undef, .undef, .undef, .undef, .undef], [], ⟨[], []⟩⟩ := by unfold C52 E52; rfl
noncomputable def c52 : RC := (.seq (.reg r52_0) (.seq (.reg r52_1) (.seq (.seq (.reg r52_2) (.block 0 (.loop (.seq (.reg r52_3) (.seq (.cond (.var 6) .skip (.exit 0)) (.seq (.block 1 (.seq (.reg r52_4) (.reg r52_5))) (.reg r52_6))))))) (.seq (.reg r52_7) .ret))))
noncomputable def q52 : List RR := [(.slot (.var 2))]
theorem z52 {n m : Nat} : resCode (E52 n m) (Tryd.f52.body.getD .skip) = some c52 := by kernel_rfl
theorem zr52 {n m : Nat} : resRs (E52 n m) Tryd.f52.results.toList = some q52 := by kernel_rfl
theorem ok52 {args : List D} {d : D} (hl : args.length = 2) (h : SWp C52 c52 (fun e s => (match e with | .exit _ => False | _ => True) ∧ rrsWp q52 s fun ds => D.closed (oneOrTup ds) = true ∧ (oneOrTup ds).er = d) (St.init C52 args ⟨[], []⟩)) : Pur M 52 args d :=
  pur_of_body (C := C52) (fn := Tryd.f52) Tryd.func52 (by kernel_rfl) (by kernel_rfl) (rc := c52) z52 (rs := q52) zr52 (by kernel_rfl) (by rw [hl]; rfl) (by rw [hl]; decide) rfl rfl h
/- 26 bogie.sign.keys · 2 arguments · kept slots [0, 1, 4, 5, 6, 11, 12, 13] -/
noncomputable def E26 (n m : Nat) : Cfg := ⟨M, [0, 1, 4, 5, 6, 11, 12, 13], 23, n, m, []⟩
noncomputable def C26 : Cfg := E26 0 0
@[reducible] noncomputable def r26_0 : List RO := [
  ⟨.var 2, .mv, [(.con (.lit (.slice none 0 0)))], none⟩]
@[reducible] noncomputable def r26_1 : List RO := [
  ⟨.loc 7, .mv, [.var 1], none⟩,
  ⟨.loc 8, .bin .shl, [.con (.int .i64 1), .loc 7], none⟩,
  ⟨.loc 9, (.mks 1 16 [(.str [])]), [.loc 8, .loc 8], none⟩,
  ⟨.var 3, .mv, [.loc 9], none⟩]
@[reducible] noncomputable def r26_2 : List RO := [
  ⟨.loc 10, .mv, [.var 3], none⟩,
  ⟨.var 5, .lenL, [.loc 10], none⟩,
  ⟨.var 6, .mv, [.con (.int .i64 0)], none⟩]
@[reducible] noncomputable def r26_3 : List RO := [
  ⟨.var 7, .bin .lss, [.var 6, .var 5], none⟩]
@[reducible] noncomputable def r26_4 : List RO := [
  ⟨.loc 14, .mv, [.var 6], none⟩,
  ⟨.var 4, .mv, [.loc 14], none⟩]
@[reducible] noncomputable def r26_5 : List RO := [
  ⟨.loc 15, .mv, [.var 3], none⟩,
  ⟨.loc 16, .mv, [.var 4], none⟩,
  ⟨.loc 17, .mv, [.var 0], none⟩,
  ⟨.loc 18, .mv, [.var 4], none⟩,
  ⟨.loc 19, .call, [(.con (.fn (.func 52) [] [])), .loc 17, .loc 18], none⟩,
  ⟨.loc 20, .ixaS 1, [.loc 15, .loc 16], none⟩,
  ⟨.none, .st 1, [.loc 20, .loc 19], none⟩]
@[reducible] noncomputable def r26_6 : List RO := [
  ⟨.loc 21, .bin .add, [.var 6, .con (.int .i64 1)], none⟩,
  ⟨.var 6, .mv, [.loc 21], none⟩]
@[reducible] noncomputable def r26_7 : List RO := [
  ⟨.loc 22, .mv, [.var 3], none⟩,
  ⟨.var 2, .mv, [.loc 22], none⟩]
theorem P26 : C26.M = M := by unfold C26 E26; rfl
theorem i26 {a0 a1 : D} : St.init C26 [a0, a1] ⟨[], []⟩ = ⟨[a0, a1, .undef, .undef, .undef, .undef, .undef, .undef], [], ⟨[], []⟩⟩ := by unfold C26 E26; rfl
noncomputable def c26 : RC := (.seq (.reg r26_0) (.seq (.reg r26_1) (.seq (.seq (.reg r26_2) (.block 0 (.loop (.seq (.reg r26_3) (.seq (.cond (.var 7) .skip (.exit 0)) (.seq (.block 1 (.seq (.reg r26_4) (.reg r26_5))) (.reg r26_6))))))) (.seq (.reg r26_7) .ret))))
noncomputable def q26 : List RR := [(.slot (.var 2))]
theorem z26 {n m : Nat} : resCode (E26 n m) (Tryd.f26.body.getD .skip) = some c26 := by kernel_rfl
theorem zr26 {n m : Nat} : resRs (E26 n m) Tryd.f26.results.toList = some q26 := by kernel_rfl
theorem ow26 {args : List D} {d : D} (hl : args.length = 2) (h : SWp C26 c26 (fun e s => (match e with | .exit _ => False | _ => True) ∧ ∃ s1, Weak C26 s s1 ∧ rrsWp q26 s1 fun ds => D.closed (oneOrTup ds) = true ∧ (oneOrTup ds).er = d) (St.init C26 args ⟨[], []⟩)) : Pur M 26 args d :=
  pur_of_bodyW (C := C26) (fn := Tryd.f26) Tryd.func26 (by kernel_rfl) (by kernel_rfl) (rc := c26) z26 (rs := q26) zr26 (by kernel_rfl) (by rw [hl]; rfl) (by rw [hl]; decide) rfl rfl h
/- 35 bogie.bogieref02.chain · 2 arguments · kept slots [0, 1, 4, 5, 8] -/
noncomputable def E35 (n m : Nat) : Cfg := ⟨M, [0, 1, 4, 5, 8], 14, n, m, []⟩
noncomputable def C35 : Cfg := E35 0 0
@[reducible] noncomputable def r35_0 : List RO := [
  ⟨.var 2, .mv, [(.con (.str []))], none⟩]
@[reducible] noncomputable def r35_1 : List RO := [
  ⟨.var 3, .mv, [.con (.int .i64 0)], none⟩]
@[reducible] noncomputable def r35_2 : List RO := [
  ⟨.loc 6, .mv, [.var 3], none⟩,
  ⟨.loc 7, .mv, [.var 1], none⟩,
  ⟨.var 4, .bin .lss, [.loc 6, .loc 7], none⟩]
@[reducible] noncomputable def r35_3 : List RO := [
  ⟨.loc 11, .mv, [.var 0], none⟩,
  ⟨.loc 12, .call, [(.con (.fn (.func 25) [] [])), .loc 11], none⟩,
  ⟨.var 0, .mv, [.loc 12], none⟩]
@[reducible] noncomputable def r35_4 : List RO := [
  ⟨.loc 9, .mv, [.var 3], none⟩,
  ⟨.loc 10, .bin .add, [.loc 9, .con (.int .i64 1)], none⟩,
  ⟨.var 3, .mv, [.loc 10], none⟩]
@[reducible] noncomputable def r35_5 : List RO := [
  ⟨.loc 13, .mv, [.var 0], none⟩,
  ⟨.var 2, .mv, [.loc 13], none⟩]
theorem P35 : C35.M = M := by unfold C35 E35; rfl
theorem i35 {a0 a1 : D} : St.init C35 [a0, a1] ⟨[], []⟩ = ⟨[a0, a1, .undef, .undef, .undef], [], ⟨[], []⟩⟩ := by unfold C35 E35; rfl
noncomputable def c35 : RC := (.seq (.reg r35_0) (.seq (.seq (.reg r35_1) (.block 0 (.loop (.seq (.seq (.reg r35_2) (.cond (.var 4) .skip (.exit 0))) (.seq (.block 1 (.reg r35_3)) (.reg r35_4)))))) (.seq (.reg r35_5) .ret)))
noncomputable def q35 : List RR := [(.slot (.var 2))]
theorem z35 {n m : Nat} : resCode (E35 n m) (Tryd.f35.body.getD .skip) = some c35 := by kernel_rfl
theorem zr35 {n m : Nat} : resRs (E35 n m) Tryd.f35.results.toList = some q35 := by kernel_rfl
theorem ok35 {args : List D} {d : D} (hl : args.length = 2) (h : SWp C35 c35 (fun e s => (match e with | .exit _ => False | _ => True) ∧ rrsWp q35 s fun ds => D.closed (oneOrTup ds) = true ∧ (oneOrTup ds).er = d) (St.init C35 args ⟨[], []⟩)) : Pur M 35 args d :=
  pur_of_body (C := C35) (fn := Tryd.f35) Tryd.func35 (by kernel_rfl) (by kernel_rfl) (rc := c35) z35 (rs := q35) zr35 (by kernel_rfl) (by rw [hl]; rfl) (by rw [hl]; decide) rfl rfl h
/- 36 bogie.bogieref02.Start · 3 arguments · kept slots [0, 1, 2, 6] -/
noncomputable def E36 (n m : Nat) : Cfg := ⟨M, [0, 1, 2, 6], 14, n, m, []⟩
noncomputable def C36 : Cfg := E36 0 0
@[reducible] noncomputable def r36_0 : List RO := [
  ⟨.var 3, .mv, [(.con (.str []))], none⟩]
@[reducible] noncomputable def r36_1 : List RO := [
  ⟨.loc 7, .mv, [.var 0], none⟩,
  ⟨.loc 8, .mv, [.var 1], none⟩,
  ⟨.loc 9, .call, [(.con (.fn (.func 48) [] [])), .loc 8], none⟩,
  ⟨.loc 10, .mv, [.var 2], none⟩,
  ⟨.loc 11, .call, [(.con (.fn (.func 48) [] [])), .loc 10], none⟩,
  ⟨.loc 12, .bsl 1, [.loc 7, .loc 9, .loc 11], none⟩,
  ⟨.loc 13, .call, [(.con (.fn (.func 44) [] [])), .loc 12], none⟩,
  ⟨.var 3, .mv, [.loc 13], none⟩]
theorem P36 : C36.M = M := by unfold C36 E36; rfl
theorem i36 {a0 a1 a2 : D} : St.init C36 [a0, a1, a2] ⟨[], []⟩ = ⟨[a0, a1, a2, .undef], [], ⟨[], []⟩⟩ := by unfold C36 E36; rfl
noncomputable def c36 : RC := (.seq (.reg r36_0) (.seq (.reg r36_1) .ret))
noncomputable def q36 : List RR := [(.slot (.var 3))]
theorem z36 {n m : Nat} : resCode (E36 n m) (Tryd.f36.body.getD .skip) = some c36 := by kernel_rfl
theorem zr36 {n m : Nat} : resRs (E36 n m) Tryd.f36.results.toList = some q36 := by kernel_rfl
theorem ok36 {args : List D} {d : D} (hl : args.length = 3) (h : SWp C36 c36 (fun e s => (match e with | .exit _ => False | _ => True) ∧ rrsWp q36 s fun ds => D.closed (oneOrTup ds) = true ∧ (oneOrTup ds).er = d) (St.init C36 args ⟨[], []⟩)) : Pur M 36 args d :=
  pur_of_body (C := C36) (fn := Tryd.f36) Tryd.func36 (by kernel_rfl) (by kernel_rfl) (rc := c36) z36 (rs := q36) zr36 (by kernel_rfl) (by rw [hl]; rfl) (by rw [hl]; decide) rfl rfl h
/- 33 bogie.bogieref02.Power · 1 arguments · kept slots [0, 2, 3, 4, 7] -/
noncomputable def E33 (n m : Nat) : Cfg := ⟨M, [0, 2, 3, 4, 7], 13, n, m, []⟩
noncomputable def C33 : Cfg := E33 0 0
@[reducible] noncomputable def r33_0 : List RO := [
  ⟨.var 1, .mv, [.con (.int .i64 0)], none⟩]
@[reducible] noncomputable def r33_1 : List RO := [
  ⟨.var 2, .mv, [.con (.int .i64 1)], none⟩]
@[reducible] noncomputable def r33_2 : List RO := [
  ⟨.var 3, .mv, [.con (.int .i64 0)], none⟩]
@[reducible] noncomputable def r33_3 : List RO := [
  ⟨.loc 5, .mv, [.var 3], none⟩,
  ⟨.loc 6, .mv, [.var 0], none⟩,
  ⟨.var 4, .bin .lss, [.loc 5, .loc 6], none⟩]
@[reducible] noncomputable def r33_4 : List RO := [
  ⟨.loc 10, .mv, [.var 2], none⟩,
  ⟨.loc 11, .bin .mul, [.con (.int .i64 2), .loc 10], none⟩,
  ⟨.var 2, .mv, [.loc 11], none⟩]
@[reducible] noncomputable def r33_5 : List RO := [
  ⟨.loc 8, .mv, [.var 3], none⟩,
  ⟨.loc 9, .bin .add, [.loc 8, .con (.int .i64 1)], none⟩,
  ⟨.var 3, .mv, [.loc 9], none⟩]
@[reducible] noncomputable def r33_6 : List RO := [
  ⟨.loc 12, .mv, [.var 2], none⟩,
  ⟨.var 1, .mv, [.loc 12], none⟩]
theorem P33 : C33.M = M := by unfold C33 E33; rfl
theorem i33 {a0 : D} : St.init C33 [a0] ⟨[], []⟩ = ⟨[a0, .undef, .undef, .undef, .undef], [], ⟨[], []⟩⟩ := by unfold C33 E33; rfl
noncomputable def c33 : RC := (.seq (.reg r33_0) (.seq (.reg r33_1) (.seq (.seq (.reg r33_2) (.block 0 (.loop (.seq (.seq (.reg r33_3) (.cond (.var 4) .skip (.exit 0))) (.seq (.block 1 (.reg r33_4)) (.reg r33_5)))))) (.seq (.reg r33_6) .ret))))
noncomputable def q33 : List RR := [(.slot (.var 1))]
theorem z33 {n m : Nat} : resCode (E33 n m) (Tryd.f33.body.getD .skip) = some c33 := by kernel_rfl
theorem zr33 {n m : Nat} : resRs (E33 n m) Tryd.f33.results.toList = some q33 := by kernel_rfl
theorem ok33 {args : List D} {d : D} (hl : args.length = 1) (h : SWp C33 c33 (fun e s => (match e with | .exit _ => False | _ => True) ∧ rrsWp q33 s fun ds => D.closed (oneOrTup ds) = true ∧ (oneOrTup ds).er = d) (St.init C33 args ⟨[], []⟩)) : Pur M 33 args d :=
  pur_of_body (C := C33) (fn := Tryd.f33) Tryd.func33 (by kernel_rfl) (by kernel_rfl) (rc := c33) z33 (rs := q33) zr33 (by kernel_rfl) (by rw [hl]; rfl) (by rw [hl]; decide) rfl rfl h
/- 55 bogie.bogieref02.Key · 2 arguments · kept slots [0, 1, 4, 5, 6, 8] -/
noncomputable def E55 (n m : Nat) : Cfg := ⟨M, [0, 1, 4, 5, 6, 8], 21, n, m, []⟩
noncomputable def C55 : Cfg := E55 0 0
@[reducible] noncomputable def r55_0 : List RO := [
  ⟨.var 2, .mv, [(.con (.str []))], none⟩]
@[reducible] noncomputable def r55_1 : List RO := [
  ⟨.var 3, .mv, [(.con (.lit (.slice none 0 0)))], none⟩]
@[reducible] noncomputable def r55_2 : List RO := [
  ⟨.var 4, .mv, [.con (.int .i64 0)], none⟩]
@[reducible] noncomputable def r55_3 : List RO := [
  ⟨.loc 7, .mv, [.var 4], none⟩,
  ⟨.var 5, .bin .lss, [.loc 7, .con (.int .i64 18)], none⟩]
@[reducible] noncomputable def r55_4 : List RO := [
  ⟨.loc 11, .mv, [.var 3], none⟩,
  ⟨.loc 12, .mv, [.var 0], none⟩,
  ⟨.loc 13, .mv, [.var 1], none⟩,
  ⟨.loc 14, .mv, [.var 4], none⟩,
  ⟨.loc 15, .call, [(.con (.fn (.func 36) [] [])), .loc 12, .loc 13, .loc 14], none⟩,
  ⟨.loc 16, .call, [(.con (.fn (.func 35) [] [])), .loc 15, .con (.int .i64 15)], none⟩,
  ⟨.loc 17, .bsl 1, [.loc 16], none⟩,
  ⟨.loc 18, .app 1 16 9, [.loc 11, .loc 17], none⟩,
  ⟨.var 3, .mv, [.loc 18], none⟩]
@[reducible] noncomputable def r55_5 : List RO := [
  ⟨.loc 9, .mv, [.var 4], none⟩,
  ⟨.loc 10, .bin .add, [.loc 9, .con (.int .i64 1)], none⟩,
  ⟨.var 4, .mv, [.loc 10], none⟩]
@[reducible] noncomputable def r55_6 : List RO := [
  ⟨.loc 19, .mv, [.var 3], none⟩,
  ⟨.loc 20, .call, [(.con (.fn (.func 44) [] [])), .loc 19], none⟩,
  ⟨.var 2, .mv, [.loc 20], none⟩]
theorem P55 : C55.M = M := by unfold C55 E55; rfl
theorem i55 {a0 a1 : D} : St.init C55 [a0, a1] ⟨[], []⟩ = ⟨[a0, a1, .undef, .undef, .undef, .undef], [], ⟨[], []⟩⟩ := by unfold C55 E55; rfl
noncomputable def c55 : RC := (.seq (.reg r55_0) (.seq (.reg r55_1) (.seq (.seq (.reg r55_2) (.block 0 (.loop (.seq (.seq (.reg r55_3) (.cond (.var 5) .skip (.exit 0))) (.seq (.block 1 (.reg r55_4)) (.reg r55_5)))))) (.seq (.reg r55_6) .ret))))
noncomputable def q55 : List RR := [(.slot (.var 2))]
theorem z55 {n m : Nat} : resCode (E55 n m) (Tryd.f55.body.getD .skip) = some c55 := by kernel_rfl
theorem zr55 {n m : Nat} : resRs (E55 n m) Tryd.f55.results.toList = some q55 := by kernel_rfl
theorem ok55 {args : List D} {d : D} (hl : args.length = 2) (h : SWp C55 c55 (fun e s => (match e with | .exit _ => False | _ => True) ∧ rrsWp q55 s fun ds => D.closed (oneOrTup ds) = true ∧ (oneOrTup ds).er = d) (St.init C55 args ⟨[], []⟩)) : Pur M 55 args d :=
  pur_of_body (C := C55) (fn := Tryd.f55) Tryd.func55 (by kernel_rfl) (by kernel_rfl) (rc := c55) z55 (rs := q55) zr55 (by kernel_rfl) (by rw [hl]; rfl) (by rw [hl]; decide) rfl rfl h
/- 29 bogie.bogieref02.Keys · 2 arguments · kept slots [0, 1, 4, 5, 6, 10] -/
noncomputable def E29 (n m : Nat) : Cfg := ⟨M, [0, 1, 4, 5, 6, 10], 20, n, m, []⟩
noncomputable def C29 : Cfg := E29 0 0
@[reducible] noncomputable def r29_0 : List RO := [
  ⟨.var 2, .mv, [(.con (.lit (.slice none 0 0)))], none⟩]
@[reducible] noncomputable def r29_1 : List RO := [
  ⟨.var 3, .mv, [(.con (.lit (.slice none 0 0)))], none⟩]
@[reducible] noncomputable def r29_2 : List RO := [
  ⟨.var 4, .mv, [.con (.int .i64 0)], none⟩]
@[reducible] noncomputable def r29_3 : List RO := [
  ⟨.loc 7, .mv, [.var 4], none⟩,
  ⟨.loc 8, .mv, [.var 1], none⟩,
  ⟨.loc 9, .call, [(.con (.fn (.func 33) [] [])), .loc 8], none⟩,
  ⟨.var 5, .bin .lss, [.loc 7, .loc 9], none⟩]
@[reducible] noncomputable def r29_4 : List RO := [
  ⟨.loc 13, .mv, [.var 3], none⟩,
  ⟨.loc 14, .mv, [.var 0], none⟩,
  ⟨.loc 15, .mv, [.var 4], none⟩,
  ⟨.loc 16, .call, [(.con (.fn (.func 55) [] [])), .loc 14, .loc 15], none⟩,
  ⟨.loc 17, .bsl 1, [.loc 16], none⟩,
  ⟨.loc 18, .app 1 16 9, [.loc 13, .loc 17], none⟩,
  ⟨.var 3, .mv, [.loc 18], none⟩]
@[reducible] noncomputable def r29_5 : List RO := [
  ⟨.loc 11, .mv, [.var 4], none⟩,
  ⟨.loc 12, .bin .add, [.loc 11, .con (.int .i64 1)], none⟩,
  ⟨.var 4, .mv, [.loc 12], none⟩]
@[reducible] noncomputable def r29_6 : List RO := [
  ⟨.loc 19, .mv, [.var 3], none⟩,
  ⟨.var 2, .mv, [.loc 19], none⟩]
theorem P29 : C29.M = M := by unfold C29 E29; rfl
theorem i29 {a0 a1 : D} : St.init C29 [a0, a1] ⟨[], []⟩ = ⟨[a0, a1, .undef, .undef, .undef, .undef], [], ⟨[], []⟩⟩ := by unfold C29 E29; rfl
noncomputable def c29 : RC := (.seq (.reg r29_0) (.seq (.reg r29_1) (.seq (.seq (.reg r29_2) (.block 0 (.loop (.seq (.seq (.reg r29_3) (.cond (.var 5) .skip (.exit 0))) (.seq (.block 1 (.reg r29_4)) (.reg r29_5)))))) (.seq (.reg r29_6) .ret))))
noncomputable def q29 : List RR := [(.slot (.var 2))]
theorem z29 {n m : Nat} : resCode (E29 n m) (Tryd.f29.body.getD .skip) = some c29 := by kernel_rfl
theorem zr29 {n m : Nat} : resRs (E29 n m) Tryd.f29.results.toList = some q29 := by kernel_rfl
theorem ok29 {args : List D} {d : D} (hl : args.length = 2) (h : SWp C29 c29 (fun e s => (match e with | .exit _ => False | _ => True) ∧ rrsWp q29 s fun ds => D.closed (oneOrTup ds) = true ∧ (oneOrTup ds).er = d) (St.init C29 args ⟨[], []⟩)) : Pur M 29 args d :=
  pur_of_body (C := C29) (fn := Tryd.f29) Tryd.func29 (by kernel_rfl) (by kernel_rfl) (rc := c29) z29 (rs := q29) zr29 (by kernel_rfl) (by rw [hl]; rfl) (by rw [hl]; decide) rfl rfl h
/- 54 bogie.bogieref02.up · 1 arguments · kept slots [0, 2, 3, 4, 9] -/
noncomputable def E54 (n m : Nat) : Cfg := ⟨M, [0, 2, 3, 4, 9], 27, n, m, []⟩
noncomputable def C54 : Cfg := E54 0 0
@[reducible] noncomputable def r54_0 : List RO := [
  ⟨.var 1, .mv, [(.con (.lit (.slice none 0 0)))], none⟩]
@[reducible] noncomputable def r54_1 : List RO := [
  ⟨.var 2, .mv, [(.con (.lit (.slice none 0 0)))], none⟩]
@[reducible] noncomputable def r54_2 : List RO := [
  ⟨.var 3, .mv, [.con (.int .i64 0)], none⟩]
@[reducible] noncomputable def r54_3 : List RO := [
  ⟨.loc 5, .mv, [.var 3], none⟩,
  ⟨.loc 6, .bin .add, [.loc 5, .con (.int .i64 1)], none⟩,
  ⟨.loc 7, .mv, [.var 0], none⟩,
  ⟨.loc 8, .lenL, [.loc 7], none⟩,
  ⟨.var 4, .bin .lss, [.loc 6, .loc 8], none⟩]
@[reducible] noncomputable def r54_4 : List (RO × Bool) := [
  (⟨.loc 12, .mv, [.var 2], none⟩, true),
  (⟨.loc 13, .mv, [.var 0], none⟩, true),
  (⟨.loc 14, .mv, [.var 3], none⟩, true),
  (⟨.loc 15, .ixaS 1, [.loc 13, .loc 14], none⟩, true),
  (⟨.loc 16, .ld false 1, [.loc 15], none⟩, true),
  (⟨.loc 17, .mv, [.var 0], none⟩, true),
  (⟨.loc 18, .mv, [.var 3], none⟩, true),
  (⟨.loc 19, .bin .add, [.loc 18, .con (.int .i64 1)], none⟩, true),
  (⟨.loc 20, .ixaS 1, [.loc 17, .loc 19], none⟩, true),
  (⟨.loc 21, .ld false 1, [.loc 20], none⟩, true),
  (⟨.loc 22, .bsl 1, [(.con (.str [110, 111, 100, 101])), .loc 16, .loc 21], none⟩, false),
  (⟨.loc 23, .call, [(.con (.fn (.func 44) [] [])), .loc 22], none⟩, false),
  (⟨.loc 24, .bsl 1, [.loc 23], none⟩, false)]
@[reducible] noncomputable def r54_5 : List RO := [
  ⟨.loc 25, .app 1 16 9, [.loc 12, .loc 24], none⟩,
  ⟨.var 2, .mv, [.loc 25], none⟩]
@[reducible] noncomputable def r54_6 : List RO := [
  ⟨.loc 10, .mv, [.var 3], none⟩,
  ⟨.loc 11, .bin .add, [.loc 10, .con (.int .i64 2)], none⟩,
  ⟨.var 3, .mv, [.loc 11], none⟩]
@[reducible] noncomputable def r54_7 : List RO := [
  ⟨.loc 26, .mv, [.var 2], none⟩,
  ⟨.var 1, .mv, [.loc 26], none⟩]
theorem P54 : C54.M = M := by unfold C54 E54; rfl
theorem i54 {a0 : D} : St.init C54 [a0] ⟨[], []⟩ = ⟨[a0, .undef, .undef, .undef, .undef], [], ⟨[], []⟩⟩ := by unfold C54 E54; rfl
noncomputable def c54 : RC := (.seq (.reg r54_0) (.seq (.reg r54_1) (.seq (.seq (.reg r54_2) (.block 0 (.loop (.seq (.seq (.reg r54_3) (.cond (.var 4) .skip (.exit 0))) (.seq (.block 1 (.regD r54_4 r54_5)) (.reg r54_6)))))) (.seq (.reg r54_7) .ret))))
noncomputable def q54 : List RR := [(.slot (.var 1))]
theorem z54 {n m : Nat} : resCode (E54 n m) (Tryd.f54.body.getD .skip) = some c54 := by kernel_rfl
theorem zr54 {n m : Nat} : resRs (E54 n m) Tryd.f54.results.toList = some q54 := by kernel_rfl
theorem ok54 {args : List D} {d : D} (hl : args.length = 1) (h : SWp C54 c54 (fun e s => (match e with | .exit _ => False | _ => True) ∧ rrsWp q54 s fun ds => D.closed (oneOrTup ds) = true ∧ (oneOrTup ds).er = d) (St.init C54 args ⟨[], []⟩)) : Pur M 54 args d :=
  pur_of_body (C := C54) (fn := Tryd.f54) Tryd.func54 (by kernel_rfl) (by kernel_rfl) (rc := c54) z54 (rs := q54) zr54 (by kernel_rfl) (by rw [hl]; rfl) (by rw [hl]; decide) rfl rfl h
/- 28 bogie.bogieref02.Root · 1 arguments · kept slots [0, 2, 5] -/
noncomputable def E28 (n m : Nat) : Cfg := ⟨M, [0, 2, 5], 11, n, m, []⟩
noncomputable def C28 : Cfg := E28 0 0
@[reducible] noncomputable def r28_0 : List RO := [
  ⟨.var 1, .mv, [(.con (.str []))], none⟩]
@[reducible] noncomputable def r28_1 : List RO := [
  ⟨.loc 3, .mv, [.var 0], none⟩,
  ⟨.loc 4, .lenL, [.loc 3], none⟩,
  ⟨.var 2, .bin .gtr, [.loc 4, .con (.int .i64 1)], none⟩]
@[reducible] noncomputable def r28_2 : List RO := [
  ⟨.loc 6, .mv, [.var 0], none⟩,
  ⟨.loc 7, .call, [(.con (.fn (.func 54) [] [])), .loc 6], none⟩,
  ⟨.var 0, .mv, [.loc 7], none⟩]
@[reducible] noncomputable def r28_3 : List RO := [
  ⟨.loc 8, .mv, [.var 0], none⟩,
  ⟨.loc 9, .ixaS 1, [.loc 8, .con (.int .i64 0)], none⟩,
  ⟨.loc 10, .ld false 1, [.loc 9], none⟩,
  ⟨.var 1, .mv, [.loc 10], none⟩]
theorem P28 : C28.M = M := by unfold C28 E28; rfl
theorem i28 {a0 : D} : St.init C28 [a0] ⟨[], []⟩ = ⟨[a0, .undef, .undef], [], ⟨[], []⟩⟩ := by unfold C28 E28; rfl
noncomputable def c28 : RC := (.seq (.reg r28_0) (.seq (.block 0 (.loop (.seq (.seq (.reg r28_1) (.cond (.var 2) .skip (.exit 0))) (.block 1 (.reg r28_2))))) (.seq (.reg r28_3) .ret)))
noncomputable def q28 : List RR := [(.slot (.var 1))]
theorem z28 {n m : Nat} : resCode (E28 n m) (Tryd.f28.body.getD .skip) = some c28 := by kernel_rfl
theorem zr28 {n m : Nat} : resRs (E28 n m) Tryd.f28.results.toList = some q28 := by kernel_rfl
theorem ok28 {args : List D} {d : D} (hl : args.length = 1) (h : SWp C28 c28 (fun e s => (match e with | .exit _ => False | _ => True) ∧ rrsWp q28 s fun ds => D.closed (oneOrTup ds) = true ∧ (oneOrTup ds).er = d) (St.init C28 args ⟨[], []⟩)) : Pur M 28 args d :=
  pur_of_body (C := C28) (fn := Tryd.f28) Tryd.func28 (by kernel_rfl) (by kernel_rfl) (rc := c28) z28 (rs := q28) zr28 (by kernel_rfl) (by rw [hl]; rfl) (by rw [hl]; decide) rfl rfl h
/- 37 bogie.bogieref02.Path · 2 arguments · kept slots [0, 1, 4, 5, 8, 11] -/
noncomputable def E37 (n m : Nat) : Cfg := ⟨M, [0, 1, 4, 5, 8, 11], 33, n, m, []⟩
noncomputable def C37 : Cfg := E37 0 0
@[reducible] noncomputable def r37_0 : List RO := [
  ⟨.var 2, .mv, [(.con (.lit (.slice none 0 0)))], none⟩]
@[reducible] noncomputable def r37_1 : List RO := [
  ⟨.var 3, .mv, [(.con (.lit (.slice none 0 0)))], none⟩]
@[reducible] noncomputable def r37_2 : List RO := [
  ⟨.loc 6, .mv, [.var 0], none⟩,
  ⟨.loc 7, .lenL, [.loc 6], none⟩,
  ⟨.var 4, .bin .gtr, [.loc 7, .con (.int .i64 1)], none⟩]
@[reducible] noncomputable def r37_3 : List RO := [
  ⟨.loc 9, .mv, [.var 1], none⟩,
  ⟨.loc 10, .bin .rem, [.loc 9, .con (.int .i64 2)], none⟩,
  ⟨.var 5, .bin .eql, [.loc 10, .con (.int .i64 0)], none⟩]
@[reducible] noncomputable def r37_4 : List RO := [
  ⟨.loc 12, .mv, [.var 3], none⟩,
  ⟨.loc 13, .mv, [.var 0], none⟩,
  ⟨.loc 14, .mv, [.var 1], none⟩,
  ⟨.loc 15, .bin .add, [.loc 14, .con (.int .i64 1)], none⟩,
  ⟨.loc 16, .ixaS 1, [.loc 13, .loc 15], none⟩,
  ⟨.loc 17, .ld false 1, [.loc 16], none⟩,
  ⟨.loc 18, .bsl 1, [.loc 17], none⟩,
  ⟨.loc 19, .app 1 16 9, [.loc 12, .loc 18], none⟩,
  ⟨.var 3, .mv, [.loc 19], none⟩]
@[reducible] noncomputable def r37_5 : List RO := [
  ⟨.loc 20, .mv, [.var 3], none⟩,
  ⟨.loc 21, .mv, [.var 0], none⟩,
  ⟨.loc 22, .mv, [.var 1], none⟩,
  ⟨.loc 23, .bin .sub, [.loc 22, .con (.int .i64 1)], none⟩,
  ⟨.loc 24, .ixaS 1, [.loc 21, .loc 23], none⟩,
  ⟨.loc 25, .ld false 1, [.loc 24], none⟩,
  ⟨.loc 26, .bsl 1, [.loc 25], none⟩,
  ⟨.loc 27, .app 1 16 9, [.loc 20, .loc 26], none⟩,
  ⟨.var 3, .mv, [.loc 27], none⟩]
@[reducible] noncomputable def r37_6 : List RO := [
  ⟨.loc 28, .mv, [.var 0], none⟩,
  ⟨.loc 29, .call, [(.con (.fn (.func 54) [] [])), .loc 28], none⟩,
  ⟨.var 0, .mv, [.loc 29], none⟩]
@[reducible] noncomputable def r37_7 : List RO := [
  ⟨.loc 30, .mv, [.var 1], none⟩,
  ⟨.loc 31, .bin .quo, [.loc 30, .con (.int .i64 2)], none⟩,
  ⟨.var 1, .mv, [.loc 31], none⟩]
@[reducible] noncomputable def r37_8 : List RO := [
  ⟨.loc 32, .mv, [.var 3], none⟩,
  ⟨.var 2, .mv, [.loc 32], none⟩]
theorem P37 : C37.M = M := by unfold C37 E37; rfl
theorem i37 {a0 a1 : D} : St.init C37 [a0, a1] ⟨[], []⟩ = ⟨[a0, a1, .undef, .undef, .undef, .undef], [], ⟨[], []⟩⟩ := by unfold C37 E37; rfl
noncomputable def c37 : RC := (.seq (.reg r37_0) (.seq (.reg r37_1) (.seq (.block 0 (.loop (.seq (.seq (.reg r37_2) (.cond (.var 4) .skip (.exit 0))) (.block 1 (.seq (.seq (.reg r37_3) (.cond (.var 5) (.reg r37_4) (.reg r37_5))) (.seq (.reg r37_6) (.reg r37_7))))))) (.seq (.reg r37_8) .ret))))
noncomputable def q37 : List RR := [(.slot (.var 2))]
theorem z37 {n m : Nat} : resCode (E37 n m) (Tryd.f37.body.getD .skip) = some c37 := by kernel_rfl
theorem zr37 {n m : Nat} : resRs (E37 n m) Tryd.f37.results.toList = some q37 := by kernel_rfl
theorem ok37 {args : List D} {d : D} (hl : args.length = 2) (h : SWp C37 c37 (fun e s => (match e with | .exit _ => False | _ => True) ∧ rrsWp q37 s fun ds => D.closed (oneOrTup ds) = true ∧ (oneOrTup ds).er = d) (St.init C37 args ⟨[], []⟩)) : Pur M 37 args d :=
  pur_of_body (C := C37) (fn := Tryd.f37) Tryd.func37 (by kernel_rfl) (by kernel_rfl) (rc := c37) z37 (rs := q37) zr37 (by kernel_rfl) (by rw [hl]; rfl) (by rw [hl]; decide) rfl rfl h
/- 45 bogie.bogieref02.parent · 3 arguments · kept slots [0, 1, 2, 6, 7] -/
noncomputable def E45 (n m : Nat) : Cfg := ⟨M, [0, 1, 2, 6, 7], 16, n, m, []⟩
noncomputable def C45 : Cfg := E45 0 0
@[reducible] noncomputable def r45_0 : List RO := [
  ⟨.var 3, .mv, [(.con (.str []))], none⟩]
@[reducible] noncomputable def r45_1 : List RO := [
  ⟨.var 4, .mv, [.var 2], none⟩]
@[reducible] noncomputable def r45_2 : List RO := [
  ⟨.loc 8, .mv, [.var 1], none⟩,
  ⟨.loc 9, .mv, [.var 0], none⟩,
  ⟨.loc 10, .bsl 1, [(.con (.str [110, 111, 100, 101])), .loc 8, .loc 9], none⟩,
  ⟨.loc 11, .call, [(.con (.fn (.func 44) [] [])), .loc 10], none⟩,
  ⟨.var 3, .mv, [.loc 11], none⟩]
@[reducible] noncomputable def r45_3 : List RO := [
  ⟨.loc 12, .mv, [.var 0], none⟩,
  ⟨.loc 13, .mv, [.var 1], none⟩,
  ⟨.loc 14, .bsl 1, [(.con (.str [110, 111, 100, 101])), .loc 12, .loc 13], none⟩,
  ⟨.loc 15, .call, [(.con (.fn (.func 44) [] [])), .loc 14], none⟩,
  ⟨.var 3, .mv, [.loc 15], none⟩]
theorem P45 : C45.M = M := by unfold C45 E45; rfl
theorem i45 {a0 a1 a2 : D} : St.init C45 [a0, a1, a2] ⟨[], []⟩ = ⟨[a0, a1, a2, .undef, .undef], [], ⟨[], []⟩⟩ := by unfold C45 E45; rfl
noncomputable def c45 : RC := (.seq (.reg r45_0) (.seq (.seq (.reg r45_1) (.cond (.var 4) (.seq (.reg r45_2) .ret) .skip)) (.seq (.reg r45_3) .ret)))
noncomputable def q45 : List RR := [(.slot (.var 3))]
theorem z45 {n m : Nat} : resCode (E45 n m) (Tryd.f45.body.getD .skip) = some c45 := by kernel_rfl
theorem zr45 {n m : Nat} : resRs (E45 n m) Tryd.f45.results.toList = some q45 := by kernel_rfl
theorem ok45 {args : List D} {d : D} (hl : args.length = 3) (h : SWp C45 c45 (fun e s => (match e with | .exit _ => False | _ => True) ∧ rrsWp q45 s fun ds => D.closed (oneOrTup ds) = true ∧ (oneOrTup ds).er = d) (St.init C45 args ⟨[], []⟩)) : Pur M 45 args d :=
  pur_of_body (C := C45) (fn := Tryd.f45) Tryd.func45 (by kernel_rfl) (by kernel_rfl) (rc := c45) z45 (rs := q45) zr45 (by kernel_rfl) (by rw [hl]; rfl) (by rw [hl]; decide) rfl rfl h
/- 34 bogie.bogieref02.Digits · 1 arguments · kept slots [0, 2, 3, 4, 5, 6, 7, 13] -/
noncomputable def E34 (n m : Nat) : Cfg := ⟨M, [0, 2, 3, 4, 5, 6, 7, 13], 35, n, m, []⟩
noncomputable def C34 : Cfg := E34 0 0
@[reducible] noncomputable def r34_0 : List RO := [
  ⟨.var 1, .mv, [(.con (.lit (.slice none 0 0)))], none⟩]
@[reducible] noncomputable def r34_1 : List RO := [
  ⟨.loc 8, .mv, [.var 0], none⟩,
  ⟨.loc 9, .call, [(.con (.fn (.func 25) [] [])), .loc 8], none⟩,
  ⟨.var 2, .mv, [.loc 9], none⟩]
@[reducible] noncomputable def r34_2 : List RO := [
  ⟨.var 3, .mv, [(.con (.lit (.slice none 0 0)))], none⟩]
@[reducible] noncomputable def r34_3 : List RO := [
  ⟨.var 4, .mv, [.con (.int .i64 0)], none⟩]
@[reducible] noncomputable def r34_4 : List RO := [
  ⟨.var 5, .mv, [.con (.int .i64 0)], none⟩]
@[reducible] noncomputable def r34_5 : List RO := [
  ⟨.loc 10, .mv, [.var 5], none⟩,
  ⟨.loc 11, .mv, [.var 2], none⟩,
  ⟨.loc 12, .lenS, [.loc 11], none⟩,
  ⟨.var 7, .bin .lss, [.loc 10, .loc 12], none⟩]
@[reducible] noncomputable def r34_6 : List RO := [
  ⟨.loc 16, .mv, [.var 2], none⟩,
  ⟨.loc 17, .mv, [.var 5], none⟩,
  ⟨.loc 18, .ixvS, [.loc 16, .loc 17], none⟩,
  ⟨.loc 19, .call, [(.con (.fn (.func 60) [] [])), .loc 18], none⟩,
  ⟨.var 6, .mv, [.loc 19], none⟩]
@[reducible] noncomputable def r34_7 : List RO := [
  ⟨.loc 20, .mv, [.var 3], none⟩,
  ⟨.loc 21, .mv, [.var 6], none⟩,
  ⟨.loc 22, .bsl 1, [.loc 21], none⟩,
  ⟨.loc 23, .app 1 8 3, [.loc 20, .loc 22], none⟩,
  ⟨.var 3, .mv, [.loc 23], none⟩]
@[reducible] noncomputable def r34_8 : List RO := [
  ⟨.loc 24, .mv, [.var 4], none⟩,
  ⟨.loc 25, .bin .add, [.loc 24, .con (.int .i64 15)], none⟩,
  ⟨.loc 26, .mv, [.var 6], none⟩,
  ⟨.loc 27, .bin .sub, [.loc 25, .loc 26], none⟩,
  ⟨.var 4, .mv, [.loc 27], none⟩]
@[reducible] noncomputable def r34_9 : List RO := [
  ⟨.loc 14, .mv, [.var 5], none⟩,
  ⟨.loc 15, .bin .add, [.loc 14, .con (.int .i64 1)], none⟩,
  ⟨.var 5, .mv, [.loc 15], none⟩]
@[reducible] noncomputable def r34_10 : List RO := [
  ⟨.loc 28, .mv, [.var 3], none⟩,
  ⟨.loc 29, .mv, [.var 4], none⟩,
  ⟨.loc 30, .bin .quo, [.loc 29, .con (.int .i64 16)], none⟩,
  ⟨.loc 31, .mv, [.var 4], none⟩,
  ⟨.loc 32, .bin .rem, [.loc 31, .con (.int .i64 16)], none⟩,
  ⟨.loc 33, .bsl 1, [.loc 30, .loc 32], none⟩,
  ⟨.loc 34, .app 1 8 3, [.loc 28, .loc 33], none⟩,
  ⟨.var 1, .mv, [.loc 34], none⟩]
theorem P34 : C34.M = M := by unfold C34 E34; rfl
theorem i34 {a0 : D} : St.init C34 [a0] ⟨[], []⟩ = ⟨[a0, .undef, .undef, .undef, .undef, .undef, .undef, .undef], [], ⟨[], []⟩⟩ := by unfold C34 E34; rfl
noncomputable def c34 : RC := (.seq (.reg r34_0) (.seq (.reg r34_1) (.seq (.reg r34_2) (.seq (.reg r34_3) (.seq (.seq (.reg r34_4) (.block 0 (.loop (.seq (.seq (.reg r34_5) (.cond (.var 7) .skip (.exit 0))) (.seq (.block 1 (.seq (.reg r34_6) (.seq (.reg r34_7) (.reg r34_8)))) (.reg r34_9)))))) (.seq (.reg r34_10) .ret))))))
noncomputable def q34 : List RR := [(.slot (.var 1))]
theorem z34 {n m : Nat} : resCode (E34 n m) (Tryd.f34.body.getD .skip) = some c34 := by kernel_rfl
theorem zr34 {n m : Nat} : resRs (E34 n m) Tryd.f34.results.toList = some q34 := by kernel_rfl
theorem ok34 {args : List D} {d : D} (hl : args.length = 1) (h : SWp C34 c34 (fun e s => (match e with | .exit _ => False | _ => True) ∧ rrsWp q34 s fun ds => D.closed (oneOrTup ds) = true ∧ (oneOrTup ds).er = d) (St.init C34 args ⟨[], []⟩)) : Pur M 34 args d :=
  pur_of_body (C := C34) (fn := Tryd.f34) Tryd.func34 (by kernel_rfl) (by kernel_rfl) (rc := c34) z34 (rs := q34) zr34 (by kernel_rfl) (by rw [hl]; rfl) (by rw [hl]; decide) rfl rfl h
end Go.Proofs.YtgjkhlnpplajjaaDoor
end
section
set_option maxRecDepth 100000
set_option linter.unusedSimpArgs false
set_option linter.unusedVariables false
namespace Go.Proofs.YtgjkhlnpplajjaaDoor
open Go GoV Go.RowKit
theorem rlist_p (l : List (List UInt8)) (h : okL l) : Pur M 44 [.slice (strs l) .no] (.str (sumN (joined l))) := by
  refine ok44 rfl ?_
  rw [i44]
  unfold c44
  have h1 := joined_p l h
  have h2 := rsum_p (joined l) (by have := joined_len h; omega)
  repeat' (first
    | with_reducible first | apply swp_seq | apply swp_reg | apply swp_regD | apply swp_block | apply swp_exit | apply swp_ret | apply swp_skip | apply swp_cd
    | simp only [go_sem, Nat.reduceAdd, Nat.reduceSub, Nat.reduceMul, Nat.reduceEqDiff, Nat.reduceLeDiff, Nat.reduceLT, Int.reduceEq, Int.reduceNe, Int.reduceLT, Int.reduceLE, Int.reduceAdd, Int.reduceSub, Int.reduceMul, Int.reduceNeg, Int.reduceToNat, Int.reduceTDiv, Int.reduceTMod, Int.reduceBEq, Int.reduceBNe, decide_true, decide_false, reduceCtorEq, reduceIte, P44, q44]
    | simp (disch := omega) only [w64, w32, wu8, wu16, wu32, wu64]
    | ((with_reducible refine o_call (h1) ?he ?hc ?_); (case he | hc => first | rfl | (simp [D.erL, D.er, D.closedL, D.closed]; done)))
    | ((with_reducible refine o_call (h2) ?he ?hc ?_); (case he | hc => first | rfl | (simp [D.erL, D.er, D.closedL, D.closed]; done)))
    | with_reducible first | apply cd_dec | apply cd_eq | apply cd_ne | apply cd_split
    | ((with_reducible refine And.intro ?hw ?_); (case hw => first | omega | rfl | exact ⟨_, _, rfl⟩ | assumption | (simp only [lN1, lN2, lN3, lN4, lN5, lN6, lN7] <;> omega)))
    | with_reducible intro _)
  all_goals first
    | omega
    | (simp [D.closed, D.er]; done)
theorem of_p (l : List (List UInt8)) (h : okL l) : Pur M 41 [.slice (strs l) .no] (.str (sumN (joined l))) := by
  refine ok41 rfl ?_
  rw [i41]
  unfold c41
  have h1 := list_p l h
  repeat' (first
    | with_reducible first | apply swp_seq | apply swp_reg | apply swp_regD | apply swp_block | apply swp_exit | apply swp_ret | apply swp_skip | apply swp_cd
    | simp only [go_sem, Nat.reduceAdd, Nat.reduceSub, Nat.reduceMul, Nat.reduceEqDiff, Nat.reduceLeDiff, Nat.reduceLT, Int.reduceEq, Int.reduceNe, Int.reduceLT, Int.reduceLE, Int.reduceAdd, Int.reduceSub, Int.reduceMul, Int.reduceNeg, Int.reduceToNat, Int.reduceTDiv, Int.reduceTMod, Int.reduceBEq, Int.reduceBNe, decide_true, decide_false, reduceCtorEq, reduceIte, P41, q41]
    | simp (disch := omega) only [w64, w32, wu8, wu16, wu32, wu64]
    | ((with_reducible refine o_call (h1) ?he ?hc ?_); (case he | hc => first | rfl | (simp [D.erL, D.er, D.closedL, D.closed]; done)))
    | with_reducible first | apply cd_dec | apply cd_eq | apply cd_ne | apply cd_split
    | ((with_reducible refine And.intro ?hw ?_); (case hw => first | omega | rfl | exact ⟨_, _, rfl⟩ | assumption | (simp only [lN1, lN2, lN3, lN4, lN5, lN6, lN7] <;> omega)))
    | with_reducible intro _)
  all_goals first
    | omega
    | (simp [D.closed, D.er]; done)
theorem chn_lt {t : List UInt8} (ht : t.length < 65536) (n : Nat) : (chn n t).length < 65536 := by
  cases n with
  | zero => exact ht
  | succ n => rw [chn_len (by omega)]; omega
set_option maxHeartbeats 1000000 in
theorem chain_p (t : List UInt8) (n : Nat) (ht : t.length < 65536) (hn : n ≤ 1000) : Pur M 31 [.str t, .int .i64 n] (.str (chn n t)) := by
  refine ok31 rfl ?_
  rw [i31]
  unfold c31
  repeat' (first
    | with_reducible first | apply swp_seq | apply swp_reg | apply swp_regD | apply swp_block | apply swp_exit | apply swp_ret | apply swp_skip | apply swp_cd
    | simp only [go_sem, Nat.reduceAdd, Nat.reduceSub, Nat.reduceMul, Nat.reduceEqDiff, Nat.reduceLeDiff, Nat.reduceLT, Int.reduceEq, Int.reduceNe, Int.reduceLT, Int.reduceLE, Int.reduceAdd, Int.reduceSub, Int.reduceMul, Int.reduceNeg, Int.reduceToNat, Int.reduceTDiv, Int.reduceTMod, Int.reduceBEq, Int.reduceBNe, decide_true, decide_false, reduceCtorEq, reduceIte, P31, q31]
    | simp (disch := omega) only [w64, w32, wu8, wu16, wu32, wu64]
    | with_reducible first | apply cd_dec | apply cd_eq | apply cd_ne | apply cd_split
    | ((with_reducible refine And.intro ?hw ?_); (case hw => first | omega | rfl | exact ⟨_, _, rfl⟩ | assumption | (simp only [lN1, lN2, lN3, lN4, lN5, lN6, lN7] <;> omega)))
    | with_reducible intro _)
  refine swp_fam [0, 1, 2, 3, 4] (fun i : Nat => ⟨[.str (chn i t), .int .i64 n, .str [], .int .i64 n, .int .i64 i, .undef], [], ⟨[], []⟩⟩)
    (fun i => i ≤ n) (fun i => n - i) 0 (by omega) ?_ ?_
  · simp [keepE, St.keep, chn]
  · intro i hi
    have h1 := sum_p (chn i t) (chn_lt ht i)
    rw [← chn_succ] at h1
    by_cases hlt : i < n
    · repeat' (first
    | with_reducible first | apply swp_seq | apply swp_reg | apply swp_regD | apply swp_block | apply swp_exit | apply swp_ret | apply swp_skip | apply swp_cd
    | simp only [go_sem, Nat.reduceAdd, Nat.reduceSub, Nat.reduceMul, Nat.reduceEqDiff, Nat.reduceLeDiff, Nat.reduceLT, Int.reduceEq, Int.reduceNe, Int.reduceLT, Int.reduceLE, Int.reduceAdd, Int.reduceSub, Int.reduceMul, Int.reduceNeg, Int.reduceToNat, Int.reduceTDiv, Int.reduceTMod, Int.reduceBEq, Int.reduceBNe, decide_true, decide_false, reduceCtorEq, reduceIte, P31, q31]
    | simp (disch := omega) only [w64, w32, wu8, wu16, wu32, wu64]
    | ((with_reducible refine o_call (h1) ?he ?hc ?_); (case he | hc => first | rfl | (simp [D.erL, D.er, D.closedL, D.closed]; done)))
    | with_reducible first | apply cd_dec | apply cd_eq | apply cd_ne | apply cd_split
    | ((with_reducible refine And.intro ?hw ?_); (case hw => first | omega | rfl | exact ⟨_, _, rfl⟩ | assumption | (simp only [lN1, lN2, lN3, lN4, lN5, lN6, lN7] <;> omega)))
    | with_reducible intro _)
      all_goals try omega
      refine ⟨i + 1, by omega, by omega, ?_⟩
      simp [keepE, St.keep]
    · have e : i = n := by omega
      subst e
      repeat' (first
    | with_reducible first | apply swp_seq | apply swp_reg | apply swp_regD | apply swp_block | apply swp_exit | apply swp_ret | apply swp_skip | apply swp_cd
    | simp only [go_sem, Nat.reduceAdd, Nat.reduceSub, Nat.reduceMul, Nat.reduceEqDiff, Nat.reduceLeDiff, Nat.reduceLT, Int.reduceEq, Int.reduceNe, Int.reduceLT, Int.reduceLE, Int.reduceAdd, Int.reduceSub, Int.reduceMul, Int.reduceNeg, Int.reduceToNat, Int.reduceTDiv, Int.reduceTMod, Int.reduceBEq, Int.reduceBNe, decide_true, decide_false, reduceCtorEq, reduceIte, P31, q31]
    | simp (disch := omega) only [w64, w32, wu8, wu16, wu32, wu64]
    | with_reducible first | apply cd_dec | apply cd_eq | apply cd_ne | apply cd_split
    | ((with_reducible refine And.intro ?hw ?_); (case hw => first | omega | rfl | exact ⟨_, _, rfl⟩ | assumption | (simp only [lN1, lN2, lN3, lN4, lN5, lN6, lN7] <;> omega)))
    | with_reducible intro _)
      all_goals first
        | omega
        | (simp [D.closed, D.er]; done)
set_option maxHeartbeats 1000000 in
theorem rchain_p (t : List UInt8) (n : Nat) (ht : t.length < 65536) (hn : n ≤ 1000) : Pur M 35 [.str t, .int .i64 n] (.str (chn n t)) := by
  refine ok35 rfl ?_
  rw [i35]
  unfold c35
  repeat' (first
    | with_reducible first | apply swp_seq | apply swp_reg | apply swp_regD | apply swp_block | apply swp_exit | apply swp_ret | apply swp_skip | apply swp_cd
    | simp only [go_sem, Nat.reduceAdd, Nat.reduceSub, Nat.reduceMul, Nat.reduceEqDiff, Nat.reduceLeDiff, Nat.reduceLT, Int.reduceEq, Int.reduceNe, Int.reduceLT, Int.reduceLE, Int.reduceAdd, Int.reduceSub, Int.reduceMul, Int.reduceNeg, Int.reduceToNat, Int.reduceTDiv, Int.reduceTMod, Int.reduceBEq, Int.reduceBNe, decide_true, decide_false, reduceCtorEq, reduceIte, P35, q35]
    | simp (disch := omega) only [w64, w32, wu8, wu16, wu32, wu64]
    | with_reducible first | apply cd_dec | apply cd_eq | apply cd_ne | apply cd_split
    | ((with_reducible refine And.intro ?hw ?_); (case hw => first | omega | rfl | exact ⟨_, _, rfl⟩ | assumption | (simp only [lN1, lN2, lN3, lN4, lN5, lN6, lN7] <;> omega)))
    | with_reducible intro _)
  refine swp_fam [0, 1, 2, 3] (fun i : Nat => ⟨[.str (chn i t), .int .i64 n, .str [], .int .i64 i, .undef], [], ⟨[], []⟩⟩)
    (fun i => i ≤ n) (fun i => n - i) 0 (by omega) ?_ ?_
  · simp [keepE, St.keep, chn]
  · intro i hi
    have h1 := rsum_p (chn i t) (chn_lt ht i)
    rw [← chn_succ] at h1
    by_cases hlt : i < n
    · repeat' (first
    | with_reducible first | apply swp_seq | apply swp_reg | apply swp_regD | apply swp_block | apply swp_exit | apply swp_ret | apply swp_skip | apply swp_cd
    | simp only [go_sem, Nat.reduceAdd, Nat.reduceSub, Nat.reduceMul, Nat.reduceEqDiff, Nat.reduceLeDiff, Nat.reduceLT, Int.reduceEq, Int.reduceNe, Int.reduceLT, Int.reduceLE, Int.reduceAdd, Int.reduceSub, Int.reduceMul, Int.reduceNeg, Int.reduceToNat, Int.reduceTDiv, Int.reduceTMod, Int.reduceBEq, Int.reduceBNe, decide_true, decide_false, reduceCtorEq, reduceIte, P35, q35]
    | simp (disch := omega) only [w64, w32, wu8, wu16, wu32, wu64]
    | ((with_reducible refine o_call (h1) ?he ?hc ?_); (case he | hc => first | rfl | (simp [D.erL, D.er, D.closedL, D.closed]; done)))
    | with_reducible first | apply cd_dec | apply cd_eq | apply cd_ne | apply cd_split
    | ((with_reducible refine And.intro ?hw ?_); (case hw => first | omega | rfl | exact ⟨_, _, rfl⟩ | assumption | (simp only [lN1, lN2, lN3, lN4, lN5, lN6, lN7] <;> omega)))
    | with_reducible intro _)
      all_goals try omega
      refine ⟨i + 1, by omega, by omega, ?_⟩
      simp [keepE, St.keep]
    · have e : i = n := by omega
      subst e
      repeat' (first
    | with_reducible first | apply swp_seq | apply swp_reg | apply swp_regD | apply swp_block | apply swp_exit | apply swp_ret | apply swp_skip | apply swp_cd
    | simp only [go_sem, Nat.reduceAdd, Nat.reduceSub, Nat.reduceMul, Nat.reduceEqDiff, Nat.reduceLeDiff, Nat.reduceLT, Int.reduceEq, Int.reduceNe, Int.reduceLT, Int.reduceLE, Int.reduceAdd, Int.reduceSub, Int.reduceMul, Int.reduceNeg, Int.reduceToNat, Int.reduceTDiv, Int.reduceTMod, Int.reduceBEq, Int.reduceBNe, decide_true, decide_false, reduceCtorEq, reduceIte, P35, q35]
    | simp (disch := omega) only [w64, w32, wu8, wu16, wu32, wu64]
    | with_reducible first | apply cd_dec | apply cd_eq | apply cd_ne | apply cd_split
    | ((with_reducible refine And.intro ?hw ?_); (case hw => first | omega | rfl | exact ⟨_, _, rfl⟩ | assumption | (simp only [lN1, lN2, lN3, lN4, lN5, lN6, lN7] <;> omega)))
    | with_reducible intro _)
      all_goals first
        | omega
        | (simp [D.closed, D.er]; done)
theorem itoa_len {n : Nat} (h : n ≤ 1000) : (Lib.itoa (n : Int)).length ≤ 4 := itoa3 h
theorem okL_start {s : List UInt8} {i k : Nat} (hs : s.length ≤ 300) (hi : i ≤ 1000) (hk : k ≤ 1000) : okL [s, Lib.itoa (i : Int), Lib.itoa (k : Int)] := by
  have h1 := itoa_len hi
  have h2 := itoa_len hk
  refine ⟨by simp, ?_⟩
  intro x hx
  simp only [List.mem_cons, List.not_mem_nil, or_false] at hx
  rcases hx with rfl | rfl | rfl <;> omega
theorem start_p (s : List UInt8) (i k : Nat) (hs : s.length ≤ 300) (hi : i ≤ 1000) (hk : k ≤ 1000) : Pur M 32 [.str s, .int .i64 i, .int .i64 k] (.str (start s i k)) := by
  refine ok32 rfl ?_
  rw [i32]
  unfold c32
  have h1 := itoa_p (i : Int) (by omega) (by omega)
  have h2 := itoa_p (k : Int) (by omega) (by omega)
  have h3 := of_p _ (okL_start hs hi hk)
  have e : sumN (joined [s, Lib.itoa (i : Int), Lib.itoa (k : Int)]) = start s i k := rfl
  rw [e] at h3
  have e2 : strs [s, Lib.itoa (i : Int), Lib.itoa (k : Int)] = [.str s, .str (Lib.itoa (i : Int)), .str (Lib.itoa (k : Int))] := rfl
  rw [e2] at h3
  generalize Lib.itoa (i : Int) = u at *
  generalize Lib.itoa (k : Int) = v at *
  generalize start s i k = r at *
  repeat' (first
    | with_reducible first | apply swp_seq | apply swp_reg | apply swp_regD | apply swp_block | apply swp_exit | apply swp_ret | apply swp_skip | apply swp_cd
    | simp only [go_sem, Nat.reduceAdd, Nat.reduceSub, Nat.reduceMul, Nat.reduceEqDiff, Nat.reduceLeDiff, Nat.reduceLT, Int.reduceEq, Int.reduceNe, Int.reduceLT, Int.reduceLE, Int.reduceAdd, Int.reduceSub, Int.reduceMul, Int.reduceNeg, Int.reduceToNat, Int.reduceTDiv, Int.reduceTMod, Int.reduceBEq, Int.reduceBNe, decide_true, decide_false, reduceCtorEq, reduceIte, P32, q32]
    | simp (disch := omega) only [w64, w32, wu8, wu16, wu32, wu64]
    | ((with_reducible refine o_call (h1) ?he ?hc ?_); (case he | hc => first | rfl | (simp [D.erL, D.er, D.closedL, D.closed]; done)))
    | ((with_reducible refine o_call (h2) ?he ?hc ?_); (case he | hc => first | rfl | (simp [D.erL, D.er, D.closedL, D.closed]; done)))
    | ((with_reducible refine o_call (h3) ?he ?hc ?_); (case he | hc => first | rfl | (simp [D.erL, D.er, D.closedL, D.closed]; done)))
    | ((with_reducible apply s_bsl); (case he | hl | hc => first | rfl | assumption | omega | ((first | refine ⟨?_, ?_⟩ | skip) <;> first | omega | (simp only [lN1, lN2, lN3, lN4, lN5, lN6, lN7] <;> omega)) | (simp [elemsK, D.isVal, D.cells, D.closedL, D.closed]; first | done | omega)))
    | with_reducible first | apply cd_dec | apply cd_eq | apply cd_ne | apply cd_split
    | ((with_reducible refine And.intro ?hw ?_); (case hw => first | omega | rfl | exact ⟨_, _, rfl⟩ | assumption | (simp only [lN1, lN2, lN3, lN4, lN5, lN6, lN7] <;> omega)))
    | with_reducible intro _)
  all_goals first
    | omega
    | (simp [D.closed, D.er]; done)
theorem rstart_p (s : List UInt8) (i k : Nat) (hs : s.length ≤ 300) (hi : i ≤ 1000) (hk : k ≤ 1000) : Pur M 36 [.str s, .int .i64 i, .int .i64 k] (.str (start s i k)) := by
  refine ok36 rfl ?_
  rw [i36]
  unfold c36
  have h1 := rdec_p i (by omega)
  have h2 := rdec_p k (by omega)
  have h3 := rlist_p _ (okL_start hs hi hk)
  have e : sumN (joined [s, Lib.itoa (i : Int), Lib.itoa (k : Int)]) = start s i k := rfl
  rw [e] at h3
  have e2 : strs [s, Lib.itoa (i : Int), Lib.itoa (k : Int)] = [.str s, .str (Lib.itoa (i : Int)), .str (Lib.itoa (k : Int))] := rfl
  rw [e2] at h3
  generalize Lib.itoa (i : Int) = u at *
  generalize Lib.itoa (k : Int) = v at *
  generalize start s i k = r at *
  repeat' (first
    | with_reducible first | apply swp_seq | apply swp_reg | apply swp_regD | apply swp_block | apply swp_exit | apply swp_ret | apply swp_skip | apply swp_cd
    | simp only [go_sem, Nat.reduceAdd, Nat.reduceSub, Nat.reduceMul, Nat.reduceEqDiff, Nat.reduceLeDiff, Nat.reduceLT, Int.reduceEq, Int.reduceNe, Int.reduceLT, Int.reduceLE, Int.reduceAdd, Int.reduceSub, Int.reduceMul, Int.reduceNeg, Int.reduceToNat, Int.reduceTDiv, Int.reduceTMod, Int.reduceBEq, Int.reduceBNe, decide_true, decide_false, reduceCtorEq, reduceIte, P36, q36]
    | simp (disch := omega) only [w64, w32, wu8, wu16, wu32, wu64]
    | ((with_reducible refine o_call (h1) ?he ?hc ?_); (case he | hc => first | rfl | (simp [D.erL, D.er, D.closedL, D.closed]; done)))
    | ((with_reducible refine o_call (h2) ?he ?hc ?_); (case he | hc => first | rfl | (simp [D.erL, D.er, D.closedL, D.closed]; done)))
    | ((with_reducible refine o_call (h3) ?he ?hc ?_); (case he | hc => first | rfl | (simp [D.erL, D.er, D.closedL, D.closed]; done)))
    | ((with_reducible apply s_bsl); (case he | hl | hc => first | rfl | assumption | omega | ((first | refine ⟨?_, ?_⟩ | skip) <;> first | omega | (simp only [lN1, lN2, lN3, lN4, lN5, lN6, lN7] <;> omega)) | (simp [elemsK, D.isVal, D.cells, D.closedL, D.closed]; first | done | omega)))
    | with_reducible first | apply cd_dec | apply cd_eq | apply cd_ne | apply cd_split
    | ((with_reducible refine And.intro ?hw ?_); (case hw => first | omega | rfl | exact ⟨_, _, rfl⟩ | assumption | (simp only [lN1, lN2, lN3, lN4, lN5, lN6, lN7] <;> omega)))
    | with_reducible intro _)
  all_goals first
    | omega
    | (simp [D.closed, D.er]; done)
theorem okL_node {a b : List UInt8} (ha : a.length ≤ 1000) (hb : b.length ≤ 1000) : okL [wnode, a, b] := by
  refine ⟨by simp, ?_⟩
  intro x hx
  simp only [List.mem_cons, List.not_mem_nil, or_false] at hx
  rcases hx with rfl | rfl | rfl
  · decide
  · exact ha
  · exact hb
theorem node_p (a b : List UInt8) (back : Bool) (ha : a.length ≤ 1000) (hb : b.length ≤ 1000) : Pur M 42 [.str a, .str b, .bool back] (.str (par a b back)) := by
  refine ok42 rfl ?_
  rw [i42]
  unfold c42
  have h1 := of_p _ (okL_node ha hb)
  have h2 := of_p _ (okL_node hb ha)
  have e1 : strs [wnode, a, b] = [.str [110, 111, 100, 101], .str a, .str b] := rfl
  have e2 : strs [wnode, b, a] = [.str [110, 111, 100, 101], .str b, .str a] := rfl
  rw [e1] at h1
  rw [e2] at h2
  have e3 : sumN (joined [wnode, a, b]) = nod a b := rfl
  have e4 : sumN (joined [wnode, b, a]) = nod b a := rfl
  rw [e3] at h1
  rw [e4] at h2
  cases back
  · have e : par a b false = nod a b := rfl
    rw [e]
    repeat' (first
    | with_reducible first | apply swp_seq | apply swp_reg | apply swp_regD | apply swp_block | apply swp_exit | apply swp_ret | apply swp_skip | apply swp_cd
    | simp only [go_sem, Nat.reduceAdd, Nat.reduceSub, Nat.reduceMul, Nat.reduceEqDiff, Nat.reduceLeDiff, Nat.reduceLT, Int.reduceEq, Int.reduceNe, Int.reduceLT, Int.reduceLE, Int.reduceAdd, Int.reduceSub, Int.reduceMul, Int.reduceNeg, Int.reduceToNat, Int.reduceTDiv, Int.reduceTMod, Int.reduceBEq, Int.reduceBNe, decide_true, decide_false, reduceCtorEq, reduceIte, P42, q42]
    | simp (disch := omega) only [w64, w32, wu8, wu16, wu32, wu64]
    | ((with_reducible refine o_call (h1) ?he ?hc ?_); (case he | hc => first | rfl | (simp [D.erL, D.er, D.closedL, D.closed]; done)))
    | ((with_reducible apply s_bsl); (case he | hl | hc => first | rfl | assumption | omega | ((first | refine ⟨?_, ?_⟩ | skip) <;> first | omega | (simp only [lN1, lN2, lN3, lN4, lN5, lN6, lN7] <;> omega)) | (simp [elemsK, D.isVal, D.cells, D.closedL, D.closed]; first | done | omega)))
    | with_reducible first | apply cd_dec | apply cd_eq | apply cd_ne | apply cd_split
    | ((with_reducible refine And.intro ?hw ?_); (case hw => first | omega | rfl | exact ⟨_, _, rfl⟩ | assumption | (simp only [lN1, lN2, lN3, lN4, lN5, lN6, lN7] <;> omega)))
    | with_reducible intro _)
    all_goals first
      | omega
      | (simp [D.closed, D.er]; done)
  · have e : par a b true = nod b a := rfl
    rw [e]
    repeat' (first
    | with_reducible first | apply swp_seq | apply swp_reg | apply swp_regD | apply swp_block | apply swp_exit | apply swp_ret | apply swp_skip | apply swp_cd
    | simp only [go_sem, Nat.reduceAdd, Nat.reduceSub, Nat.reduceMul, Nat.reduceEqDiff, Nat.reduceLeDiff, Nat.reduceLT, Int.reduceEq, Int.reduceNe, Int.reduceLT, Int.reduceLE, Int.reduceAdd, Int.reduceSub, Int.reduceMul, Int.reduceNeg, Int.reduceToNat, Int.reduceTDiv, Int.reduceTMod, Int.reduceBEq, Int.reduceBNe, decide_true, decide_false, reduceCtorEq, reduceIte, P42, q42]
    | simp (disch := omega) only [w64, w32, wu8, wu16, wu32, wu64]
    | ((with_reducible refine o_call (h2) ?he ?hc ?_); (case he | hc => first | rfl | (simp [D.erL, D.er, D.closedL, D.closed]; done)))
    | ((with_reducible apply s_bsl); (case he | hl | hc => first | rfl | assumption | omega | ((first | refine ⟨?_, ?_⟩ | skip) <;> first | omega | (simp only [lN1, lN2, lN3, lN4, lN5, lN6, lN7] <;> omega)) | (simp [elemsK, D.isVal, D.cells, D.closedL, D.closed]; first | done | omega)))
    | with_reducible first | apply cd_dec | apply cd_eq | apply cd_ne | apply cd_split
    | ((with_reducible refine And.intro ?hw ?_); (case hw => first | omega | rfl | exact ⟨_, _, rfl⟩ | assumption | (simp only [lN1, lN2, lN3, lN4, lN5, lN6, lN7] <;> omega)))
    | with_reducible intro _)
    all_goals first
      | omega
      | (simp [D.closed, D.er]; done)
end Go.Proofs.YtgjkhlnpplajjaaDoor
end
section
set_option maxRecDepth 100000
set_option linter.unusedSimpArgs false
set_option linter.unusedVariables false
namespace Go.Proofs.YtgjkhlnpplajjaaDoor
open Go GoV Go.RowKit
def endsP (s : List UInt8) (i j : Nat) : List (List UInt8) := (List.range j).map fun k => chn 15 (start s i k)
theorem endsP_all (s : List UInt8) (i : Nat) : endsP s i 18 = ends s i := rfl
theorem endsP_step (s : List UInt8) (i j : Nat) : endsP s i (j + 1) = endsP s i j ++ [chn 15 (start s i j)] := by simp [endsP, List.range_succ]
theorem endsP_len (s : List UInt8) (i j : Nat) : (endsP s i j).length = j := by simp [endsP]
theorem strs_app (a b : List (List UInt8)) : strs (a ++ b) = strs a ++ strs b := by simp [strs]
theorem strs_len (a : List (List UInt8)) : (strs a).length = a.length := by simp [strs]
theorem okL_ends (s : List UInt8) (i : Nat) : okL (ends s i) := by
  refine ⟨by rw [← endsP_all, endsP_len]; omega, ?_⟩
  intro x hx
  obtain ⟨k, _, rfl⟩ := List.mem_map.1 hx
  rw [chn_len (by omega)]
  omega
theorem start_len (s : List UInt8) (i k : Nat) : (start s i k).length = 16 := sumN_len _
set_option maxHeartbeats 1000000 in
theorem key_p (s : List UInt8) (i : Nat) (hs : s.length ≤ 300) (hi : i ≤ 1000) : Pur M 52 [.str s, .int .i64 i] (.str (key s i)) := by
  refine ok52 rfl ?_
  rw [i52]
  unfold c52
  repeat' (first
    | with_reducible first | apply swp_seq | apply swp_reg | apply swp_regD | apply swp_block | apply swp_exit | apply swp_ret | apply swp_skip | apply swp_cd
    | simp only [go_sem, Nat.reduceAdd, Nat.reduceSub, Nat.reduceMul, Nat.reduceEqDiff, Nat.reduceLeDiff, Nat.reduceLT, Int.reduceEq, Int.reduceNe, Int.reduceLT, Int.reduceLE, Int.reduceAdd, Int.reduceSub, Int.reduceMul, Int.reduceNeg, Int.reduceToNat, Int.reduceTDiv, Int.reduceTMod, Int.reduceBEq, Int.reduceBNe, decide_true, decide_false, reduceCtorEq, reduceIte, P52, q52]
    | simp (disch := omega) only [w64, w32, wu8, wu16, wu32, wu64]
    | ((with_reducible apply s_appT); (case he => rfl); (case hK | hc | hr | hV => first | rfl | assumption | omega | ((first | refine ⟨?_, ?_⟩ | skip) <;> first | omega | (simp only [lN1, lN2, lN3, lN4, lN5, lN6, lN7] <;> omega)) | (simp [elemsK, D.isVal, D.cells, D.closedL, D.closed]; first | done | omega)))
    | ((with_reducible apply s_appG); (case he => rfl); (case hV | hK | hr | hl => first | rfl | assumption | omega | ((first | refine ⟨?_, ?_⟩ | skip) <;> first | omega | (simp only [lN1, lN2, lN3, lN4, lN5, lN6, lN7] <;> omega)) | (simp [elemsK, D.isVal, D.cells, D.closedL, D.closed]; first | done | omega)))
    | ((with_reducible apply s_app0); (case he => rfl); (case hK | hc | hr => first | rfl | assumption | omega | ((first | refine ⟨?_, ?_⟩ | skip) <;> first | omega | (simp only [lN1, lN2, lN3, lN4, lN5, lN6, lN7] <;> omega)) | (simp [elemsK, D.isVal, D.cells, D.closedL, D.closed]; first | done | omega)))
    | ((with_reducible apply s_appF); (case he => rfl); (case hK | hc | hr | hx | hn => first | rfl | assumption | omega | ((first | refine ⟨?_, ?_⟩ | skip) <;> first | omega | (simp only [lN1, lN2, lN3, lN4, lN5, lN6, lN7] <;> omega)) | (simp [elemsK, D.isVal, D.cells, D.closedL, D.closed]; first | done | omega)))
    | ((with_reducible apply s_bsl); (case he | hl | hc => first | rfl | assumption | omega | ((first | refine ⟨?_, ?_⟩ | skip) <;> first | omega | (simp only [lN1, lN2, lN3, lN4, lN5, lN6, lN7] <;> omega)) | (simp [elemsK, D.isVal, D.cells, D.closedL, D.closed]; first | done | omega)))
    | with_reducible first | apply cd_dec | apply cd_eq | apply cd_ne | apply cd_split
    | ((with_reducible refine And.intro ?hw ?_); (case hw => first | omega | rfl | exact ⟨_, _, rfl⟩ | assumption | (simp only [lN1, lN2, lN3, lN4, lN5, lN6, lN7] <;> omega)))
    | with_reducible intro _)
  refine swp_weak (weak_new 3 1 (by decide) false rfl) ?_
  refine swp_fam [0, 1, 2, 3, 5] (fun j : Nat => ⟨[.str s, .int .i64 i, .str [], .slice (strs (endsP s i j)) (.tok 0), .undef, .int .i64 j, .undef], [], ⟨[], [.per 1 j]⟩⟩)
    (fun j => j ≤ 18) (fun j => 18 - j) 0 (by omega) ?_ ?_
  · simp [keepE, St.keep, endsP]
  · intro j hj
    have hl : (strs (endsP s i j)).length = j := by rw [strs_len, endsP_len]
    by_cases hlt : j < 18
    · have h1 := start_p s i j hs hi (by omega)
      have h2 := chain_p (start s i j) 15 (by rw [start_len]; omega) (by omega)
      have h3 := endsP_step s i j
      have hc : (chn 15 (start s i j)).length = 16 := chn_len (by omega)
      have q15 : ((15 : Nat) : Int) = 15 := rfl
      rw [q15] at h2
      generalize chn 15 (start s i j) = x at *
      generalize start s i j = y at *
      repeat' (first
    | with_reducible first | apply swp_seq | apply swp_reg | apply swp_regD | apply swp_block | apply swp_exit | apply swp_ret | apply swp_skip | apply swp_cd
    | simp only [go_sem, Nat.reduceAdd, Nat.reduceSub, Nat.reduceMul, Nat.reduceEqDiff, Nat.reduceLeDiff, Nat.reduceLT, Int.reduceEq, Int.reduceNe, Int.reduceLT, Int.reduceLE, Int.reduceAdd, Int.reduceSub, Int.reduceMul, Int.reduceNeg, Int.reduceToNat, Int.reduceTDiv, Int.reduceTMod, Int.reduceBEq, Int.reduceBNe, decide_true, decide_false, reduceCtorEq, reduceIte, P52, q52]
    | simp (disch := omega) only [w64, w32, wu8, wu16, wu32, wu64]
    | ((with_reducible refine o_call (h1) ?he ?hc ?_); (case he | hc => first | rfl | (simp [D.erL, D.er, D.closedL, D.closed, hl]; done)))
    | ((with_reducible refine o_call (h2) ?he ?hc ?_); (case he | hc => first | rfl | (simp [D.erL, D.er, D.closedL, D.closed, hl]; done)))
    | ((with_reducible apply s_appT); (case he => rfl); (case hK | hc | hr | hV => first | rfl | assumption | omega | ((first | refine ⟨?_, ?_⟩ | skip) <;> first | omega | (simp only [lN1, lN2, lN3, lN4, lN5, lN6, lN7, hl] <;> omega)) | (simp [elemsK, D.isVal, D.cells, D.closedL, D.closed, hl]; first | done | omega)))
    | ((with_reducible apply s_appG); (case he => rfl); (case hV | hK | hr | hl => first | rfl | assumption | omega | ((first | refine ⟨?_, ?_⟩ | skip) <;> first | omega | (simp only [lN1, lN2, lN3, lN4, lN5, lN6, lN7, hl] <;> omega)) | (simp [elemsK, D.isVal, D.cells, D.closedL, D.closed, hl]; first | done | omega)))
    | ((with_reducible apply s_app0); (case he => rfl); (case hK | hc | hr => first | rfl | assumption | omega | ((first | refine ⟨?_, ?_⟩ | skip) <;> first | omega | (simp only [lN1, lN2, lN3, lN4, lN5, lN6, lN7, hl] <;> omega)) | (simp [elemsK, D.isVal, D.cells, D.closedL, D.closed, hl]; first | done | omega)))
    | ((with_reducible apply s_appF); (case he => rfl); (case hK | hc | hr | hx | hn => first | rfl | assumption | omega | ((first | refine ⟨?_, ?_⟩ | skip) <;> first | omega | (simp only [lN1, lN2, lN3, lN4, lN5, lN6, lN7, hl] <;> omega)) | (simp [elemsK, D.isVal, D.cells, D.closedL, D.closed, hl]; first | done | omega)))
    | ((with_reducible apply s_bsl); (case he | hl | hc => first | rfl | assumption | omega | ((first | refine ⟨?_, ?_⟩ | skip) <;> first | omega | (simp only [lN1, lN2, lN3, lN4, lN5, lN6, lN7, hl] <;> omega)) | (simp [elemsK, D.isVal, D.cells, D.closedL, D.closed, hl]; first | done | omega)))
    | with_reducible first | apply cd_dec | apply cd_eq | apply cd_ne | apply cd_split
    | ((with_reducible refine And.intro ?hw ?_); (case hw => first | omega | rfl | exact ⟨_, _, rfl⟩ | assumption | (simp only [lN1, lN2, lN3, lN4, lN5, lN6, lN7, hl] <;> omega)))
    | with_reducible intro _)
      all_goals try omega
      refine ⟨j + 1, by omega, by omega, ?_⟩
      rw [h3, strs_app]
      simp [keepE, St.keep, hl, strs]
      try omega
    · have e : j = 18 := by omega
      subst e
      have h1 := of_p (endsP s i 18) (okL_ends s i)
      have e2 : sumN (joined (endsP s i 18)) = key s i := rfl
      rw [e2] at h1
      repeat' (first
    | with_reducible first | apply swp_seq | apply swp_reg | apply swp_regD | apply swp_block | apply swp_exit | apply swp_ret | apply swp_skip | apply swp_cd
    | simp only [go_sem, Nat.reduceAdd, Nat.reduceSub, Nat.reduceMul, Nat.reduceEqDiff, Nat.reduceLeDiff, Nat.reduceLT, Int.reduceEq, Int.reduceNe, Int.reduceLT, Int.reduceLE, Int.reduceAdd, Int.reduceSub, Int.reduceMul, Int.reduceNeg, Int.reduceToNat, Int.reduceTDiv, Int.reduceTMod, Int.reduceBEq, Int.reduceBNe, decide_true, decide_false, reduceCtorEq, reduceIte, P52, q52]
    | simp (disch := omega) only [w64, w32, wu8, wu16, wu32, wu64]
    | ((with_reducible refine o_call (h1) ?he ?hc ?_); (case he | hc => first | rfl | (simp [D.erL, D.er, D.closedL, D.closed]; done)))
    | ((with_reducible apply s_appT); (case he => rfl); (case hK | hc | hr | hV => first | rfl | assumption | omega | ((first | refine ⟨?_, ?_⟩ | skip) <;> first | omega | (simp only [lN1, lN2, lN3, lN4, lN5, lN6, lN7] <;> omega)) | (simp [elemsK, D.isVal, D.cells, D.closedL, D.closed]; first | done | omega)))
    | ((with_reducible apply s_appG); (case he => rfl); (case hV | hK | hr | hl => first | rfl | assumption | omega | ((first | refine ⟨?_, ?_⟩ | skip) <;> first | omega | (simp only [lN1, lN2, lN3, lN4, lN5, lN6, lN7] <;> omega)) | (simp [elemsK, D.isVal, D.cells, D.closedL, D.closed]; first | done | omega)))
    | ((with_reducible apply s_app0); (case he => rfl); (case hK | hc | hr => first | rfl | assumption | omega | ((first | refine ⟨?_, ?_⟩ | skip) <;> first | omega | (simp only [lN1, lN2, lN3, lN4, lN5, lN6, lN7] <;> omega)) | (simp [elemsK, D.isVal, D.cells, D.closedL, D.closed]; first | done | omega)))
    | ((with_reducible apply s_appF); (case he => rfl); (case hK | hc | hr | hx | hn => first | rfl | assumption | omega | ((first | refine ⟨?_, ?_⟩ | skip) <;> first | omega | (simp only [lN1, lN2, lN3, lN4, lN5, lN6, lN7] <;> omega)) | (simp [elemsK, D.isVal, D.cells, D.closedL, D.closed]; first | done | omega)))
    | ((with_reducible apply s_bsl); (case he | hl | hc => first | rfl | assumption | omega | ((first | refine ⟨?_, ?_⟩ | skip) <;> first | omega | (simp only [lN1, lN2, lN3, lN4, lN5, lN6, lN7] <;> omega)) | (simp [elemsK, D.isVal, D.cells, D.closedL, D.closed]; first | done | omega)))
    | with_reducible first | apply cd_dec | apply cd_eq | apply cd_ne | apply cd_split
    | ((with_reducible refine And.intro ?hw ?_); (case hw => first | omega | rfl | exact ⟨_, _, rfl⟩ | assumption | (simp only [lN1, lN2, lN3, lN4, lN5, lN6, lN7] <;> omega)))
    | with_reducible intro _)
      all_goals first
        | omega
        | (simp [D.closed, D.er]; done)
set_option maxHeartbeats 1000000 in
theorem rkey_p (s : List UInt8) (i : Nat) (hs : s.length ≤ 300) (hi : i ≤ 1000) : Pur M 55 [.str s, .int .i64 i] (.str (key s i)) := by
  refine ok55 rfl ?_
  rw [i55]
  unfold c55
  repeat' (first
    | with_reducible first | apply swp_seq | apply swp_reg | apply swp_regD | apply swp_block | apply swp_exit | apply swp_ret | apply swp_skip | apply swp_cd
    | simp only [go_sem, Nat.reduceAdd, Nat.reduceSub, Nat.reduceMul, Nat.reduceEqDiff, Nat.reduceLeDiff, Nat.reduceLT, Int.reduceEq, Int.reduceNe, Int.reduceLT, Int.reduceLE, Int.reduceAdd, Int.reduceSub, Int.reduceMul, Int.reduceNeg, Int.reduceToNat, Int.reduceTDiv, Int.reduceTMod, Int.reduceBEq, Int.reduceBNe, decide_true, decide_false, reduceCtorEq, reduceIte, P55, q55]
    | simp (disch := omega) only [w64, w32, wu8, wu16, wu32, wu64]
    | ((with_reducible apply s_appT); (case he => rfl); (case hK | hc | hr | hV => first | rfl | assumption | omega | ((first | refine ⟨?_, ?_⟩ | skip) <;> first | omega | (simp only [lN1, lN2, lN3, lN4, lN5, lN6, lN7] <;> omega)) | (simp [elemsK, D.isVal, D.cells, D.closedL, D.closed]; first | done | omega)))
    | ((with_reducible apply s_appG); (case he => rfl); (case hV | hK | hr | hl => first | rfl | assumption | omega | ((first | refine ⟨?_, ?_⟩ | skip) <;> first | omega | (simp only [lN1, lN2, lN3, lN4, lN5, lN6, lN7] <;> omega)) | (simp [elemsK, D.isVal, D.cells, D.closedL, D.closed]; first | done | omega)))
    | ((with_reducible apply s_app0); (case he => rfl); (case hK | hc | hr => first | rfl | assumption | omega | ((first | refine ⟨?_, ?_⟩ | skip) <;> first | omega | (simp only [lN1, lN2, lN3, lN4, lN5, lN6, lN7] <;> omega)) | (simp [elemsK, D.isVal, D.cells, D.closedL, D.closed]; first | done | omega)))
    | ((with_reducible apply s_appF); (case he => rfl); (case hK | hc | hr | hx | hn => first | rfl | assumption | omega | ((first | refine ⟨?_, ?_⟩ | skip) <;> first | omega | (simp only [lN1, lN2, lN3, lN4, lN5, lN6, lN7] <;> omega)) | (simp [elemsK, D.isVal, D.cells, D.closedL, D.closed]; first | done | omega)))
    | ((with_reducible apply s_bsl); (case he | hl | hc => first | rfl | assumption | omega | ((first | refine ⟨?_, ?_⟩ | skip) <;> first | omega | (simp only [lN1, lN2, lN3, lN4, lN5, lN6, lN7] <;> omega)) | (simp [elemsK, D.isVal, D.cells, D.closedL, D.closed]; first | done | omega)))
    | with_reducible first | apply cd_dec | apply cd_eq | apply cd_ne | apply cd_split
    | ((with_reducible refine And.intro ?hw ?_); (case hw => first | omega | rfl | exact ⟨_, _, rfl⟩ | assumption | (simp only [lN1, lN2, lN3, lN4, lN5, lN6, lN7] <;> omega)))
    | with_reducible intro _)
  refine swp_weak (weak_new 3 1 (by decide) false rfl) ?_
  refine swp_fam [0, 1, 2, 3, 4] (fun j : Nat => ⟨[.str s, .int .i64 i, .str [], .slice (strs (endsP s i j)) (.tok 0), .int .i64 j, .undef], [], ⟨[], [.per 1 j]⟩⟩)
    (fun j => j ≤ 18) (fun j => 18 - j) 0 (by omega) ?_ ?_
  · simp [keepE, St.keep, endsP]
  · intro j hj
    have hl : (strs (endsP s i j)).length = j := by rw [strs_len, endsP_len]
    by_cases hlt : j < 18
    · have h1 := rstart_p s i j hs hi (by omega)
      have h2 := rchain_p (start s i j) 15 (by rw [start_len]; omega) (by omega)
      have h3 := endsP_step s i j
      have hc : (chn 15 (start s i j)).length = 16 := chn_len (by omega)
      have q15 : ((15 : Nat) : Int) = 15 := rfl
      rw [q15] at h2
      generalize chn 15 (start s i j) = x at *
      generalize start s i j = y at *
      repeat' (first
    | with_reducible first | apply swp_seq | apply swp_reg | apply swp_regD | apply swp_block | apply swp_exit | apply swp_ret | apply swp_skip | apply swp_cd
    | simp only [go_sem, Nat.reduceAdd, Nat.reduceSub, Nat.reduceMul, Nat.reduceEqDiff, Nat.reduceLeDiff, Nat.reduceLT, Int.reduceEq, Int.reduceNe, Int.reduceLT, Int.reduceLE, Int.reduceAdd, Int.reduceSub, Int.reduceMul, Int.reduceNeg, Int.reduceToNat, Int.reduceTDiv, Int.reduceTMod, Int.reduceBEq, Int.reduceBNe, decide_true, decide_false, reduceCtorEq, reduceIte, P55, q55]
    | simp (disch := omega) only [w64, w32, wu8, wu16, wu32, wu64]
    | ((with_reducible refine o_call (h1) ?he ?hc ?_); (case he | hc => first | rfl | (simp [D.erL, D.er, D.closedL, D.closed, hl]; done)))
    | ((with_reducible refine o_call (h2) ?he ?hc ?_); (case he | hc => first | rfl | (simp [D.erL, D.er, D.closedL, D.closed, hl]; done)))
    | ((with_reducible apply s_appT); (case he => rfl); (case hK | hc | hr | hV => first | rfl | assumption | omega | ((first | refine ⟨?_, ?_⟩ | skip) <;> first | omega | (simp only [lN1, lN2, lN3, lN4, lN5, lN6, lN7, hl] <;> omega)) | (simp [elemsK, D.isVal, D.cells, D.closedL, D.closed, hl]; first | done | omega)))
    | ((with_reducible apply s_appG); (case he => rfl); (case hV | hK | hr | hl => first | rfl | assumption | omega | ((first | refine ⟨?_, ?_⟩ | skip) <;> first | omega | (simp only [lN1, lN2, lN3, lN4, lN5, lN6, lN7, hl] <;> omega)) | (simp [elemsK, D.isVal, D.cells, D.closedL, D.closed, hl]; first | done | omega)))
    | ((with_reducible apply s_app0); (case he => rfl); (case hK | hc | hr => first | rfl | assumption | omega | ((first | refine ⟨?_, ?_⟩ | skip) <;> first | omega | (simp only [lN1, lN2, lN3, lN4, lN5, lN6, lN7, hl] <;> omega)) | (simp [elemsK, D.isVal, D.cells, D.closedL, D.closed, hl]; first | done | omega)))
    | ((with_reducible apply s_appF); (case he => rfl); (case hK | hc | hr | hx | hn => first | rfl | assumption | omega | ((first | refine ⟨?_, ?_⟩ | skip) <;> first | omega | (simp only [lN1, lN2, lN3, lN4, lN5, lN6, lN7, hl] <;> omega)) | (simp [elemsK, D.isVal, D.cells, D.closedL, D.closed, hl]; first | done | omega)))
    | ((with_reducible apply s_bsl); (case he | hl | hc => first | rfl | assumption | omega | ((first | refine ⟨?_, ?_⟩ | skip) <;> first | omega | (simp only [lN1, lN2, lN3, lN4, lN5, lN6, lN7, hl] <;> omega)) | (simp [elemsK, D.isVal, D.cells, D.closedL, D.closed, hl]; first | done | omega)))
    | with_reducible first | apply cd_dec | apply cd_eq | apply cd_ne | apply cd_split
    | ((with_reducible refine And.intro ?hw ?_); (case hw => first | omega | rfl | exact ⟨_, _, rfl⟩ | assumption | (simp only [lN1, lN2, lN3, lN4, lN5, lN6, lN7, hl] <;> omega)))
    | with_reducible intro _)
      all_goals try omega
      refine ⟨j + 1, by omega, by omega, ?_⟩
      rw [h3, strs_app]
      simp [keepE, St.keep, hl, strs]
      try omega
    · have e : j = 18 := by omega
      subst e
      have h1 := rlist_p (endsP s i 18) (okL_ends s i)
      have e2 : sumN (joined (endsP s i 18)) = key s i := rfl
      rw [e2] at h1
      repeat' (first
    | with_reducible first | apply swp_seq | apply swp_reg | apply swp_regD | apply swp_block | apply swp_exit | apply swp_ret | apply swp_skip | apply swp_cd
    | simp only [go_sem, Nat.reduceAdd, Nat.reduceSub, Nat.reduceMul, Nat.reduceEqDiff, Nat.reduceLeDiff, Nat.reduceLT, Int.reduceEq, Int.reduceNe, Int.reduceLT, Int.reduceLE, Int.reduceAdd, Int.reduceSub, Int.reduceMul, Int.reduceNeg, Int.reduceToNat, Int.reduceTDiv, Int.reduceTMod, Int.reduceBEq, Int.reduceBNe, decide_true, decide_false, reduceCtorEq, reduceIte, P55, q55]
    | simp (disch := omega) only [w64, w32, wu8, wu16, wu32, wu64]
    | ((with_reducible refine o_call (h1) ?he ?hc ?_); (case he | hc => first | rfl | (simp [D.erL, D.er, D.closedL, D.closed]; done)))
    | ((with_reducible apply s_appT); (case he => rfl); (case hK | hc | hr | hV => first | rfl | assumption | omega | ((first | refine ⟨?_, ?_⟩ | skip) <;> first | omega | (simp only [lN1, lN2, lN3, lN4, lN5, lN6, lN7] <;> omega)) | (simp [elemsK, D.isVal, D.cells, D.closedL, D.closed]; first | done | omega)))
    | ((with_reducible apply s_appG); (case he => rfl); (case hV | hK | hr | hl => first | rfl | assumption | omega | ((first | refine ⟨?_, ?_⟩ | skip) <;> first | omega | (simp only [lN1, lN2, lN3, lN4, lN5, lN6, lN7] <;> omega)) | (simp [elemsK, D.isVal, D.cells, D.closedL, D.closed]; first | done | omega)))
    | ((with_reducible apply s_app0); (case he => rfl); (case hK | hc | hr => first | rfl | assumption | omega | ((first | refine ⟨?_, ?_⟩ | skip) <;> first | omega | (simp only [lN1, lN2, lN3, lN4, lN5, lN6, lN7] <;> omega)) | (simp [elemsK, D.isVal, D.cells, D.closedL, D.closed]; first | done | omega)))
    | ((with_reducible apply s_appF); (case he => rfl); (case hK | hc | hr | hx | hn => first | rfl | assumption | omega | ((first | refine ⟨?_, ?_⟩ | skip) <;> first | omega | (simp only [lN1, lN2, lN3, lN4, lN5, lN6, lN7] <;> omega)) | (simp [elemsK, D.isVal, D.cells, D.closedL, D.closed]; first | done | omega)))
    | ((with_reducible apply s_bsl); (case he | hl | hc => first | rfl | assumption | omega | ((first | refine ⟨?_, ?_⟩ | skip) <;> first | omega | (simp only [lN1, lN2, lN3, lN4, lN5, lN6, lN7] <;> omega)) | (simp [elemsK, D.isVal, D.cells, D.closedL, D.closed]; first | done | omega)))
    | with_reducible first | apply cd_dec | apply cd_eq | apply cd_ne | apply cd_split
    | ((with_reducible refine And.intro ?hw ?_); (case hw => first | omega | rfl | exact ⟨_, _, rfl⟩ | assumption | (simp only [lN1, lN2, lN3, lN4, lN5, lN6, lN7] <;> omega)))
    | with_reducible intro _)
      all_goals first
        | omega
        | (simp [D.closed, D.er]; done)
theorem power_p (n : Nat) (hn : n ≤ 30) : Pur M 33 [.int .i64 n] (.int .i64 (2 ^ n : Nat)) := by
  refine ok33 rfl ?_
  rw [i33]
  unfold c33
  repeat' (first
    | with_reducible first | apply swp_seq | apply swp_reg | apply swp_regD | apply swp_block | apply swp_exit | apply swp_ret | apply swp_skip | apply swp_cd
    | simp only [go_sem, Nat.reduceAdd, Nat.reduceSub, Nat.reduceMul, Nat.reduceEqDiff, Nat.reduceLeDiff, Nat.reduceLT, Int.reduceEq, Int.reduceNe, Int.reduceLT, Int.reduceLE, Int.reduceAdd, Int.reduceSub, Int.reduceMul, Int.reduceNeg, Int.reduceToNat, Int.reduceTDiv, Int.reduceTMod, Int.reduceBEq, Int.reduceBNe, decide_true, decide_false, reduceCtorEq, reduceIte, P33, q33]
    | simp (disch := omega) only [w64, w32, wu8, wu16, wu32, wu64]
    | with_reducible first | apply cd_dec | apply cd_eq | apply cd_ne | apply cd_split
    | ((with_reducible refine And.intro ?hw ?_); (case hw => first | omega | rfl | exact ⟨_, _, rfl⟩ | assumption | (simp only [lN1, lN2, lN3, lN4, lN5, lN6, lN7] <;> omega)))
    | with_reducible intro _)
  refine swp_fam [0, 1, 2, 3] (fun j : Nat => ⟨[.int .i64 n, .int .i64 0, .int .i64 (2 ^ j : Nat), .int .i64 j, .undef], [], ⟨[], []⟩⟩)
    (fun j => j ≤ n) (fun j => n - j) 0 (by omega) ?_ ?_
  · simp [keepE, St.keep]
  · intro j hj
    have h2 : 2 ^ (j + 1) = 2 * 2 ^ j := by rw [Nat.pow_succ, Nat.mul_comm]
    have h3 : 2 ^ j ≤ 2 ^ 30 := Nat.pow_le_pow_right (by omega) (by omega)
    have h4 : (2 : Nat) ^ 30 = 1073741824 := by decide
    rw [h4] at h3
    by_cases hlt : j < n
    · have e : (2 : Int) * ((2 ^ j : Nat) : Int) = ((2 ^ (j + 1) : Nat) : Int) := by rw [h2]; omega
      generalize 2 ^ (j + 1) = a at *
      generalize hb : 2 ^ j = b at *
      repeat' (first
    | with_reducible first | apply swp_seq | apply swp_reg | apply swp_regD | apply swp_block | apply swp_exit | apply swp_ret | apply swp_skip | apply swp_cd
    | simp only [go_sem, Nat.reduceAdd, Nat.reduceSub, Nat.reduceMul, Nat.reduceEqDiff, Nat.reduceLeDiff, Nat.reduceLT, Int.reduceEq, Int.reduceNe, Int.reduceLT, Int.reduceLE, Int.reduceAdd, Int.reduceSub, Int.reduceMul, Int.reduceNeg, Int.reduceToNat, Int.reduceTDiv, Int.reduceTMod, Int.reduceBEq, Int.reduceBNe, decide_true, decide_false, reduceCtorEq, reduceIte, P33, q33]
    | simp (disch := omega) only [w64, w32, wu8, wu16, wu32, wu64]
    | with_reducible first | apply cd_dec | apply cd_eq | apply cd_ne | apply cd_split
    | ((with_reducible refine And.intro ?hw ?_); (case hw => first | omega | rfl | exact ⟨_, _, rfl⟩ | assumption | (simp only [lN1, lN2, lN3, lN4, lN5, lN6, lN7] <;> omega)))
    | with_reducible intro _)
      all_goals try omega
      refine ⟨j + 1, by omega, by omega, ?_⟩
      have e3 : 2 ^ (j + 1) = 2 * b := by rw [Nat.pow_succ, Nat.mul_comm, hb]
      simp only [keepE, St.keep, e3]
      simp
      try omega
    · have e : j = n := by omega
      subst e
      generalize 2 ^ j = b at *
      repeat' (first
    | with_reducible first | apply swp_seq | apply swp_reg | apply swp_regD | apply swp_block | apply swp_exit | apply swp_ret | apply swp_skip | apply swp_cd
    | simp only [go_sem, Nat.reduceAdd, Nat.reduceSub, Nat.reduceMul, Nat.reduceEqDiff, Nat.reduceLeDiff, Nat.reduceLT, Int.reduceEq, Int.reduceNe, Int.reduceLT, Int.reduceLE, Int.reduceAdd, Int.reduceSub, Int.reduceMul, Int.reduceNeg, Int.reduceToNat, Int.reduceTDiv, Int.reduceTMod, Int.reduceBEq, Int.reduceBNe, decide_true, decide_false, reduceCtorEq, reduceIte, P33, q33]
    | simp (disch := omega) only [w64, w32, wu8, wu16, wu32, wu64]
    | with_reducible first | apply cd_dec | apply cd_eq | apply cd_ne | apply cd_split
    | ((with_reducible refine And.intro ?hw ?_); (case hw => first | omega | rfl | exact ⟨_, _, rfl⟩ | assumption | (simp only [lN1, lN2, lN3, lN4, lN5, lN6, lN7] <;> omega)))
    | with_reducible intro _)
      all_goals first
        | omega
        | (simp [D.closed, D.er]; done)
end Go.Proofs.YtgjkhlnpplajjaaDoor
end
section
set_option maxRecDepth 100000
set_option linter.unusedSimpArgs false
set_option linter.unusedVariables false
namespace Go.Proofs.YtgjkhlnpplajjaaDoor
open Go GoV Go.RowKit
theorem keys_step (s : List UInt8) (n : Nat) : keys s (n + 1) = keys s n ++ [key s n] := by simp [keys, List.range_succ]
set_option maxHeartbeats 1000000 in
theorem rkeys_p (s : List UInt8) (h : Nat) (hs : s.length ≤ 300) (hh : h ≤ 8) : Pur M 29 [.str s, .int .i64 h] (.slice (strs (keys s (2 ^ h))) .no) := by
  refine ok29 rfl ?_
  rw [i29]
  unfold c29
  have h3 : 2 ^ h ≤ 2 ^ 8 := Nat.pow_le_pow_right (by omega) (by omega)
  have h4 : (2 : Nat) ^ 8 = 256 := by decide
  rw [h4] at h3
  have hp := power_p h (by omega)
  generalize 2 ^ h = n at *
  repeat' (first
    | with_reducible first | apply swp_seq | apply swp_reg | apply swp_regD | apply swp_block | apply swp_exit | apply swp_ret | apply swp_skip | apply swp_cd
    | simp only [go_sem, Nat.reduceAdd, Nat.reduceSub, Nat.reduceMul, Nat.reduceEqDiff, Nat.reduceLeDiff, Nat.reduceLT, Int.reduceEq, Int.reduceNe, Int.reduceLT, Int.reduceLE, Int.reduceAdd, Int.reduceSub, Int.reduceMul, Int.reduceNeg, Int.reduceToNat, Int.reduceTDiv, Int.reduceTMod, Int.reduceBEq, Int.reduceBNe, decide_true, decide_false, reduceCtorEq, reduceIte, P29, q29]
    | simp (disch := omega) only [w64, w32, wu8, wu16, wu32, wu64]
    | ((with_reducible apply s_appT); (case he => rfl); (case hK | hc | hr | hV => first | rfl | assumption | omega | ((first | refine ⟨?_, ?_⟩ | skip) <;> first | omega | (simp only [lN1, lN2, lN3, lN4, lN5, lN6, lN7] <;> omega)) | (simp [elemsK, D.isVal, D.cells, D.closedL, D.closed]; first | done | omega)))
    | ((with_reducible apply s_appG); (case he => rfl); (case hV | hK | hr | hl => first | rfl | assumption | omega | ((first | refine ⟨?_, ?_⟩ | skip) <;> first | omega | (simp only [lN1, lN2, lN3, lN4, lN5, lN6, lN7] <;> omega)) | (simp [elemsK, D.isVal, D.cells, D.closedL, D.closed]; first | done | omega)))
    | ((with_reducible apply s_app0); (case he => rfl); (case hK | hc | hr => first | rfl | assumption | omega | ((first | refine ⟨?_, ?_⟩ | skip) <;> first | omega | (simp only [lN1, lN2, lN3, lN4, lN5, lN6, lN7] <;> omega)) | (simp [elemsK, D.isVal, D.cells, D.closedL, D.closed]; first | done | omega)))
    | ((with_reducible apply s_appF); (case he => rfl); (case hK | hc | hr | hx | hn => first | rfl | assumption | omega | ((first | refine ⟨?_, ?_⟩ | skip) <;> first | omega | (simp only [lN1, lN2, lN3, lN4, lN5, lN6, lN7] <;> omega)) | (simp [elemsK, D.isVal, D.cells, D.closedL, D.closed]; first | done | omega)))
    | ((with_reducible apply s_bsl); (case he | hl | hc => first | rfl | assumption | omega | ((first | refine ⟨?_, ?_⟩ | skip) <;> first | omega | (simp only [lN1, lN2, lN3, lN4, lN5, lN6, lN7] <;> omega)) | (simp [elemsK, D.isVal, D.cells, D.closedL, D.closed]; first | done | omega)))
    | with_reducible first | apply cd_dec | apply cd_eq | apply cd_ne | apply cd_split
    | ((with_reducible refine And.intro ?hw ?_); (case hw => first | omega | rfl | exact ⟨_, _, rfl⟩ | assumption | (simp only [lN1, lN2, lN3, lN4, lN5, lN6, lN7] <;> omega)))
    | with_reducible intro _)
  refine swp_weak (weak_new 3 1 (by decide) false rfl) ?_
  refine swp_fam [0, 1, 2, 3, 4] (fun j : Nat => ⟨[.str s, .int .i64 h, .lit (.slice none 0 0), .slice (strs (keys s j)) (.tok 0), .int .i64 j, .undef], [], ⟨[], [.per 1 j]⟩⟩)
    (fun j => j ≤ n) (fun j => n - j) 0 (by omega) ?_ ?_
  · simp [keepE, St.keep, keys]
  · intro j hj
    have hl : (strs (keys s j)).length = j := by rw [strs_len, keys_len]
    by_cases hlt : j < n
    · have h1 := rkey_p s j hs (by omega)
      have h5 := keys_step s j
      generalize key s j = x at *
      repeat' (first
    | with_reducible first | apply swp_seq | apply swp_reg | apply swp_regD | apply swp_block | apply swp_exit | apply swp_ret | apply swp_skip | apply swp_cd
    | simp only [go_sem, Nat.reduceAdd, Nat.reduceSub, Nat.reduceMul, Nat.reduceEqDiff, Nat.reduceLeDiff, Nat.reduceLT, Int.reduceEq, Int.reduceNe, Int.reduceLT, Int.reduceLE, Int.reduceAdd, Int.reduceSub, Int.reduceMul, Int.reduceNeg, Int.reduceToNat, Int.reduceTDiv, Int.reduceTMod, Int.reduceBEq, Int.reduceBNe, decide_true, decide_false, reduceCtorEq, reduceIte, P29, q29]
    | simp (disch := omega) only [w64, w32, wu8, wu16, wu32, wu64]
    | ((with_reducible refine o_call (hp) ?he ?hc ?_); (case he | hc => first | rfl | (simp [D.erL, D.er, D.closedL, D.closed, hl]; done)))
    | ((with_reducible refine o_call (h1) ?he ?hc ?_); (case he | hc => first | rfl | (simp [D.erL, D.er, D.closedL, D.closed, hl]; done)))
    | ((with_reducible apply s_appT); (case he => rfl); (case hK | hc | hr | hV => first | rfl | assumption | omega | ((first | refine ⟨?_, ?_⟩ | skip) <;> first | omega | (simp only [lN1, lN2, lN3, lN4, lN5, lN6, lN7, hl] <;> omega)) | (simp [elemsK, D.isVal, D.cells, D.closedL, D.closed, hl]; first | done | omega)))
    | ((with_reducible apply s_appG); (case he => rfl); (case hV | hK | hr | hl => first | rfl | assumption | omega | ((first | refine ⟨?_, ?_⟩ | skip) <;> first | omega | (simp only [lN1, lN2, lN3, lN4, lN5, lN6, lN7, hl] <;> omega)) | (simp [elemsK, D.isVal, D.cells, D.closedL, D.closed, hl]; first | done | omega)))
    | ((with_reducible apply s_app0); (case he => rfl); (case hK | hc | hr => first | rfl | assumption | omega | ((first | refine ⟨?_, ?_⟩ | skip) <;> first | omega | (simp only [lN1, lN2, lN3, lN4, lN5, lN6, lN7, hl] <;> omega)) | (simp [elemsK, D.isVal, D.cells, D.closedL, D.closed, hl]; first | done | omega)))
    | ((with_reducible apply s_appF); (case he => rfl); (case hK | hc | hr | hx | hn => first | rfl | assumption | omega | ((first | refine ⟨?_, ?_⟩ | skip) <;> first | omega | (simp only [lN1, lN2, lN3, lN4, lN5, lN6, lN7, hl] <;> omega)) | (simp [elemsK, D.isVal, D.cells, D.closedL, D.closed, hl]; first | done | omega)))
    | ((with_reducible apply s_bsl); (case he | hl | hc => first | rfl | assumption | omega | ((first | refine ⟨?_, ?_⟩ | skip) <;> first | omega | (simp only [lN1, lN2, lN3, lN4, lN5, lN6, lN7, hl] <;> omega)) | (simp [elemsK, D.isVal, D.cells, D.closedL, D.closed, hl]; first | done | omega)))
    | with_reducible first | apply cd_dec | apply cd_eq | apply cd_ne | apply cd_split
    | ((with_reducible refine And.intro ?hw ?_); (case hw => first | omega | rfl | exact ⟨_, _, rfl⟩ | assumption | (simp only [lN1, lN2, lN3, lN4, lN5, lN6, lN7, hl] <;> omega)))
    | with_reducible intro _)
      all_goals try omega
      refine ⟨j + 1, by omega, by omega, ?_⟩
      rw [h5, strs_app]
      simp [keepE, St.keep, hl, strs]
      try omega
    · have e : j = n := by omega
      subst e
      have he : D.erL (strs (keys s j)) = strs (keys s j) := by
        have : ∀ l : List (List UInt8), D.erL (strs l) = strs l := by
          intro l
          induction l with
          | nil => rfl
          | cons a l ih => simp only [strs, List.map_cons, D.erL, D.er] at ih ⊢; rw [ih]
        exact this _
      repeat' (first
    | with_reducible first | apply swp_seq | apply swp_reg | apply swp_regD | apply swp_block | apply swp_exit | apply swp_ret | apply swp_skip | apply swp_cd
    | simp only [go_sem, Nat.reduceAdd, Nat.reduceSub, Nat.reduceMul, Nat.reduceEqDiff, Nat.reduceLeDiff, Nat.reduceLT, Int.reduceEq, Int.reduceNe, Int.reduceLT, Int.reduceLE, Int.reduceAdd, Int.reduceSub, Int.reduceMul, Int.reduceNeg, Int.reduceToNat, Int.reduceTDiv, Int.reduceTMod, Int.reduceBEq, Int.reduceBNe, decide_true, decide_false, reduceCtorEq, reduceIte, P29, q29]
    | simp (disch := omega) only [w64, w32, wu8, wu16, wu32, wu64]
    | ((with_reducible refine o_call (hp) ?he ?hc ?_); (case he | hc => first | rfl | (simp [D.erL, D.er, D.closedL, D.closed]; done)))
    | ((with_reducible apply s_appT); (case he => rfl); (case hK | hc | hr | hV => first | rfl | assumption | omega | ((first | refine ⟨?_, ?_⟩ | skip) <;> first | omega | (simp only [lN1, lN2, lN3, lN4, lN5, lN6, lN7] <;> omega)) | (simp [elemsK, D.isVal, D.cells, D.closedL, D.closed]; first | done | omega)))
    | ((with_reducible apply s_appG); (case he => rfl); (case hV | hK | hr | hl => first | rfl | assumption | omega | ((first | refine ⟨?_, ?_⟩ | skip) <;> first | omega | (simp only [lN1, lN2, lN3, lN4, lN5, lN6, lN7] <;> omega)) | (simp [elemsK, D.isVal, D.cells, D.closedL, D.closed]; first | done | omega)))
    | ((with_reducible apply s_app0); (case he => rfl); (case hK | hc | hr => first | rfl | assumption | omega | ((first | refine ⟨?_, ?_⟩ | skip) <;> first | omega | (simp only [lN1, lN2, lN3, lN4, lN5, lN6, lN7] <;> omega)) | (simp [elemsK, D.isVal, D.cells, D.closedL, D.closed]; first | done | omega)))
    | ((with_reducible apply s_appF); (case he => rfl); (case hK | hc | hr | hx | hn => first | rfl | assumption | omega | ((first | refine ⟨?_, ?_⟩ | skip) <;> first | omega | (simp only [lN1, lN2, lN3, lN4, lN5, lN6, lN7] <;> omega)) | (simp [elemsK, D.isVal, D.cells, D.closedL, D.closed]; first | done | omega)))
    | ((with_reducible apply s_bsl); (case he | hl | hc => first | rfl | assumption | omega | ((first | refine ⟨?_, ?_⟩ | skip) <;> first | omega | (simp only [lN1, lN2, lN3, lN4, lN5, lN6, lN7] <;> omega)) | (simp [elemsK, D.isVal, D.cells, D.closedL, D.closed]; first | done | omega)))
    | with_reducible first | apply cd_dec | apply cd_eq | apply cd_ne | apply cd_split
    | ((with_reducible refine And.intro ?hw ?_); (case hw => first | omega | rfl | exact ⟨_, _, rfl⟩ | assumption | (simp only [lN1, lN2, lN3, lN4, lN5, lN6, lN7] <;> omega)))
    | with_reducible intro _)
      all_goals first
        | omega
        | (simp [D.closed, D.er, he]; done)
theorem erL_strs (l : List (List UInt8)) : D.erL (strs l) = strs l := by
  induction l with
  | nil => rfl
  | cons a l ih => simp only [strs, List.map_cons, D.erL, D.er] at ih ⊢; rw [ih]
theorem up_take {l : List (List UInt8)} {j : Nat} (h : 2 * j + 1 < l.length) : (up l).take (j + 1) = (up l).take j ++ [nod (l.getD (2 * j) []) (l.getD (2 * j + 1) [])] := by
  have hl : j < (up l).length := by rw [up_len]; omega
  rw [List.take_succ_eq_append_getElem hl, ← up_get l j h]
  congr 2
  simp [List.getD, hl]
set_option maxHeartbeats 1000000 in
theorem rup_p (l : List (List UInt8)) (hn : l.length ≤ 1000) (hx : ∀ x ∈ l, x.length ≤ 1000) : Pur M 54 [.slice (strs l) .no] (.slice (strs (up l)) .no) := by
  refine ok54 rfl ?_
  rw [i54]
  unfold c54
  repeat' (first
    | with_reducible first | apply swp_seq | apply swp_reg | apply swp_regD | apply swp_block | apply swp_exit | apply swp_ret | apply swp_skip | apply swp_cd
    | simp only [go_sem, Nat.reduceAdd, Nat.reduceSub, Nat.reduceMul, Nat.reduceEqDiff, Nat.reduceLeDiff, Nat.reduceLT, Int.reduceEq, Int.reduceNe, Int.reduceLT, Int.reduceLE, Int.reduceAdd, Int.reduceSub, Int.reduceMul, Int.reduceNeg, Int.reduceToNat, Int.reduceTDiv, Int.reduceTMod, Int.reduceBEq, Int.reduceBNe, decide_true, decide_false, reduceCtorEq, reduceIte, P54, q54]
    | simp (disch := omega) only [w64, w32, wu8, wu16, wu32, wu64]
    | ((with_reducible apply s_appT); (case he => rfl); (case hK | hc | hr | hV => first | rfl | assumption | omega | ((first | refine ⟨?_, ?_⟩ | skip) <;> first | omega | (simp only [lN1, lN2, lN3, lN4, lN5, lN6, lN7] <;> omega)) | (simp [elemsK, D.isVal, D.cells, D.closedL, D.closed]; first | done | omega)))
    | ((with_reducible apply s_appG); (case he => rfl); (case hV | hK | hr | hl => first | rfl | assumption | omega | ((first | refine ⟨?_, ?_⟩ | skip) <;> first | omega | (simp only [lN1, lN2, lN3, lN4, lN5, lN6, lN7] <;> omega)) | (simp [elemsK, D.isVal, D.cells, D.closedL, D.closed]; first | done | omega)))
    | ((with_reducible apply s_app0); (case he => rfl); (case hK | hc | hr => first | rfl | assumption | omega | ((first | refine ⟨?_, ?_⟩ | skip) <;> first | omega | (simp only [lN1, lN2, lN3, lN4, lN5, lN6, lN7] <;> omega)) | (simp [elemsK, D.isVal, D.cells, D.closedL, D.closed]; first | done | omega)))
    | ((with_reducible apply s_appF); (case he => rfl); (case hK | hc | hr | hx | hn => first | rfl | assumption | omega | ((first | refine ⟨?_, ?_⟩ | skip) <;> first | omega | (simp only [lN1, lN2, lN3, lN4, lN5, lN6, lN7] <;> omega)) | (simp [elemsK, D.isVal, D.cells, D.closedL, D.closed]; first | done | omega)))
    | ((with_reducible first | apply s_bsl | apply t_bsl); (case he | hl | hc => first | rfl | assumption | omega | ((first | refine ⟨?_, ?_⟩ | skip) <;> first | omega | (simp only [lN1, lN2, lN3, lN4, lN5, lN6, lN7] <;> omega)) | (simp [elemsK, D.isVal, D.cells, D.closedL, D.closed]; first | done | omega)))
    | with_reducible first | apply cd_dec | apply cd_eq | apply cd_ne | apply cd_split
    | ((with_reducible refine And.intro ?hw ?_); (case hw => first | omega | rfl | exact ⟨_, _, rfl⟩ | assumption | (simp only [lN1, lN2, lN3, lN4, lN5, lN6, lN7] <;> omega)))
    | with_reducible intro _)
  refine swp_weak (weak_new 2 1 (by decide) false rfl) ?_
  refine swp_fam [0, 1, 2, 3] (fun j : Nat => ⟨[.slice (strs l) .no, .lit (.slice none 0 0), .slice (strs ((up l).take j)) (.tok 0), .int .i64 (2 * j : Nat), .undef], [], ⟨[], [.per 1 j]⟩⟩)
    (fun j => j ≤ (up l).length) (fun j => (up l).length - j) 0 (by omega) ?_ ?_
  · simp [keepE, St.keep]
  · intro j hj
    have hul := up_len l
    have hl : (strs ((up l).take j)).length = j := by rw [strs_len, List.length_take]; omega
    have hll : (strs l).length = l.length := strs_len l
    by_cases hlt : 2 * j + 1 < l.length
    · have hg1 := strs_get (l := l) (i := 2 * j) (by omega)
      have hg2 := strs_get (l := l) (i := 2 * j + 1) hlt
      have b1 : (l.getD (2 * j) []).length ≤ 1000 := by
        have : l.getD (2 * j) [] = l[2 * j] := by simp [List.getD, show 2 * j < l.length by omega]
        rw [this]; exact hx _ (List.getElem_mem _)
      have b2 : (l.getD (2 * j + 1) []).length ≤ 1000 := by
        have : l.getD (2 * j + 1) [] = l[2 * j + 1] := by simp [List.getD, hlt]
        rw [this]; exact hx _ (List.getElem_mem _)
      have hst := up_take hlt
      have h1 := rlist_p _ (okL_node b1 b2)
      have e1 : strs [wnode, l.getD (2 * j) [], l.getD (2 * j + 1) []] = [.str [110, 111, 100, 101], .str (l.getD (2 * j) []), .str (l.getD (2 * j + 1) [])] := rfl
      have e3 : sumN (joined [wnode, l.getD (2 * j) [], l.getD (2 * j + 1) []]) = nod (l.getD (2 * j) []) (l.getD (2 * j + 1) []) := rfl
      rw [e1, e3] at h1
      have t1 : ((2 * j : Nat) : Int).toNat = 2 * j := Int.toNat_natCast _
      have t2 : (((2 * j : Nat) : Int) + 1).toNat = 2 * j + 1 := by omega
      generalize nod (l.getD (2 * j) []) (l.getD (2 * j + 1) []) = x at *
      generalize l.getD (2 * j) [] = a at *
      generalize l.getD (2 * j + 1) [] = b at *
      repeat' (first
    | with_reducible first | apply swp_seq | apply swp_reg | apply swp_regD | apply swp_block | apply swp_exit | apply swp_ret | apply swp_skip | apply swp_cd
    | simp only [go_sem, Nat.reduceAdd, Nat.reduceSub, Nat.reduceMul, Nat.reduceEqDiff, Nat.reduceLeDiff, Nat.reduceLT, Int.reduceEq, Int.reduceNe, Int.reduceLT, Int.reduceLE, Int.reduceAdd, Int.reduceSub, Int.reduceMul, Int.reduceNeg, Int.reduceToNat, Int.reduceTDiv, Int.reduceTMod, Int.reduceBEq, Int.reduceBNe, decide_true, decide_false, reduceCtorEq, reduceIte, P54, q54, t1, t2, hg1, hg2, hll]
    | simp (disch := omega) only [w64, w32, wu8, wu16, wu32, wu64]
    | ((with_reducible first | refine o_call (h1) ?he ?hc ?_ | refine p_call (h1) ?he ?hc ?_ | refine c_call (h1) ?he ?hc ?_); (case he | hc => first | rfl | (simp [D.erL, D.er, D.closedL, D.closed, hl, hll]; done)))
    | ((with_reducible apply s_appT); (case he => rfl); (case hK | hc | hr | hV => first | rfl | assumption | omega | ((first | refine ⟨?_, ?_⟩ | skip) <;> first | omega | (simp only [lN1, lN2, lN3, lN4, lN5, lN6, lN7, hl, hll] <;> omega)) | (simp [elemsK, D.isVal, D.cells, D.closedL, D.closed, hl, hll]; first | done | omega)))
    | ((with_reducible apply s_appG); (case he => rfl); (case hV | hK | hr | hl => first | rfl | assumption | omega | ((first | refine ⟨?_, ?_⟩ | skip) <;> first | omega | (simp only [lN1, lN2, lN3, lN4, lN5, lN6, lN7, hl, hll] <;> omega)) | (simp [elemsK, D.isVal, D.cells, D.closedL, D.closed, hl, hll]; first | done | omega)))
    | ((with_reducible apply s_app0); (case he => rfl); (case hK | hc | hr => first | rfl | assumption | omega | ((first | refine ⟨?_, ?_⟩ | skip) <;> first | omega | (simp only [lN1, lN2, lN3, lN4, lN5, lN6, lN7, hl, hll] <;> omega)) | (simp [elemsK, D.isVal, D.cells, D.closedL, D.closed, hl, hll]; first | done | omega)))
    | ((with_reducible apply s_appF); (case he => rfl); (case hK | hc | hr | hx | hn => first | rfl | assumption | omega | ((first | refine ⟨?_, ?_⟩ | skip) <;> first | omega | (simp only [lN1, lN2, lN3, lN4, lN5, lN6, lN7, hl, hll] <;> omega)) | (simp [elemsK, D.isVal, D.cells, D.closedL, D.closed, hl, hll]; first | done | omega)))
    | ((with_reducible first | apply s_bsl | apply t_bsl); (case he | hl | hc => first | rfl | assumption | omega | ((first | refine ⟨?_, ?_⟩ | skip) <;> first | omega | (simp only [lN1, lN2, lN3, lN4, lN5, lN6, lN7, hl, hll] <;> omega)) | (simp [elemsK, D.isVal, D.cells, D.closedL, D.closed, hl, hll]; first | done | omega)))
    | with_reducible first | apply cd_dec | apply cd_eq | apply cd_ne | apply cd_split
    | ((with_reducible refine And.intro ?hw ?_); (case hw => first | omega | rfl | exact ⟨_, _, rfl⟩ | assumption | (simp only [lN1, lN2, lN3, lN4, lN5, lN6, lN7, hl, hll] <;> omega)))
    | with_reducible intro _)
      all_goals try omega
      refine ⟨j + 1, by omega, by omega, ?_⟩
      rw [hst, strs_app]
      simp [keepE, St.keep, hl, strs]
      try omega
    · have e : j = (up l).length := by omega
      subst e
      rw [List.take_length]
      have he := erL_strs (up l)
      repeat' (first
    | with_reducible first | apply swp_seq | apply swp_reg | apply swp_regD | apply swp_block | apply swp_exit | apply swp_ret | apply swp_skip | apply swp_cd
    | simp only [go_sem, Nat.reduceAdd, Nat.reduceSub, Nat.reduceMul, Nat.reduceEqDiff, Nat.reduceLeDiff, Nat.reduceLT, Int.reduceEq, Int.reduceNe, Int.reduceLT, Int.reduceLE, Int.reduceAdd, Int.reduceSub, Int.reduceMul, Int.reduceNeg, Int.reduceToNat, Int.reduceTDiv, Int.reduceTMod, Int.reduceBEq, Int.reduceBNe, decide_true, decide_false, reduceCtorEq, reduceIte, P54, q54, hll]
    | simp (disch := omega) only [w64, w32, wu8, wu16, wu32, wu64]
    | ((with_reducible apply s_appT); (case he => rfl); (case hK | hc | hr | hV => first | rfl | assumption | omega | ((first | refine ⟨?_, ?_⟩ | skip) <;> first | omega | (simp only [lN1, lN2, lN3, lN4, lN5, lN6, lN7, hll] <;> omega)) | (simp [elemsK, D.isVal, D.cells, D.closedL, D.closed, hll]; first | done | omega)))
    | ((with_reducible apply s_appG); (case he => rfl); (case hV | hK | hr | hl => first | rfl | assumption | omega | ((first | refine ⟨?_, ?_⟩ | skip) <;> first | omega | (simp only [lN1, lN2, lN3, lN4, lN5, lN6, lN7, hll] <;> omega)) | (simp [elemsK, D.isVal, D.cells, D.closedL, D.closed, hll]; first | done | omega)))
    | ((with_reducible apply s_app0); (case he => rfl); (case hK | hc | hr => first | rfl | assumption | omega | ((first | refine ⟨?_, ?_⟩ | skip) <;> first | omega | (simp only [lN1, lN2, lN3, lN4, lN5, lN6, lN7, hll] <;> omega)) | (simp [elemsK, D.isVal, D.cells, D.closedL, D.closed, hll]; first | done | omega)))
    | ((with_reducible apply s_appF); (case he => rfl); (case hK | hc | hr | hx | hn => first | rfl | assumption | omega | ((first | refine ⟨?_, ?_⟩ | skip) <;> first | omega | (simp only [lN1, lN2, lN3, lN4, lN5, lN6, lN7, hll] <;> omega)) | (simp [elemsK, D.isVal, D.cells, D.closedL, D.closed, hll]; first | done | omega)))
    | ((with_reducible first | apply s_bsl | apply t_bsl); (case he | hl | hc => first | rfl | assumption | omega | ((first | refine ⟨?_, ?_⟩ | skip) <;> first | omega | (simp only [lN1, lN2, lN3, lN4, lN5, lN6, lN7, hll] <;> omega)) | (simp [elemsK, D.isVal, D.cells, D.closedL, D.closed, hll]; first | done | omega)))
    | with_reducible first | apply cd_dec | apply cd_eq | apply cd_ne | apply cd_split
    | ((with_reducible refine And.intro ?hw ?_); (case hw => first | omega | rfl | exact ⟨_, _, rfl⟩ | assumption | (simp only [lN1, lN2, lN3, lN4, lN5, lN6, lN7, hll] <;> omega)))
    | with_reducible intro _)
      all_goals first
        | omega
        | (simp [D.closed, D.er, he]; done)
end Go.Proofs.YtgjkhlnpplajjaaDoor
end
section
set_option maxRecDepth 100000
set_option linter.unusedSimpArgs false
set_option linter.unusedVariables false
namespace Go.Proofs.YtgjkhlnpplajjaaDoor
open Go GoV Go.RowKit
theorem rparent_p (a b : List UInt8) (back : Bool) (ha : a.length ≤ 1000) (hb : b.length ≤ 1000) : Pur M 45 [.str a, .str b, .bool back] (.str (par a b back)) := by
  refine ok45 rfl ?_
  rw [i45]
  unfold c45
  have h1 := rlist_p _ (okL_node ha hb)
  have h2 := rlist_p _ (okL_node hb ha)
  have e1 : strs [wnode, a, b] = [.str [110, 111, 100, 101], .str a, .str b] := rfl
  have e2 : strs [wnode, b, a] = [.str [110, 111, 100, 101], .str b, .str a] := rfl
  rw [e1] at h1
  rw [e2] at h2
  have e3 : sumN (joined [wnode, a, b]) = nod a b := rfl
  have e4 : sumN (joined [wnode, b, a]) = nod b a := rfl
  rw [e3] at h1
  rw [e4] at h2
  cases back
  · have e : par a b false = nod a b := rfl
    rw [e]
    repeat' (first
    | with_reducible first | apply swp_seq | apply swp_reg | apply swp_regD | apply swp_block | apply swp_exit | apply swp_ret | apply swp_skip | apply swp_cd
    | simp only [go_sem, Nat.reduceAdd, Nat.reduceSub, Nat.reduceMul, Nat.reduceEqDiff, Nat.reduceLeDiff, Nat.reduceLT, Int.reduceEq, Int.reduceNe, Int.reduceLT, Int.reduceLE, Int.reduceAdd, Int.reduceSub, Int.reduceMul, Int.reduceNeg, Int.reduceToNat, Int.reduceTDiv, Int.reduceTMod, Int.reduceBEq, Int.reduceBNe, decide_true, decide_false, reduceCtorEq, reduceIte, P45, q45]
    | simp (disch := omega) only [w64, w32, wu8, wu16, wu32, wu64]
    | ((with_reducible refine o_call (h1) ?he ?hc ?_); (case he | hc => first | rfl | (simp [D.erL, D.er, D.closedL, D.closed]; done)))
    | ((with_reducible apply s_bsl); (case he | hl | hc => first | rfl | assumption | omega | ((first | refine ⟨?_, ?_⟩ | skip) <;> first | omega | (simp only [lN1, lN2, lN3, lN4, lN5, lN6, lN7] <;> omega)) | (simp [elemsK, D.isVal, D.cells, D.closedL, D.closed]; first | done | omega)))
    | with_reducible first | apply cd_dec | apply cd_eq | apply cd_ne | apply cd_split
    | ((with_reducible refine And.intro ?hw ?_); (case hw => first | omega | rfl | exact ⟨_, _, rfl⟩ | assumption | (simp only [lN1, lN2, lN3, lN4, lN5, lN6, lN7] <;> omega)))
    | with_reducible intro _)
    all_goals first
      | omega
      | (simp [D.closed, D.er]; done)
  · have e : par a b true = nod b a := rfl
    rw [e]
    repeat' (first
    | with_reducible first | apply swp_seq | apply swp_reg | apply swp_regD | apply swp_block | apply swp_exit | apply swp_ret | apply swp_skip | apply swp_cd
    | simp only [go_sem, Nat.reduceAdd, Nat.reduceSub, Nat.reduceMul, Nat.reduceEqDiff, Nat.reduceLeDiff, Nat.reduceLT, Int.reduceEq, Int.reduceNe, Int.reduceLT, Int.reduceLE, Int.reduceAdd, Int.reduceSub, Int.reduceMul, Int.reduceNeg, Int.reduceToNat, Int.reduceTDiv, Int.reduceTMod, Int.reduceBEq, Int.reduceBNe, decide_true, decide_false, reduceCtorEq, reduceIte, P45, q45]
    | simp (disch := omega) only [w64, w32, wu8, wu16, wu32, wu64]
    | ((with_reducible refine o_call (h2) ?he ?hc ?_); (case he | hc => first | rfl | (simp [D.erL, D.er, D.closedL, D.closed]; done)))
    | ((with_reducible apply s_bsl); (case he | hl | hc => first | rfl | assumption | omega | ((first | refine ⟨?_, ?_⟩ | skip) <;> first | omega | (simp only [lN1, lN2, lN3, lN4, lN5, lN6, lN7] <;> omega)) | (simp [elemsK, D.isVal, D.cells, D.closedL, D.closed]; first | done | omega)))
    | with_reducible first | apply cd_dec | apply cd_eq | apply cd_ne | apply cd_split
    | ((with_reducible refine And.intro ?hw ?_); (case hw => first | omega | rfl | exact ⟨_, _, rfl⟩ | assumption | (simp only [lN1, lN2, lN3, lN4, lN5, lN6, lN7] <;> omega)))
    | with_reducible intro _)
    all_goals first
      | omega
      | (simp [D.closed, D.er]; done)
theorem up_small (l : List (List UInt8)) : ∀ x ∈ up l, x.length ≤ 1000 := by
  intro x hx
  have := up_is l x hx
  unfold isD at this
  simp only [Bool.and_eq_true, decide_eq_true_eq] at this
  omega
set_option maxHeartbeats 1000000 in
theorem rroot_p (h : Nat) (l : List (List UInt8)) (hh : h ≤ 8) (hl : l.length = 2 ^ h) (hx : ∀ x ∈ l, x.length ≤ 1000) : Pur M 28 [.slice (strs l) .no] (.str (rootL l)) := by
  refine ok28 rfl ?_
  rw [i28]
  unfold c28
  repeat' (first
    | with_reducible first | apply swp_seq | apply swp_reg | apply swp_regD | apply swp_block | apply swp_exit | apply swp_ret | apply swp_skip | apply swp_cd
    | simp only [go_sem, Nat.reduceAdd, Nat.reduceSub, Nat.reduceMul, Nat.reduceEqDiff, Nat.reduceLeDiff, Nat.reduceLT, Int.reduceEq, Int.reduceNe, Int.reduceLT, Int.reduceLE, Int.reduceAdd, Int.reduceSub, Int.reduceMul, Int.reduceNeg, Int.reduceToNat, Int.reduceTDiv, Int.reduceTMod, Int.reduceBEq, Int.reduceBNe, decide_true, decide_false, reduceCtorEq, reduceIte, P28, q28]
    | simp (disch := omega) only [w64, w32, wu8, wu16, wu32, wu64]
    | with_reducible first | apply cd_dec | apply cd_eq | apply cd_ne | apply cd_split
    | ((with_reducible refine And.intro ?hw ?_); (case hw => first | omega | rfl | exact ⟨_, _, rfl⟩ | assumption | (simp only [lN1, lN2, lN3, lN4, lN5, lN6, lN7] <;> omega)))
    | with_reducible intro _)
  refine swp_fam [0, 1] (fun p : Nat × List (List UInt8) => ⟨[.slice (strs p.2) .no, .str [], .undef], [], ⟨[], []⟩⟩)
    (fun p => p.1 ≤ 8 ∧ p.2.length = 2 ^ p.1 ∧ (∀ x ∈ p.2, x.length ≤ 1000) ∧ rootL p.2 = rootL l) (fun p => p.1) (h, l) ⟨hh, hl, hx, rfl⟩ ?_ ?_
  · simp [keepE, St.keep]
  · rintro ⟨n, u⟩ ⟨g0, g1, g2, g3⟩
    simp only at g0 g1 g2 g3 ⊢
    have hul : (strs u).length = u.length := strs_len u
    have hp : 2 ^ n ≤ 2 ^ 8 := Nat.pow_le_pow_right (by omega) g0
    have h4 : (2 : Nat) ^ 8 = 256 := by decide
    rw [h4] at hp
    rcases n with _ | n
    · have hu1 : u.length = 1 := by simpa using g1
      have hg := strs_get (l := u) (i := 0) (by omega)
      have hr := rootL_one (l := u) (by omega)
      rw [← g3, hr]
      have t1 : (0 : Int).toNat = 0 := rfl
      generalize u.getD 0 [] = x at *
      repeat' (first
    | with_reducible first | apply swp_seq | apply swp_reg | apply swp_regD | apply swp_block | apply swp_exit | apply swp_ret | apply swp_skip | apply swp_cd
    | simp only [go_sem, Nat.reduceAdd, Nat.reduceSub, Nat.reduceMul, Nat.reduceEqDiff, Nat.reduceLeDiff, Nat.reduceLT, Int.reduceEq, Int.reduceNe, Int.reduceLT, Int.reduceLE, Int.reduceAdd, Int.reduceSub, Int.reduceMul, Int.reduceNeg, Int.reduceToNat, Int.reduceTDiv, Int.reduceTMod, Int.reduceBEq, Int.reduceBNe, decide_true, decide_false, reduceCtorEq, reduceIte, P28, q28, hul, t1, hg]
    | simp (disch := omega) only [w64, w32, wu8, wu16, wu32, wu64]
    | with_reducible first | apply cd_dec | apply cd_eq | apply cd_ne | apply cd_split
    | ((with_reducible refine And.intro ?hw ?_); (case hw => first | omega | rfl | exact ⟨_, _, rfl⟩ | assumption | (simp only [lN1, lN2, lN3, lN4, lN5, lN6, lN7, hul] <;> omega)))
    | with_reducible intro _)
      all_goals first
        | omega
        | (simp [D.closed, D.er]; done)
    · have h2 : 2 ^ (n + 1) = 2 * 2 ^ n := by rw [Nat.pow_succ, Nat.mul_comm]
      have hp2 : 0 < 2 ^ n := Nat.pow_pos (by omega)
      have h1 := rup_p u (by omega) g2
      have hr := rootL_up (l := u) (by omega)
      have hle := up_len u
      repeat' (first
    | with_reducible first | apply swp_seq | apply swp_reg | apply swp_regD | apply swp_block | apply swp_exit | apply swp_ret | apply swp_skip | apply swp_cd
    | simp only [go_sem, Nat.reduceAdd, Nat.reduceSub, Nat.reduceMul, Nat.reduceEqDiff, Nat.reduceLeDiff, Nat.reduceLT, Int.reduceEq, Int.reduceNe, Int.reduceLT, Int.reduceLE, Int.reduceAdd, Int.reduceSub, Int.reduceMul, Int.reduceNeg, Int.reduceToNat, Int.reduceTDiv, Int.reduceTMod, Int.reduceBEq, Int.reduceBNe, decide_true, decide_false, reduceCtorEq, reduceIte, P28, q28, hul]
    | simp (disch := omega) only [w64, w32, wu8, wu16, wu32, wu64]
    | ((with_reducible refine o_call (h1) ?he ?hc ?_); (case he | hc => first | rfl | (simp [D.erL, D.er, D.closedL, D.closed, hul]; done)))
    | with_reducible first | apply cd_dec | apply cd_eq | apply cd_ne | apply cd_split
    | ((with_reducible refine And.intro ?hw ?_); (case hw => first | omega | rfl | exact ⟨_, _, rfl⟩ | assumption | (simp only [lN1, lN2, lN3, lN4, lN5, lN6, lN7, hul] <;> omega)))
    | with_reducible intro _)
      all_goals try omega
      refine ⟨(n, up u), ⟨by simp only; omega, by simp only; omega, up_small u, by simp only; rw [← g3, hr]⟩, by simp only; omega, ?_⟩
      simp [keepE, St.keep]
end Go.Proofs.YtgjkhlnpplajjaaDoor
end
section
set_option maxRecDepth 100000
set_option linter.unusedSimpArgs false
set_option linter.unusedVariables false
namespace Go.Proofs.YtgjkhlnpplajjaaDoor
open Go GoV Go.RowKit
set_option maxHeartbeats 1000000 in
theorem rpath_p (h : Nat) (l : List (List UInt8)) (i : Nat) (hh : h ≤ 8) (hl : l.length = 2 ^ h) (hi : i < 2 ^ h) (hx : ∀ x ∈ l, x.length ≤ 1000) : Pur M 37 [.slice (strs l) .no, .int .i64 i] (.slice (strs (pathL l i)) .no) := by
  refine ok37 rfl ?_
  rw [i37]
  unfold c37
  repeat' (first
    | with_reducible first | apply swp_seq | apply swp_reg | apply swp_regD | apply swp_block | apply swp_exit | apply swp_ret | apply swp_skip | apply swp_cd
    | simp only [go_sem, Nat.reduceAdd, Nat.reduceSub, Nat.reduceMul, Nat.reduceEqDiff, Nat.reduceLeDiff, Nat.reduceLT, Int.reduceEq, Int.reduceNe, Int.reduceLT, Int.reduceLE, Int.reduceAdd, Int.reduceSub, Int.reduceMul, Int.reduceNeg, Int.reduceToNat, Int.reduceTDiv, Int.reduceTMod, Int.reduceBEq, Int.reduceBNe, decide_true, decide_false, reduceCtorEq, reduceIte, P37, q37]
    | simp (disch := omega) only [w64, w32, wu8, wu16, wu32, wu64]
    | ((with_reducible apply s_appT); (case he => rfl); (case hK | hc | hr | hV => first | rfl | assumption | omega | ((first | refine ⟨?_, ?_⟩ | skip) <;> first | omega | (simp only [lN1, lN2, lN3, lN4, lN5, lN6, lN7] <;> omega)) | (simp [elemsK, D.isVal, D.cells, D.closedL, D.closed]; first | done | omega)))
    | ((with_reducible apply s_appG); (case he => rfl); (case hV | hK | hr | hl => first | rfl | assumption | omega | ((first | refine ⟨?_, ?_⟩ | skip) <;> first | omega | (simp only [lN1, lN2, lN3, lN4, lN5, lN6, lN7] <;> omega)) | (simp [elemsK, D.isVal, D.cells, D.closedL, D.closed]; first | done | omega)))
    | ((with_reducible apply s_app0); (case he => rfl); (case hK | hc | hr => first | rfl | assumption | omega | ((first | refine ⟨?_, ?_⟩ | skip) <;> first | omega | (simp only [lN1, lN2, lN3, lN4, lN5, lN6, lN7] <;> omega)) | (simp [elemsK, D.isVal, D.cells, D.closedL, D.closed]; first | done | omega)))
    | ((with_reducible apply s_appF); (case he => rfl); (case hK | hc | hr | hx | hn => first | rfl | assumption | omega | ((first | refine ⟨?_, ?_⟩ | skip) <;> first | omega | (simp only [lN1, lN2, lN3, lN4, lN5, lN6, lN7] <;> omega)) | (simp [elemsK, D.isVal, D.cells, D.closedL, D.closed]; first | done | omega)))
    | ((with_reducible apply s_bsl); (case he | hl | hc => first | rfl | assumption | omega | ((first | refine ⟨?_, ?_⟩ | skip) <;> first | omega | (simp only [lN1, lN2, lN3, lN4, lN5, lN6, lN7] <;> omega)) | (simp [elemsK, D.isVal, D.cells, D.closedL, D.closed]; first | done | omega)))
    | with_reducible first | apply cd_dec | apply cd_eq | apply cd_ne | apply cd_split
    | ((with_reducible refine And.intro ?hw ?_); (case hw => first | omega | rfl | exact ⟨_, _, rfl⟩ | assumption | (simp only [lN1, lN2, lN3, lN4, lN5, lN6, lN7] <;> omega)))
    | with_reducible intro _)
  refine swp_weak (weak_new 3 1 (by decide) false rfl) ?_
  refine swp_fam [0, 1, 2, 3] (fun p : Nat × List (List UInt8) × Nat × List (List UInt8) => ⟨[.slice (strs p.2.1) .no, .int .i64 p.2.2.1, .lit (.slice none 0 0), .slice (strs p.2.2.2) (.tok 0), .undef, .undef], [], ⟨[], [.per 1 p.2.2.2.length]⟩⟩)
    (fun p => p.1 ≤ 8 ∧ p.2.1.length = 2 ^ p.1 ∧ p.2.2.1 < 2 ^ p.1 ∧ (∀ x ∈ p.2.1, x.length ≤ 1000) ∧ p.2.2.2.length + p.1 ≤ 8 ∧ p.2.2.2 ++ pathL p.2.1 p.2.2.1 = pathL l i) (fun p => p.1) (h, l, i, []) ⟨hh, hl, hi, hx, by simpa using hh, by simp⟩ ?_ ?_
  · simp [keepE, St.keep]
  · rintro ⟨n, u, k, acc⟩ ⟨g0, g1, g2, g3, g5, g4⟩
    simp only at g0 g1 g2 g3 g4 g5 ⊢
    have hul : (strs u).length = u.length := strs_len u
    have hal : (strs acc).length = acc.length := strs_len acc
    have hp : 2 ^ n ≤ 2 ^ 8 := Nat.pow_le_pow_right (by omega) g0
    have h4 : (2 : Nat) ^ 8 = 256 := by decide
    rw [h4] at hp
    rcases n with _ | n
    · have hu1 : u.length = 1 := by simpa using g1
      have hr := pathL_one (l := u) (i := k) (by omega)
      rw [hr, List.append_nil] at g4
      rw [← g4]
      have he := erL_strs acc
      repeat' (first
    | with_reducible first | apply swp_seq | apply swp_reg | apply swp_regD | apply swp_block | apply swp_exit | apply swp_ret | apply swp_skip | apply swp_cd
    | simp only [go_sem, Nat.reduceAdd, Nat.reduceSub, Nat.reduceMul, Nat.reduceEqDiff, Nat.reduceLeDiff, Nat.reduceLT, Int.reduceEq, Int.reduceNe, Int.reduceLT, Int.reduceLE, Int.reduceAdd, Int.reduceSub, Int.reduceMul, Int.reduceNeg, Int.reduceToNat, Int.reduceTDiv, Int.reduceTMod, Int.reduceBEq, Int.reduceBNe, decide_true, decide_false, reduceCtorEq, reduceIte, P37, q37, hul]
    | simp (disch := omega) only [w64, w32, wu8, wu16, wu32, wu64]
    | ((with_reducible apply s_appT); (case he => rfl); (case hK | hc | hr | hV => first | rfl | assumption | omega | ((first | refine ⟨?_, ?_⟩ | skip) <;> first | omega | (simp only [lN1, lN2, lN3, lN4, lN5, lN6, lN7, hul] <;> omega)) | (simp [elemsK, D.isVal, D.cells, D.closedL, D.closed, hul]; first | done | omega)))
    | ((with_reducible apply s_appG); (case he => rfl); (case hV | hK | hr | hl => first | rfl | assumption | omega | ((first | refine ⟨?_, ?_⟩ | skip) <;> first | omega | (simp only [lN1, lN2, lN3, lN4, lN5, lN6, lN7, hul] <;> omega)) | (simp [elemsK, D.isVal, D.cells, D.closedL, D.closed, hul]; first | done | omega)))
    | ((with_reducible apply s_app0); (case he => rfl); (case hK | hc | hr => first | rfl | assumption | omega | ((first | refine ⟨?_, ?_⟩ | skip) <;> first | omega | (simp only [lN1, lN2, lN3, lN4, lN5, lN6, lN7, hul] <;> omega)) | (simp [elemsK, D.isVal, D.cells, D.closedL, D.closed, hul]; first | done | omega)))
    | ((with_reducible apply s_appF); (case he => rfl); (case hK | hc | hr | hx | hn => first | rfl | assumption | omega | ((first | refine ⟨?_, ?_⟩ | skip) <;> first | omega | (simp only [lN1, lN2, lN3, lN4, lN5, lN6, lN7, hul] <;> omega)) | (simp [elemsK, D.isVal, D.cells, D.closedL, D.closed, hul]; first | done | omega)))
    | ((with_reducible apply s_bsl); (case he | hl | hc => first | rfl | assumption | omega | ((first | refine ⟨?_, ?_⟩ | skip) <;> first | omega | (simp only [lN1, lN2, lN3, lN4, lN5, lN6, lN7, hul] <;> omega)) | (simp [elemsK, D.isVal, D.cells, D.closedL, D.closed, hul]; first | done | omega)))
    | with_reducible first | apply cd_dec | apply cd_eq | apply cd_ne | apply cd_split
    | ((with_reducible refine And.intro ?hw ?_); (case hw => first | omega | rfl | exact ⟨_, _, rfl⟩ | assumption | (simp only [lN1, lN2, lN3, lN4, lN5, lN6, lN7, hul] <;> omega)))
    | with_reducible intro _)
      all_goals first
        | omega
        | (simp [D.closed, D.er, he]; done)
    · have h2 : 2 ^ (n + 1) = 2 * 2 ^ n := by rw [Nat.pow_succ, Nat.mul_comm]
      have hp2 : 0 < 2 ^ n := Nat.pow_pos (by omega)
      have h1 := rup_p u (by omega) g3
      have hr := pathL_up (l := u) (i := k) (by omega)
      have hle := up_len u
      have t1 : (k : Int).tmod 2 = ((k % 2 : Nat) : Int) := by rw [Int.tmod_eq_emod_of_nonneg (by omega)]; omega
      have t2 : (k : Int).tdiv 2 = ((k / 2 : Nat) : Int) := by rw [Int.tdiv_eq_ediv_of_nonneg (by omega)]; omega
      by_cases e : k % 2 = 0
      · rw [if_pos e] at hr
        have hg := strs_get (l := u) (i := k + 1) (by omega)
        have t3 : ((k : Int) + 1).toNat = k + 1 := by omega
        have hz : ((k % 2 : Nat) : Int) = 0 := by omega
        generalize hv : u.getD (k + 1) [] = x at *
        repeat' (first
    | with_reducible first | apply swp_seq | apply swp_reg | apply swp_regD | apply swp_block | apply swp_exit | apply swp_ret | apply swp_skip | apply swp_cd
    | simp only [go_sem, Nat.reduceAdd, Nat.reduceSub, Nat.reduceMul, Nat.reduceEqDiff, Nat.reduceLeDiff, Nat.reduceLT, Int.reduceEq, Int.reduceNe, Int.reduceLT, Int.reduceLE, Int.reduceAdd, Int.reduceSub, Int.reduceMul, Int.reduceNeg, Int.reduceToNat, Int.reduceTDiv, Int.reduceTMod, Int.reduceBEq, Int.reduceBNe, decide_true, decide_false, reduceCtorEq, reduceIte, P37, q37, hul, t1, t2, t3, hz, hg]
    | simp (disch := omega) only [w64, w32, wu8, wu16, wu32, wu64]
    | ((with_reducible refine o_call (h1) ?he ?hc ?_); (case he | hc => first | rfl | (simp [D.erL, D.er, D.closedL, D.closed, hul, hal]; done)))
    | ((with_reducible apply s_appT); (case he => rfl); (case hK | hc | hr | hV => first | rfl | assumption | omega | ((first | refine ⟨?_, ?_⟩ | skip) <;> first | omega | (simp only [lN1, lN2, lN3, lN4, lN5, lN6, lN7, hul, hal] <;> omega)) | (simp [elemsK, D.isVal, D.cells, D.closedL, D.closed, hul, hal]; first | done | omega)))
    | ((with_reducible apply s_appG); (case he => rfl); (case hV | hK | hr | hl => first | rfl | assumption | omega | ((first | refine ⟨?_, ?_⟩ | skip) <;> first | omega | (simp only [lN1, lN2, lN3, lN4, lN5, lN6, lN7, hul, hal] <;> omega)) | (simp [elemsK, D.isVal, D.cells, D.closedL, D.closed, hul, hal]; first | done | omega)))
    | ((with_reducible apply s_app0); (case he => rfl); (case hK | hc | hr => first | rfl | assumption | omega | ((first | refine ⟨?_, ?_⟩ | skip) <;> first | omega | (simp only [lN1, lN2, lN3, lN4, lN5, lN6, lN7, hul, hal] <;> omega)) | (simp [elemsK, D.isVal, D.cells, D.closedL, D.closed, hul, hal]; first | done | omega)))
    | ((with_reducible apply s_appF); (case he => rfl); (case hK | hc | hr | hx | hn => first | rfl | assumption | omega | ((first | refine ⟨?_, ?_⟩ | skip) <;> first | omega | (simp only [lN1, lN2, lN3, lN4, lN5, lN6, lN7, hul, hal] <;> omega)) | (simp [elemsK, D.isVal, D.cells, D.closedL, D.closed, hul, hal]; first | done | omega)))
    | ((with_reducible apply s_bsl); (case he | hl | hc => first | rfl | assumption | omega | ((first | refine ⟨?_, ?_⟩ | skip) <;> first | omega | (simp only [lN1, lN2, lN3, lN4, lN5, lN6, lN7, hul, hal] <;> omega)) | (simp [elemsK, D.isVal, D.cells, D.closedL, D.closed, hul, hal]; first | done | omega)))
    | with_reducible first | apply cd_dec | apply cd_eq | apply cd_ne | apply cd_split
    | ((with_reducible refine And.intro ?hw ?_); (case hw => first | omega | rfl | exact ⟨_, _, rfl⟩ | assumption | (simp only [lN1, lN2, lN3, lN4, lN5, lN6, lN7, hul, hal] <;> omega)))
    | with_reducible intro _)
        all_goals try omega
        refine ⟨(n, up u, k / 2, acc ++ [x]), ⟨by simp only; omega, by simp only; omega, by simp only; omega, up_small u, by simp only [List.length_append, List.length_cons, List.length_nil]; omega, by simp only; rw [← g4, hr]; simp⟩, by simp only; omega, ?_⟩
        simp [keepE, St.keep, strs]
        try omega
      · rw [if_neg e] at hr
        have hg := strs_get (l := u) (i := k - 1) (by omega)
        have t3 : ((k : Int) - 1).toNat = k - 1 := by omega
        have hz : ((k % 2 : Nat) : Int) = 1 := by omega
        generalize hv : u.getD (k - 1) [] = x at *
        repeat' (first
    | with_reducible first | apply swp_seq | apply swp_reg | apply swp_regD | apply swp_block | apply swp_exit | apply swp_ret | apply swp_skip | apply swp_cd
    | simp only [go_sem, Nat.reduceAdd, Nat.reduceSub, Nat.reduceMul, Nat.reduceEqDiff, Nat.reduceLeDiff, Nat.reduceLT, Int.reduceEq, Int.reduceNe, Int.reduceLT, Int.reduceLE, Int.reduceAdd, Int.reduceSub, Int.reduceMul, Int.reduceNeg, Int.reduceToNat, Int.reduceTDiv, Int.reduceTMod, Int.reduceBEq, Int.reduceBNe, decide_true, decide_false, reduceCtorEq, reduceIte, P37, q37, hul, t1, t2, t3, hz, hg]
    | simp (disch := omega) only [w64, w32, wu8, wu16, wu32, wu64]
    | ((with_reducible refine o_call (h1) ?he ?hc ?_); (case he | hc => first | rfl | (simp [D.erL, D.er, D.closedL, D.closed, hul, hal]; done)))
    | ((with_reducible apply s_appT); (case he => rfl); (case hK | hc | hr | hV => first | rfl | assumption | omega | ((first | refine ⟨?_, ?_⟩ | skip) <;> first | omega | (simp only [lN1, lN2, lN3, lN4, lN5, lN6, lN7, hul, hal] <;> omega)) | (simp [elemsK, D.isVal, D.cells, D.closedL, D.closed, hul, hal]; first | done | omega)))
    | ((with_reducible apply s_appG); (case he => rfl); (case hV | hK | hr | hl => first | rfl | assumption | omega | ((first | refine ⟨?_, ?_⟩ | skip) <;> first | omega | (simp only [lN1, lN2, lN3, lN4, lN5, lN6, lN7, hul, hal] <;> omega)) | (simp [elemsK, D.isVal, D.cells, D.closedL, D.closed, hul, hal]; first | done | omega)))
    | ((with_reducible apply s_app0); (case he => rfl); (case hK | hc | hr => first | rfl | assumption | omega | ((first | refine ⟨?_, ?_⟩ | skip) <;> first | omega | (simp only [lN1, lN2, lN3, lN4, lN5, lN6, lN7, hul, hal] <;> omega)) | (simp [elemsK, D.isVal, D.cells, D.closedL, D.closed, hul, hal]; first | done | omega)))
    | ((with_reducible apply s_appF); (case he => rfl); (case hK | hc | hr | hx | hn => first | rfl | assumption | omega | ((first | refine ⟨?_, ?_⟩ | skip) <;> first | omega | (simp only [lN1, lN2, lN3, lN4, lN5, lN6, lN7, hul, hal] <;> omega)) | (simp [elemsK, D.isVal, D.cells, D.closedL, D.closed, hul, hal]; first | done | omega)))
    | ((with_reducible apply s_bsl); (case he | hl | hc => first | rfl | assumption | omega | ((first | refine ⟨?_, ?_⟩ | skip) <;> first | omega | (simp only [lN1, lN2, lN3, lN4, lN5, lN6, lN7, hul, hal] <;> omega)) | (simp [elemsK, D.isVal, D.cells, D.closedL, D.closed, hul, hal]; first | done | omega)))
    | with_reducible first | apply cd_dec | apply cd_eq | apply cd_ne | apply cd_split
    | ((with_reducible refine And.intro ?hw ?_); (case hw => first | omega | rfl | exact ⟨_, _, rfl⟩ | assumption | (simp only [lN1, lN2, lN3, lN4, lN5, lN6, lN7, hul, hal] <;> omega)))
    | with_reducible intro _)
        all_goals try omega
        refine ⟨(n, up u, k / 2, acc ++ [x]), ⟨by simp only; omega, by simp only; omega, by simp only; omega, up_small u, by simp only [List.length_append, List.length_cons, List.length_nil]; omega, by simp only; rw [← g4, hr]; simp⟩, by simp only; omega, ?_⟩
        simp [keepE, St.keep, strs]
        try omega
end Go.Proofs.YtgjkhlnpplajjaaDoor
end
section
set_option maxRecDepth 100000
set_option linter.unusedSimpArgs false
set_option linter.unusedVariables false
namespace Go.Proofs.YtgjkhlnpplajjaaDoor
open Go GoV Go.RowKit
abbrev ints (l : List Nat) : List D := l.map fun d => .int .i64 (d : Nat)
theorem ints_len (l : List Nat) : (ints l).length = l.length := List.length_map _
theorem ints_app (a b : List Nat) : ints (a ++ b) = ints a ++ ints b := by simp [ints]
theorem erL_ints (l : List Nat) : D.erL (ints l) = ints l := by
  induction l with
  | nil => rfl
  | cons a l ih => simp only [ints, List.map_cons, D.erL, D.er] at ih ⊢; rw [ih]
def restP (m : List UInt8) (j : Nat) : Nat := (((hexs16 m).take j).map fun d => 15 - d).sum
theorem restP_all (m : List UInt8) : restP m 16 = rest m := by
  unfold restP rest
  rw [List.take_of_length_le (by rw [hexs16_len]; omega)]
theorem restP_le (m : List UInt8) (j : Nat) : restP m j ≤ 240 := by
  have := sum_le (l := ((hexs16 m).take j).map fun d => 15 - d) (b := 15) (by
    intro d hd
    obtain ⟨c, _, rfl⟩ := List.mem_map.1 hd
    omega)
  rw [List.length_map, List.length_take, hexs16_len] at this
  unfold restP
  omega
theorem hexs16_at {m : List UInt8} {j : Nat} (h : j < 16) : hxv ((sumN m).getD j 0) = (((hexs16 m).getD j 0 : Nat) : Int) ∧ (hexs16 m).getD j 0 < 16 := by
  have hl := sumN_len m
  have e : (sumN m).getD j 0 = (sumN m)[j]'(by omega) := by
    have h' : j < (sumN m).length := by omega
    simp [List.getD, h']
  have e2 : (hexs16 m).getD j 0 = (hxv ((sumN m)[j]'(by omega))).toNat := by
    have h' : j < (sumN m).length := by omega
    simp [hexs16, List.getD, h']
  have h3 := hxv_lt (List.all_eq_true.1 (sumN_all m) _ (List.getElem_mem (show j < (sumN m).length by omega)))
  rw [e, e2]
  omega
theorem hexs16_take {m : List UInt8} {j : Nat} (h : j < 16) : (hexs16 m).take (j + 1) = (hexs16 m).take j ++ [(hexs16 m).getD j 0] := by
  have hl := hexs16_len m
  rw [List.take_succ_eq_append_getElem (by omega)]
  simp [List.getD, hl, h]
theorem restP_step {m : List UInt8} {j : Nat} (h : j < 16) : restP m (j + 1) = restP m j + (15 - (hexs16 m).getD j 0) := by
  unfold restP
  rw [hexs16_take h, List.map_append, List.sum_append]
  simp
set_option maxHeartbeats 1000000 in
theorem rdgt_p (m : List UInt8) (hm : m.length < 65536) : Pur M 34 [.str m] (.slice (ints (dgt m)) .no) := by
  refine ok34 rfl ?_
  rw [i34]
  unfold c34
  have h1 := rsum_p m hm
  have hl := sumN_len m
  have hd : dgt m = (hexs16 m).take 16 ++ [rest m / 16, rest m % 16] := by
    rw [List.take_of_length_le (by rw [hexs16_len]; omega)]; rfl
  repeat' (first
    | with_reducible first | apply swp_seq | apply swp_reg | apply swp_regD | apply swp_block | apply swp_exit | apply swp_ret | apply swp_skip | apply swp_cd
    | simp only [go_sem, Nat.reduceAdd, Nat.reduceSub, Nat.reduceMul, Nat.reduceEqDiff, Nat.reduceLeDiff, Nat.reduceLT, Int.reduceEq, Int.reduceNe, Int.reduceLT, Int.reduceLE, Int.reduceAdd, Int.reduceSub, Int.reduceMul, Int.reduceNeg, Int.reduceToNat, Int.reduceTDiv, Int.reduceTMod, Int.reduceBEq, Int.reduceBNe, decide_true, decide_false, reduceCtorEq, reduceIte, P34, q34]
    | simp (disch := omega) only [w64, w32, wu8, wu16, wu32, wu64]
    | ((with_reducible refine o_call (h1) ?he ?hc ?_); (case he | hc => first | rfl | (simp [D.erL, D.er, D.closedL, D.closed]; done)))
    | ((with_reducible apply s_appT); (case he => rfl); (case hK | hc | hr | hV => first | rfl | assumption | omega | ((first | refine ⟨?_, ?_⟩ | skip) <;> first | omega | (simp only [lN1, lN2, lN3, lN4, lN5, lN6, lN7] <;> omega)) | (simp [elemsK, D.isVal, D.cells, D.closedL, D.closed]; first | done | omega)))
    | ((with_reducible apply s_appG); (case he => rfl); (case hV | hK | hr | hl => first | rfl | assumption | omega | ((first | refine ⟨?_, ?_⟩ | skip) <;> first | omega | (simp only [lN1, lN2, lN3, lN4, lN5, lN6, lN7] <;> omega)) | (simp [elemsK, D.isVal, D.cells, D.closedL, D.closed]; first | done | omega)))
    | ((with_reducible apply s_app0); (case he => rfl); (case hK | hc | hr => first | rfl | assumption | omega | ((first | refine ⟨?_, ?_⟩ | skip) <;> first | omega | (simp only [lN1, lN2, lN3, lN4, lN5, lN6, lN7] <;> omega)) | (simp [elemsK, D.isVal, D.cells, D.closedL, D.closed]; first | done | omega)))
    | ((with_reducible apply s_appF); (case he => rfl); (case hK | hc | hr | hx | hn => first | rfl | assumption | omega | ((first | refine ⟨?_, ?_⟩ | skip) <;> first | omega | (simp only [lN1, lN2, lN3, lN4, lN5, lN6, lN7] <;> omega)) | (simp [elemsK, D.isVal, D.cells, D.closedL, D.closed]; first | done | omega)))
    | ((with_reducible apply s_bsl); (case he | hl | hc => first | rfl | assumption | omega | ((first | refine ⟨?_, ?_⟩ | skip) <;> first | omega | (simp only [lN1, lN2, lN3, lN4, lN5, lN6, lN7] <;> omega)) | (simp [elemsK, D.isVal, D.cells, D.closedL, D.closed]; first | done | omega)))
    | with_reducible first | apply cd_dec | apply cd_eq | apply cd_ne | apply cd_split
    | ((with_reducible refine And.intro ?hw ?_); (case hw => first | omega | rfl | exact ⟨_, _, rfl⟩ | assumption | (simp only [lN1, lN2, lN3, lN4, lN5, lN6, lN7] <;> omega)))
    | with_reducible intro _)
  refine swp_weak (weak_new 3 1 (by decide) false rfl) ?_
  refine swp_fam [0, 1, 2, 3, 4, 5] (fun j : Nat => ⟨[.str m, .lit (.slice none 0 0), .str (sumN m), .slice (ints ((hexs16 m).take j)) (.tok 0), .int .i64 (restP m j : Nat), .int .i64 j, .undef, .undef], [], ⟨[], [.per 1 j]⟩⟩)
    (fun j => j ≤ 16) (fun j => 16 - j) 0 (by omega) ?_ ?_
  · simp [keepE, St.keep, restP]
  · intro j hj
    have hil : (ints ((hexs16 m).take j)).length = j := by rw [ints_len, List.length_take, hexs16_len]; omega
    have hrp := restP_le m j
    by_cases hlt : j < 16
    · have h2 := rdigit_p ((sumN m).getD j 0)
      obtain ⟨h3, h4⟩ := hexs16_at (m := m) hlt
      rw [h3] at h2
      have h5 := hexs16_take (m := m) hlt
      have h6 := restP_step (m := m) hlt
      have t1 : ((j : Nat) : Int).toNat = j := Int.toNat_natCast j
      generalize (hexs16 m).getD j 0 = d at *
      generalize hS : sumN m = S at *
      generalize hq : restP m j = q at *
      have hT : ((hexs16 m).take j).length = j := by rw [List.length_take, hexs16_len]; omega
      generalize (hexs16 m).take j = T at *
      repeat' (first
    | with_reducible first | apply swp_seq | apply swp_reg | apply swp_regD | apply swp_block | apply swp_exit | apply swp_ret | apply swp_skip | apply swp_cd
    | simp only [go_sem, Nat.reduceAdd, Nat.reduceSub, Nat.reduceMul, Nat.reduceEqDiff, Nat.reduceLeDiff, Nat.reduceLT, Int.reduceEq, Int.reduceNe, Int.reduceLT, Int.reduceLE, Int.reduceAdd, Int.reduceSub, Int.reduceMul, Int.reduceNeg, Int.reduceToNat, Int.reduceTDiv, Int.reduceTMod, Int.reduceBEq, Int.reduceBNe, decide_true, decide_false, reduceCtorEq, reduceIte, P34, q34, t1]
    | simp (disch := omega) only [w64, w32, wu8, wu16, wu32, wu64]
    | ((with_reducible refine o_call (h2) ?he ?hc ?_); (case he | hc => first | rfl | (simp [D.erL, D.er, D.closedL, D.closed, hT, hl]; done)))
    | ((with_reducible apply s_appT); (case he => rfl); (case hK | hc | hr | hV => first | rfl | assumption | omega | ((first | refine ⟨?_, ?_⟩ | skip) <;> first | omega | (simp only [lN1, lN2, lN3, lN4, lN5, lN6, lN7, hT, hl] <;> omega)) | (simp [elemsK, D.isVal, D.cells, D.closedL, D.closed, hT, hl]; first | done | omega)))
    | ((with_reducible apply s_appG); (case he => rfl); (case hV | hK | hr | hl => first | rfl | assumption | omega | ((first | refine ⟨?_, ?_⟩ | skip) <;> first | omega | (simp only [lN1, lN2, lN3, lN4, lN5, lN6, lN7, hT, hl] <;> omega)) | (simp [elemsK, D.isVal, D.cells, D.closedL, D.closed, hT, hl]; first | done | omega)))
    | ((with_reducible apply s_app0); (case he => rfl); (case hK | hc | hr => first | rfl | assumption | omega | ((first | refine ⟨?_, ?_⟩ | skip) <;> first | omega | (simp only [lN1, lN2, lN3, lN4, lN5, lN6, lN7, hT, hl] <;> omega)) | (simp [elemsK, D.isVal, D.cells, D.closedL, D.closed, hT, hl]; first | done | omega)))
    | ((with_reducible apply s_appF); (case he => rfl); (case hK | hc | hr | hx | hn => first | rfl | assumption | omega | ((first | refine ⟨?_, ?_⟩ | skip) <;> first | omega | (simp only [lN1, lN2, lN3, lN4, lN5, lN6, lN7, hT, hl] <;> omega)) | (simp [elemsK, D.isVal, D.cells, D.closedL, D.closed, hT, hl]; first | done | omega)))
    | ((with_reducible apply s_bsl); (case he | hl | hc => first | rfl | assumption | omega | ((first | refine ⟨?_, ?_⟩ | skip) <;> first | omega | (simp only [lN1, lN2, lN3, lN4, lN5, lN6, lN7, hT, hl] <;> omega)) | (simp [elemsK, D.isVal, D.cells, D.closedL, D.closed, hT, hl]; first | done | omega)))
    | with_reducible first | apply cd_dec | apply cd_eq | apply cd_ne | apply cd_split
    | ((with_reducible refine And.intro ?hw ?_); (case hw => first | omega | rfl | exact ⟨_, _, rfl⟩ | assumption | (simp only [lN1, lN2, lN3, lN4, lN5, lN6, lN7, hT, hl] <;> omega)))
    | with_reducible intro _)
      all_goals try omega
      refine ⟨j + 1, by omega, by omega, ?_⟩
      rw [h5, h6, ints_app]
      simp [keepE, St.keep, hT, ints]
      try omega
    · have e : j = 16 := by omega
      have hr : restP m j = rest m := by rw [e]; exact restP_all m
      have hTd : (hexs16 m).take j = hexs16 m := List.take_of_length_le (by rw [hexs16_len]; omega)
      rw [hr] at hrp ⊢
      rw [hTd] at hil ⊢
      have t1 : (rest m : Int).tdiv 16 = ((rest m / 16 : Nat) : Int) := by rw [Int.tdiv_eq_ediv_of_nonneg (by omega)]; omega
      have t2 : (rest m : Int).tmod 16 = ((rest m % 16 : Nat) : Int) := by rw [Int.tmod_eq_emod_of_nonneg (by omega)]; omega
      have hA : ints (dgt m) = ints (hexs16 m) ++ [.int .i64 (rest m / 16 : Nat), .int .i64 (rest m % 16 : Nat)] := by unfold dgt; rw [ints_app]; rfl
      have he := erL_ints (dgt m)
      rw [hA] at he ⊢
      have hT : (hexs16 m).length = j := by rw [hexs16_len, e]
      clear h1 hd hA hil hTd hr
      have ha : rest m / 16 ≤ 15 := by omega
      have hw : IntKind.i64.wrap ((rest m / 16 : Nat) : Int) = ((rest m / 16 : Nat) : Int) := w64 (by omega) (by omega)
      generalize rest m / 16 = a at *
      generalize rest m % 16 = b at *
      generalize rest m = c at *
      generalize hexs16 m = T at *
      generalize sumN m = S at *
      repeat' (first
    | with_reducible first | apply swp_seq | apply swp_reg | apply swp_regD | apply swp_block | apply swp_exit | apply swp_ret | apply swp_skip | apply swp_cd
    | simp only [go_sem, Nat.reduceAdd, Nat.reduceSub, Nat.reduceMul, Nat.reduceEqDiff, Nat.reduceLeDiff, Nat.reduceLT, Int.reduceEq, Int.reduceNe, Int.reduceLT, Int.reduceLE, Int.reduceAdd, Int.reduceSub, Int.reduceMul, Int.reduceNeg, Int.reduceToNat, Int.reduceTDiv, Int.reduceTMod, Int.reduceBEq, Int.reduceBNe, decide_true, decide_false, reduceCtorEq, reduceIte, P34, q34, t1, t2, hw]
    | simp (disch := omega) only [w64, w32, wu8, wu16, wu32, wu64]
    | ((with_reducible apply s_appT); (case he => rfl); (case hK | hc | hr | hV => first | rfl | assumption | omega | ((first | refine ⟨?_, ?_⟩ | skip) <;> first | omega | (simp only [lN1, lN2, lN3, lN4, lN5, lN6, lN7, hT, hl] <;> omega)) | (simp [elemsK, D.isVal, D.cells, D.closedL, D.closed, hT, hl]; first | done | omega)))
    | ((with_reducible apply s_appG); (case he => rfl); (case hV | hK | hr | hl => first | rfl | assumption | omega | ((first | refine ⟨?_, ?_⟩ | skip) <;> first | omega | (simp only [lN1, lN2, lN3, lN4, lN5, lN6, lN7, hT, hl] <;> omega)) | (simp [elemsK, D.isVal, D.cells, D.closedL, D.closed, hT, hl]; first | done | omega)))
    | ((with_reducible apply s_app0); (case he => rfl); (case hK | hc | hr => first | rfl | assumption | omega | ((first | refine ⟨?_, ?_⟩ | skip) <;> first | omega | (simp only [lN1, lN2, lN3, lN4, lN5, lN6, lN7, hT, hl] <;> omega)) | (simp [elemsK, D.isVal, D.cells, D.closedL, D.closed, hT, hl]; first | done | omega)))
    | ((with_reducible apply s_appF); (case he => rfl); (case hK | hc | hr | hx | hn => first | rfl | assumption | omega | ((first | refine ⟨?_, ?_⟩ | skip) <;> first | omega | (simp only [lN1, lN2, lN3, lN4, lN5, lN6, lN7, hT, hl] <;> omega)) | (simp [elemsK, D.isVal, D.cells, D.closedL, D.closed, hT, hl]; first | done | omega)))
    | ((with_reducible apply s_bsl); (case he | hl | hc => first | rfl | assumption | omega | ((first | refine ⟨?_, ?_⟩ | skip) <;> first | omega | (simp only [lN1, lN2, lN3, lN4, lN5, lN6, lN7, hT, hl] <;> omega)) | (simp [elemsK, D.isVal, D.cells, D.closedL, D.closed, hT, hl]; first | done | omega)))
    | with_reducible first | apply cd_dec | apply cd_eq | apply cd_ne | apply cd_split
    | ((with_reducible refine And.intro ?hw ?_); (case hw => first | omega | rfl | exact ⟨_, _, rfl⟩ | assumption | (simp only [lN1, lN2, lN3, lN4, lN5, lN6, lN7, hT, hl] <;> omega)))
    | with_reducible intro _)
      all_goals first
        | omega
        | (simp [D.closed, D.er, he]; done)
        | (rw [hw]; done)
end Go.Proofs.YtgjkhlnpplajjaaDoor
end
section
set_option maxRecDepth 100000
set_option linter.unusedSimpArgs false
set_option linter.unusedVariables false
namespace Go.Proofs.YtgjkhlnpplajjaaDoor
open Go GoV Go.RowKit
theorem closed_strs : ∀ l : List (List UInt8), D.closedL (strs l) = true
  | [] => rfl
  | a :: l => by simp only [strs, List.map_cons, D.closedL, D.closed, Bool.true_and]; exact closed_strs l
def outK (s : List UInt8) (N i : Nat) : List (List UInt8) := keys s i ++ List.replicate (N - i) []
theorem outK_len {s : List UInt8} {N i : Nat} (h : i ≤ N) : (outK s N i).length = N := by simp [outK, keys_len]; omega
theorem outK_end (s : List UInt8) (N : Nat) : outK s N N = keys s N := by simp [outK]
theorem outK_set {s : List UInt8} {N i : Nat} (h : i < N) : (strs (outK s N i)).set i (.str (key s i)) = strs (outK s N (i + 1)) := by
  have h1 : N - i = (N - (i + 1)) + 1 := by omega
  have h2 : (strs (keys s i)).length = i := by rw [strs_len, keys_len]
  unfold outK
  rw [h1, List.replicate_succ, strs_app, strs_app, List.set_append_right _ _ (by omega), h2, Nat.sub_self]
  have : strs (keys s (i + 1)) = strs (keys s i) ++ [.str (key s i)] := by simp [keys, List.range_succ]
  rw [this]
  simp
theorem zeros_strs : ∀ N : Nat, zeros [.str []] N = strs (List.replicate N [])
  | 0 => rfl
  | N + 1 => by simp [zeros, zeros_strs N, List.replicate_succ]
theorem chunk_strs : ∀ l : List (List UInt8), chunk 1 l.length (strs l) = strs l
  | [] => rfl
  | a :: l => by
    simp only [List.length_cons, strs, List.map_cons, chunk]
    have := chunk_strs l
    simp only [strs] at this
    simp [this]
theorem elems_strs : ∀ l : List (List UInt8), elemsK 1 (strs l) = true
  | [] => rfl
  | a :: l => by
    have := elems_strs l
    simp only [strs, List.map_cons, elemsK] at this ⊢
    simpa [D.isVal, D.cells] using this
theorem shl_one {h : Nat} (hh : h ≤ 40) : IntKind.i64.wrap (1 * 2 ^ (min h 64)) = ((2 ^ h : Nat) : Int) := by
  have h2 : 2 ^ h ≤ 2 ^ 40 := Nat.pow_le_pow_right (by omega) hh
  have h3 : (2 : Nat) ^ 40 = 1099511627776 := by decide
  rw [Nat.min_eq_left (by omega), Int.one_mul]
  have h4 : (2 : Int) ^ h = ((2 ^ h : Nat) : Int) := by simp
  rw [h4]
  generalize 2 ^ h = N at *
  rw [w64 (by omega) (by omega)]
set_option maxHeartbeats 1000000 in
theorem keys_p (s : List UInt8) (h : Nat) (hs : s.length ≤ 300) (hh : h ≤ 8) : Pur M 26 [.str s, .int .i64 (h : Nat)] (.slice (strs (keys s (2 ^ h))) .no) := by
  refine ow26 rfl ?_
  rw [i26]
  unfold c26
  have hw := shl_one (h := h) (by omega)
  have hp : 2 ^ h ≤ 2 ^ 8 := Nat.pow_le_pow_right (by omega) hh
  have h4 : (2 : Nat) ^ 8 = 256 := by decide
  rw [h4] at hp
  generalize 2 ^ h = N at *
  have hz := zeros_strs N
  repeat' (first
    | with_reducible first | apply swp_seq | apply swp_reg | apply swp_regD | apply swp_block | apply swp_exit | apply swp_ret | apply swp_skip | apply swp_cd
    | simp only [go_sem, Nat.reduceAdd, Nat.reduceSub, Nat.reduceMul, Nat.reduceEqDiff, Nat.reduceLeDiff, Nat.reduceLT, Int.reduceEq, Int.reduceNe, Int.reduceLT, Int.reduceLE, Int.reduceAdd, Int.reduceSub, Int.reduceMul, Int.reduceNeg, Int.reduceToNat, Int.reduceTDiv, Int.reduceTMod, Int.reduceBEq, Int.reduceBNe, decide_true, decide_false, reduceCtorEq, reduceIte, P26, q26, hw, hz]
    | simp (disch := omega) only [w64, w32, wu8, wu16, wu32, wu64]
    | ((with_reducible apply s_mks); (case h0 | h1 | h2 => first | rfl | assumption | omega | ((first | refine ⟨?_, ?_⟩ | skip) <;> first | omega | (simp only [lN1, lN2, lN3, lN4, lN5, lN6, lN7] <;> omega)) | (simp [elemsK, D.isVal, D.cells, D.closedL, D.closed]; first | done | omega)))
    | with_reducible first | apply cd_dec | apply cd_eq | apply cd_ne | apply cd_split
    | ((with_reducible refine And.intro ?hw ?_); (case hw => first | omega | rfl | exact ⟨_, _, rfl⟩ | assumption | (simp only [lN1, lN2, lN3, lN4, lN5, lN6, lN7] <;> omega)))
    | with_reducible intro _)
  all_goals try omega
  refine swp_fam [0, 1, 2, 3, 5, 6] (fun i : Nat => ⟨[.str s, .int .i64 (h : Nat), .lit (.slice none 0 0), .sl 0 1 0 N N, .undef, .int .i64 (N : Nat), .int .i64 (i : Nat), .undef], [], ⟨[.cells (strs (outK s N i))], []⟩⟩)
    (fun i => i ≤ N) (fun i => N - i) 0 (by omega) ?_ ?_
  · simp [keepE, St.keep, outK, keys]
  · intro i hi
    have hol := outK_len (s := s) hi
    have hsl : (strs (outK s N i)).length = N := by rw [strs_len, hol]
    by_cases hlt : i < N
    · have h1 := key_p s i hs (by omega)
      have hset := outK_set (s := s) hlt
      have t1 : ((i : Nat) : Int).toNat = i := Int.toNat_natCast i
      generalize hO : strs (outK s N i) = O at *
      generalize hO' : strs (outK s N (i + 1)) = O' at *
      generalize hk : key s i = kk at *
      repeat' (first
    | with_reducible first | apply swp_seq | apply swp_reg | apply swp_regD | apply swp_block | apply swp_exit | apply swp_ret | apply swp_skip | apply swp_cd
    | simp only [go_sem, Nat.reduceAdd, Nat.reduceSub, Nat.reduceMul, Nat.reduceEqDiff, Nat.reduceLeDiff, Nat.reduceLT, Int.reduceEq, Int.reduceNe, Int.reduceLT, Int.reduceLE, Int.reduceAdd, Int.reduceSub, Int.reduceMul, Int.reduceNeg, Int.reduceToNat, Int.reduceTDiv, Int.reduceTMod, Int.reduceBEq, Int.reduceBNe, decide_true, decide_false, reduceCtorEq, reduceIte, P26, q26, t1, hset]
    | simp (disch := omega) only [w64, w32, wu8, wu16, wu32, wu64]
    | ((with_reducible refine o_call (h1) ?he ?hc ?_); (case he | hc => first | rfl | (simp [D.erL, D.er, D.closedL, D.closed, hsl]; done)))
    | ((with_reducible apply s_mks); (case h0 | h1 | h2 => first | rfl | assumption | omega | ((first | refine ⟨?_, ?_⟩ | skip) <;> first | omega | (simp only [lN1, lN2, lN3, lN4, lN5, lN6, lN7, hsl] <;> omega)) | (simp [elemsK, D.isVal, D.cells, D.closedL, D.closed, hsl]; first | done | omega)))
    | with_reducible first | apply cd_dec | apply cd_eq | apply cd_ne | apply cd_split
    | ((with_reducible refine And.intro ?hw ?_); (case hw => first | omega | rfl | exact ⟨_, _, rfl⟩ | assumption | (simp only [lN1, lN2, lN3, lN4, lN5, lN6, lN7, hsl] <;> omega)))
    | with_reducible intro _)
      all_goals try omega
      refine ⟨i + 1, by omega, by omega, ?_⟩
      rw [hO']
      simp [keepE, St.keep, -List.map_set, t1, hset]
    · have e : i = N := by omega
      subst e
      rw [outK_end] at *
      have hch := chunk_strs (keys s i)
      rw [keys_len] at hch
      have hel := elems_strs (keys s i)
      have hcl := closed_strs (keys s i)
      have her := erL_strs (keys s i)
      generalize hO : strs (keys s i) = O at *
      repeat' (first
    | with_reducible first | apply swp_seq | apply swp_reg | apply swp_regD | apply swp_block | apply swp_exit | apply swp_ret | apply swp_skip | apply swp_cd
    | simp only [go_sem, Nat.reduceAdd, Nat.reduceSub, Nat.reduceMul, Nat.reduceEqDiff, Nat.reduceLeDiff, Nat.reduceLT, Int.reduceEq, Int.reduceNe, Int.reduceLT, Int.reduceLE, Int.reduceAdd, Int.reduceSub, Int.reduceMul, Int.reduceNeg, Int.reduceToNat, Int.reduceTDiv, Int.reduceTMod, Int.reduceBEq, Int.reduceBNe, decide_true, decide_false, reduceCtorEq, reduceIte, P26, q26]
    | simp (disch := omega) only [w64, w32, wu8, wu16, wu32, wu64]
    | ((with_reducible apply s_mks); (case h0 | h1 | h2 => first | rfl | assumption | omega | ((first | refine ⟨?_, ?_⟩ | skip) <;> first | omega | (simp only [lN1, lN2, lN3, lN4, lN5, lN6, lN7] <;> omega)) | (simp [elemsK, D.isVal, D.cells, D.closedL, D.closed]; first | done | omega)))
    | with_reducible first | apply cd_dec | apply cd_eq | apply cd_ne | apply cd_split
    | ((with_reducible refine And.intro ?hw ?_); (case hw => first | omega | rfl | exact ⟨_, _, rfl⟩ | assumption | (simp only [lN1, lN2, lN3, lN4, lN5, lN6, lN7] <;> omega)))
    | with_reducible intro _)
      all_goals try omega
      refine ⟨_, weak_trans (weak_keep [2, 3]) (weak_frz 0 O rfl (Nat.le_refl 0) hcl), ?_⟩
      rw [her]
      simp [St.frz, keepE, D.fz, hch, D.closed, D.er, hcl, her, hel, hsl]
end Go.Proofs.YtgjkhlnpplajjaaDoor
end
section
set_option maxRecDepth 100000
namespace Go.Proofs.YtgjkhlnpplajjaaDoor
open Go GoV
/- 27 bogie.sign.above · 1 arguments · kept slots [0, 2, 3, 4, 6, 7] -/
noncomputable def E27 (n m : Nat) : Cfg := ⟨M, [0, 2, 3, 4, 6, 7], 19, n, m, []⟩
noncomputable def C27 : Cfg := E27 0 0
@[reducible] noncomputable def r27_0 : List RO := [
  ⟨.var 1, .mv, [(.con (.lit (.slice none 0 0)))], none⟩]
@[reducible] noncomputable def r27_1 : List RO := [
  ⟨.var 2, (.newb [(.lit (.slice none 0 0))]), [], none⟩]
@[reducible] noncomputable def r27_2 : List RO := [
  ⟨.loc 5, .mv, [.var 0], none⟩,
  ⟨.var 4, .call, [(.con (.fn (.func 53) [] [])), .loc 5, .con (.int .i64 2)], none⟩]
@[reducible] noncomputable def r27_3 : List RO := [
  ⟨.var 3, .mv, [.var 5], none⟩]
@[reducible] noncomputable def r27_4 : List (RO × Bool) := [
  (⟨.loc 8, .ld false 1, [.var 2], none⟩, true),
  (⟨.loc 9, .mv, [.var 3], none⟩, true),
  (⟨.loc 10, .ixaS 1, [.loc 9, .con (.int .i64 0)], none⟩, true),
  (⟨.loc 11, .ld false 1, [.loc 10], none⟩, true),
  (⟨.loc 12, .mv, [.var 3], none⟩, true),
  (⟨.loc 13, .ixaS 1, [.loc 12, .con (.int .i64 1)], none⟩, true),
  (⟨.loc 14, .ld false 1, [.loc 13], none⟩, true),
  (⟨.loc 15, .call, [(.con (.fn (.func 42) [] [])), .loc 11, .loc 14, .con (.bool false)], none⟩, true),
  (⟨.loc 16, .bsl 1, [.loc 15], none⟩, true)]
@[reducible] noncomputable def r27_5 : List RO := [
  ⟨.loc 17, .app 1 16 9, [.loc 8, .loc 16], none⟩,
  ⟨.none, .st 1, [.var 2, .loc 17], none⟩]
@[reducible] noncomputable def r27_6 : List RO := [
  ⟨.loc 18, .ld false 1, [.var 2], none⟩,
  ⟨.var 1, .mv, [.loc 18], none⟩]
theorem P27 : C27.M = M := by unfold C27 E27; rfl
theorem i27 {a0 : D} : St.init C27 [a0] ⟨[], []⟩ = ⟨[a0, .undef, .undef, .undef, .undef, .undef], [], ⟨[], []⟩⟩ := by unfold C27 E27; rfl
noncomputable def c27 : RC := (.seq (.reg r27_0) (.seq (.reg r27_1) (.seq (.seq (.reg r27_2) (.block 0 (.rangeF (.var 4) [(.var 5)] (.reg r27_3) (.block 1 (.regD r27_4 r27_5))))) (.seq (.reg r27_6) .ret))))
noncomputable def q27 : List RR := [(.slot (.var 1))]
theorem z27 {n m : Nat} : resCode (E27 n m) (Tryd.f27.body.getD .skip) = some c27 := by kernel_rfl
theorem zr27 {n m : Nat} : resRs (E27 n m) Tryd.f27.results.toList = some q27 := by kernel_rfl
theorem oT27 {args : List D} {d : D} (hl : args.length = 1) (h : TWp C27 0 0 c27 (fun e n m s => (match e with | .exit _ => False | _ => True) ∧ ∃ s1, (∀ ds, Weak { C27 with n0 := n, m0 := m, dfs := ds } s s1) ∧ rrsWp q27 s1 fun ds => D.closed (oneOrTup ds) = true ∧ (oneOrTup ds).er = d) (St.init C27 args ⟨[], []⟩)) : Pur M 27 args d :=
  pur_of_bodyT (C := C27) (fn := Tryd.f27) Tryd.func27 (by kernel_rfl) (by kernel_rfl) (rc := c27) z27 (rs := q27) zr27 (by kernel_rfl) (by rw [hl]; rfl) (by rw [hl]; decide) rfl rfl h
/- 30 bogie.sign.digits · 1 arguments · kept slots [0, 1, 2] -/
noncomputable def E30 (n m : Nat) : Cfg := ⟨M, [0, 1, 2], 4, n, m, []⟩
noncomputable def C30 : Cfg := E30 0 0
@[reducible] noncomputable def r30_0 : List RO := [
  ⟨.var 1, .box, [.var 0], none⟩,
  ⟨.var 2, .mv, [(.con (.lit .nilFunc))], none⟩]
@[reducible] noncomputable def r30_1 : List RO := [
  ⟨.loc 3, (.mkF (.func 56) 0), [.var 1], none⟩,
  ⟨.var 2, .mv, [.loc 3], none⟩]
theorem P30 : C30.M = M := by unfold C30 E30; rfl
theorem i30 {a0 : D} : St.init C30 [a0] ⟨[], []⟩ = ⟨[a0, .undef, .undef], [], ⟨[], []⟩⟩ := by unfold C30 E30; rfl
noncomputable def c30 : RC := (.seq (.reg r30_0) (.seq (.reg r30_1) .ret))
noncomputable def q30 : List RR := [(.slot (.var 2))]
theorem z30 {n m : Nat} : resCode (E30 n m) (Tryd.f30.body.getD .skip) = some c30 := by kernel_rfl
theorem zr30 {n m : Nat} : resRs (E30 n m) Tryd.f30.results.toList = some q30 := by kernel_rfl
theorem ow30 {args : List D} {d : D} (hl : args.length = 1) (h : SWp C30 c30 (fun e s => (match e with | .exit _ => False | _ => True) ∧ ∃ s1, Weak C30 s s1 ∧ rrsWp q30 s1 fun ds => D.closed (oneOrTup ds) = true ∧ (oneOrTup ds).er = d) (St.init C30 args ⟨[], []⟩)) : Pur M 30 args d :=
  pur_of_bodyW (C := C30) (fn := Tryd.f30) Tryd.func30 (by kernel_rfl) (by kernel_rfl) (rc := c30) z30 (rs := q30) zr30 (by kernel_rfl) (by rw [hl]; rfl) (by rw [hl]; decide) rfl rfl h
/- 56 bogie.sign.digits$1 · 2 arguments · kept slots [0, 1, 3, 4, 5, 6, 10, 11, 12, 26, 31] -/
noncomputable def E56 (n m : Nat) : Cfg := ⟨M, [0, 1, 3, 4, 5, 6, 10, 11, 12, 26, 31], 36, n, m, []⟩
@[reducible] noncomputable def r56_0 : List RO := [
  ⟨.var 2, .mv, [.con (.int .i64 0)], none⟩]
@[reducible] noncomputable def r56_1 : List RO := [
  ⟨.loc 7, .ld false 1, [.var 1], none⟩,
  ⟨.loc 8, .call, [(.con (.fn (.func 57) [] [])), .loc 7], none⟩,
  ⟨.var 3, .mv, [.loc 8], none⟩]
@[reducible] noncomputable def r56_2 : List RO := [
  ⟨.loc 9, .mv, [.var 3], none⟩,
  ⟨.var 6, .lenS, [.loc 9], none⟩,
  ⟨.var 7, .mv, [.con (.int .i64 0)], none⟩]
@[reducible] noncomputable def r56_3 : List RO := [
  ⟨.var 8, .bin .lss, [.var 7, .var 6], none⟩]
@[reducible] noncomputable def r56_4 : List RO := [
  ⟨.loc 13, .mv, [.var 7], none⟩,
  ⟨.var 4, .mv, [.loc 13], none⟩]
@[reducible] noncomputable def r56_5 : List RO := [
  ⟨.loc 14, .mv, [.var 3], none⟩,
  ⟨.loc 15, .mv, [.var 4], none⟩,
  ⟨.loc 16, .ixvS, [.loc 14, .loc 15], none⟩,
  ⟨.loc 17, .call, [(.con (.fn (.func 58) [] [])), (.con (.str [48, 49, 50, 51, 52, 53, 54, 55, 56, 57, 97, 98, 99, 100, 101, 102])), .loc 16], none⟩,
  ⟨.var 5, .mv, [.loc 17], none⟩]
@[reducible] noncomputable def r56_6 : List RO := [
  ⟨.loc 18, .mv, [.var 2], none⟩,
  ⟨.loc 19, .mv, [.var 5], none⟩,
  ⟨.loc 20, .bin .sub, [.con (.int .i64 15), .loc 19], none⟩,
  ⟨.loc 21, .bin .add, [.loc 18, .loc 20], none⟩,
  ⟨.var 2, .mv, [.loc 21], none⟩]
@[reducible] noncomputable def r56_7 : List RO := [
  ⟨.loc 22, .mv, [.var 0], none⟩,
  ⟨.loc 23, .mv, [.var 4], none⟩,
  ⟨.loc 24, .mv, [.var 5], none⟩,
  ⟨.loc 25, .call, [.loc 22, .loc 23, .loc 24], none⟩,
  ⟨.var 9, .un .not, [.loc 25], none⟩]
@[reducible] noncomputable def r56_8 : List RO := [
  ⟨.loc 27, .bin .add, [.var 7, .con (.int .i64 1)], none⟩,
  ⟨.var 7, .mv, [.loc 27], none⟩]
@[reducible] noncomputable def r56_9 : List RO := [
  ⟨.loc 28, .mv, [.var 0], none⟩,
  ⟨.loc 29, .mv, [.var 2], none⟩,
  ⟨.loc 30, .bin .quo, [.loc 29, .con (.int .i64 16)], none⟩,
  ⟨.var 10, .call, [.loc 28, .con (.int .i64 16), .loc 30], none⟩]
@[reducible] noncomputable def r56_10 : List RO := [
  ⟨.loc 32, .mv, [.var 0], none⟩,
  ⟨.loc 33, .mv, [.var 2], none⟩,
  ⟨.loc 34, .bin .rem, [.loc 33, .con (.int .i64 16)], none⟩,
  ⟨.loc 35, .call, [.loc 32, .con (.int .i64 17), .loc 34], none⟩]
theorem pe56 {n m : Nat} : (E56 n m).M = M := by unfold E56; rfl
theorem ie56 {n m : Nat} {hp : Hp} {a0 a1 : D} : St.init (E56 n m) [a0, a1] hp = ⟨[a0, a1, .undef, .undef, .undef, .undef, .undef, .undef, .undef, .undef, .undef], [], hp⟩ := by unfold E56; rfl
noncomputable def c56 : RC := (.seq (.reg r56_0) (.seq (.reg r56_1) (.seq (.seq (.reg r56_2) (.block 0 (.loop (.seq (.reg r56_3) (.seq (.cond (.var 8) .skip (.exit 0)) (.seq (.block 1 (.seq (.reg r56_4) (.seq (.reg r56_5) (.seq (.reg r56_6) (.seq (.reg r56_7) (.cond (.var 9) .ret .skip)))))) (.reg r56_8))))))) (.seq (.reg r56_9) (.cond (.var 10) (.reg r56_10) .skip)))))
theorem z56 {n m : Nat} : resCode (E56 n m) (Tryd.f56.body.getD .skip) = some c56 := by kernel_rfl
theorem oi56 {caps : List D} {xs : List (List D)} (hl : caps.length + 1 = 2) (h : ∀ (b : World → Gh → Prop) (hpk : Nat → Hp) (l : Nat), (∀ k x, xs[k]? = some x → YOk (M.with b) l x (hpk k) (hpk (k + 1))) → SWp ((E56 0 0).atB b (hpk 0)) c56 (fun e s => (match e with | .exit _ => False | _ => True) ∧ s.hp = hpk xs.length) (St.init (E56 0 0) (yldD l :: caps) (hpk 0))) : Iter M 56 caps xs :=
  iter_of_body (C := E56 0 0) (fn := Tryd.f56) Tryd.func56 (by kernel_rfl) (by kernel_rfl) (rc := c56) z56 (by kernel_rfl) (by kernel_rfl) (by rw [hl]; rfl) (by rw [hl]; decide) h
/- 53 slices.Chunk[[]string,string] · 2 arguments · kept slots [0, 1, 2, 3, 4, 6] -/
noncomputable def E53 (n m : Nat) : Cfg := ⟨M, [0, 1, 2, 3, 4, 6], 9, n, m, []⟩
noncomputable def C53 : Cfg := E53 0 0
@[reducible] noncomputable def r53_0 : List RO := [
  ⟨.var 2, .box, [.var 0], none⟩,
  ⟨.var 3, .box, [.var 1], none⟩,
  ⟨.var 4, .mv, [(.con (.lit .nilFunc))], none⟩]
@[reducible] noncomputable def r53_1 : List RO := [
  ⟨.loc 5, .ld false 1, [.var 3], none⟩,
  ⟨.var 5, .bin .lss, [.loc 5, .con (.int .i64 1)], none⟩]
@[reducible] noncomputable def r53_2 : List RO := [
  ⟨.loc 8, (.mkF (.func 71) 0), [.var 2, .var 3], none⟩,
  ⟨.var 4, .mv, [.loc 8], none⟩]
theorem P53 : C53.M = M := by unfold C53 E53; rfl
theorem i53 {a0 a1 : D} : St.init C53 [a0, a1] ⟨[], []⟩ = ⟨[a0, a1, .undef, .undef, .undef, .undef], [], ⟨[], []⟩⟩ := by unfold C53 E53; rfl
noncomputable def c53 : RC := (.seq (.reg r53_0) (.seq (.seq (.reg r53_1) (.cond (.var 5) .bad .skip)) (.seq (.reg r53_2) .ret)))
noncomputable def q53 : List RR := [(.slot (.var 4))]
theorem z53 {n m : Nat} : resCode (E53 n m) (Tryd.f53.body.getD .skip) = some c53 := by kernel_rfl
theorem zr53 {n m : Nat} : resRs (E53 n m) Tryd.f53.results.toList = some q53 := by kernel_rfl
theorem ow53 {args : List D} {d : D} (hl : args.length = 2) (h : SWp C53 c53 (fun e s => (match e with | .exit _ => False | _ => True) ∧ ∃ s1, Weak C53 s s1 ∧ rrsWp q53 s1 fun ds => D.closed (oneOrTup ds) = true ∧ (oneOrTup ds).er = d) (St.init C53 args ⟨[], []⟩)) : Pur M 53 args d :=
  pur_of_bodyW (C := C53) (fn := Tryd.f53) Tryd.func53 (by kernel_rfl) (by kernel_rfl) (rc := c53) z53 (rs := q53) zr53 (by kernel_rfl) (by rw [hl]; rfl) (by rw [hl]; decide) rfl rfl h
/- 71 slices.Chunk[[]string,string]$1 · 3 arguments · kept slots [0, 1, 2, 4, 5, 9, 30] -/
noncomputable def E71 (n m : Nat) : Cfg := ⟨M, [0, 1, 2, 4, 5, 9, 30], 31, n, m, []⟩
@[reducible] noncomputable def r71_0 : List RO := [
  ⟨.var 3, .mv, [.con (.int .i64 0)], none⟩]
@[reducible] noncomputable def r71_1 : List RO := [
  ⟨.loc 6, .mv, [.var 3], none⟩,
  ⟨.loc 7, .ld false 1, [.var 1], none⟩,
  ⟨.loc 8, .lenL, [.loc 7], none⟩,
  ⟨.var 5, .bin .lss, [.loc 6, .loc 8], none⟩]
@[reducible] noncomputable def r71_2 : List (RO × Bool) := [
  (⟨.loc 13, .ld false 1, [.var 2], none⟩, true),
  (⟨.loc 14, .ld false 1, [.var 1], none⟩, true),
  (⟨.loc 15, .mv, [.var 3], none⟩, true),
  (⟨.loc 16, .slcL 1 true false, [.loc 14, .loc 15], none⟩, true),
  (⟨.loc 17, .lenL, [.loc 16], none⟩, true)]
@[reducible] noncomputable def r71_3 : List RO := [
  ⟨.loc 18, .minI, [.loc 13, .loc 17], none⟩,
  ⟨.var 4, .mv, [.loc 18], none⟩]
@[reducible] noncomputable def r71_4 : List RO := [
  ⟨.loc 19, .mv, [.var 0], none⟩,
  ⟨.loc 20, .ld false 1, [.var 1], none⟩,
  ⟨.loc 21, .mv, [.var 3], none⟩,
  ⟨.loc 22, .mv, [.var 3], none⟩,
  ⟨.loc 23, .mv, [.var 4], none⟩,
  ⟨.loc 24, .bin .add, [.loc 22, .loc 23], none⟩,
  ⟨.loc 25, .mv, [.var 3], none⟩,
  ⟨.loc 26, .mv, [.var 4], none⟩,
  ⟨.loc 27, .bin .add, [.loc 25, .loc 26], none⟩,
  ⟨.loc 28, .slc3 1, [.loc 20, .loc 21, .loc 24, .loc 27], none⟩,
  ⟨.loc 29, .call, [.loc 19, .loc 28], none⟩,
  ⟨.var 6, .un .not, [.loc 29], none⟩]
@[reducible] noncomputable def r71_5 : List RO := [
  ⟨.loc 10, .mv, [.var 3], none⟩,
  ⟨.loc 11, .ld false 1, [.var 2], none⟩,
  ⟨.loc 12, .bin .add, [.loc 10, .loc 11], none⟩,
  ⟨.var 3, .mv, [.loc 12], none⟩]
theorem pe71 {n m : Nat} : (E71 n m).M = M := by unfold E71; rfl
theorem ie71 {n m : Nat} {hp : Hp} {a0 a1 a2 : D} : St.init (E71 n m) [a0, a1, a2] hp = ⟨[a0, a1, a2, .undef, .undef, .undef, .undef], [], hp⟩ := by unfold E71; rfl
noncomputable def c71 : RC := (.seq (.reg r71_0) (.block 0 (.loop (.seq (.seq (.reg r71_1) (.cond (.var 5) .skip (.exit 0))) (.seq (.block 1 (.seq (.regD r71_2 r71_3) (.seq (.reg r71_4) (.cond (.var 6) .ret .skip)))) (.reg r71_5))))))
theorem z71 {n m : Nat} : resCode (E71 n m) (Tryd.f71.body.getD .skip) = some c71 := by kernel_rfl
theorem oi71 {caps : List D} {xs : List (List D)} (hl : caps.length + 1 = 3) (h : ∀ (b : World → Gh → Prop) (hpk : Nat → Hp) (l : Nat), (∀ k x, xs[k]? = some x → YOk (M.with b) l x (hpk k) (hpk (k + 1))) → SWp ((E71 0 0).atB b (hpk 0)) c71 (fun e s => (match e with | .exit _ => False | _ => True) ∧ s.hp = hpk xs.length) (St.init (E71 0 0) (yldD l :: caps) (hpk 0))) : Iter M 71 caps xs :=
  iter_of_body (C := E71 0 0) (fn := Tryd.f71) Tryd.func71 (by kernel_rfl) (by kernel_rfl) (rc := c71) z71 (by kernel_rfl) (by kernel_rfl) (by rw [hl]; rfl) (by rw [hl]; decide) h
/- 38 bogie.sign.Verify$1 · 1 arguments · kept slots [0, 2] -/
noncomputable def E38 (n m : Nat) : Cfg := ⟨M, [0, 2], 5, n, m, []⟩
noncomputable def C38 : Cfg := E38 0 0
@[reducible] noncomputable def r38_0 : List RO := [
  ⟨.var 1, .mv, [.con (.bool false)], none⟩]
@[reducible] noncomputable def r38_1 : List RO := [
  ⟨.loc 3, .mv, [.var 0], none⟩,
  ⟨.loc 4, .call, [(.con (.fn (.func 39) [] [])), .loc 3, (.con (.fn (.func 40) [] []))], none⟩,
  ⟨.var 1, .mv, [.loc 4], none⟩]
theorem P38 : C38.M = M := by unfold C38 E38; rfl
theorem i38 {a0 : D} : St.init C38 [a0] ⟨[], []⟩ = ⟨[a0, .undef], [], ⟨[], []⟩⟩ := by unfold C38 E38; rfl
noncomputable def c38 : RC := (.seq (.reg r38_0) (.seq (.reg r38_1) .ret))
noncomputable def q38 : List RR := [(.slot (.var 1))]
theorem z38 {n m : Nat} : resCode (E38 n m) (Tryd.f38.body.getD .skip) = some c38 := by kernel_rfl
theorem zr38 {n m : Nat} : resRs (E38 n m) Tryd.f38.results.toList = some q38 := by kernel_rfl
theorem ok38 {args : List D} {d : D} (hl : args.length = 1) (h : SWp C38 c38 (fun e s => (match e with | .exit _ => False | _ => True) ∧ rrsWp q38 s fun ds => D.closed (oneOrTup ds) = true ∧ (oneOrTup ds).er = d) (St.init C38 args ⟨[], []⟩)) : Pur M 38 args d :=
  pur_of_body (C := C38) (fn := Tryd.f38) Tryd.func38 (by kernel_rfl) (by kernel_rfl) (rc := c38) z38 (rs := q38) zr38 (by kernel_rfl) (by rw [hl]; rfl) (by rw [hl]; decide) rfl rfl h
/- 39 slices.ContainsFunc[[]string,string] · 2 arguments · kept slots [0, 1, 4] -/
noncomputable def E39 (n m : Nat) : Cfg := ⟨M, [0, 1, 4], 9, n, m, []⟩
noncomputable def C39 : Cfg := E39 0 0
@[reducible] noncomputable def r39_0 : List RO := [
  ⟨.var 2, .mv, [.con (.bool false)], none⟩]
@[reducible] noncomputable def r39_1 : List RO := [
  ⟨.loc 5, .mv, [.var 0], none⟩,
  ⟨.loc 6, .mv, [.var 1], none⟩,
  ⟨.loc 7, .call, [(.con (.fn (.func 61) [] [])), .loc 5, .loc 6], none⟩,
  ⟨.loc 8, .bin .geq, [.loc 7, .con (.int .i64 0)], none⟩,
  ⟨.var 2, .mv, [.loc 8], none⟩]
theorem P39 : C39.M = M := by unfold C39 E39; rfl
theorem i39 {a0 a1 : D} : St.init C39 [a0, a1] ⟨[], []⟩ = ⟨[a0, a1, .undef], [], ⟨[], []⟩⟩ := by unfold C39 E39; rfl
noncomputable def c39 : RC := (.seq (.reg r39_0) (.seq (.reg r39_1) .ret))
noncomputable def q39 : List RR := [(.slot (.var 2))]
theorem z39 {n m : Nat} : resCode (E39 n m) (Tryd.f39.body.getD .skip) = some c39 := by kernel_rfl
theorem zr39 {n m : Nat} : resRs (E39 n m) Tryd.f39.results.toList = some q39 := by kernel_rfl
theorem ok39 {args : List D} {d : D} (hl : args.length = 2) (h : SWp C39 c39 (fun e s => (match e with | .exit _ => False | _ => True) ∧ rrsWp q39 s fun ds => D.closed (oneOrTup ds) = true ∧ (oneOrTup ds).er = d) (St.init C39 args ⟨[], []⟩)) : Pur M 39 args d :=
  pur_of_body (C := C39) (fn := Tryd.f39) Tryd.func39 (by kernel_rfl) (by kernel_rfl) (rc := c39) z39 (rs := q39) zr39 (by kernel_rfl) (by rw [hl]; rfl) (by rw [hl]; decide) rfl rfl h
/- 40 bogie.sign.Verify$1$1 · 1 arguments · kept slots [0, 2] -/
noncomputable def E40 (n m : Nat) : Cfg := ⟨M, [0, 2], 6, n, m, []⟩
noncomputable def C40 : Cfg := E40 0 0
@[reducible] noncomputable def r40_0 : List RO := [
  ⟨.var 1, .mv, [.con (.bool false)], none⟩]
@[reducible] noncomputable def r40_1 : List RO := [
  ⟨.loc 3, .mv, [.var 0], none⟩,
  ⟨.loc 4, .call, [(.con (.fn (.func 20) [] [])), .loc 3], none⟩,
  ⟨.loc 5, .un .not, [.loc 4], none⟩,
  ⟨.var 1, .mv, [.loc 5], none⟩]
theorem P40 : C40.M = M := by unfold C40 E40; rfl
theorem i40 {a0 : D} : St.init C40 [a0] ⟨[], []⟩ = ⟨[a0, .undef], [], ⟨[], []⟩⟩ := by unfold C40 E40; rfl
noncomputable def c40 : RC := (.seq (.reg r40_0) (.seq (.reg r40_1) .ret))
noncomputable def q40 : List RR := [(.slot (.var 1))]
theorem z40 {n m : Nat} : resCode (E40 n m) (Tryd.f40.body.getD .skip) = some c40 := by kernel_rfl
theorem zr40 {n m : Nat} : resRs (E40 n m) Tryd.f40.results.toList = some q40 := by kernel_rfl
theorem ok40 {args : List D} {d : D} (hl : args.length = 1) (h : SWp C40 c40 (fun e s => (match e with | .exit _ => False | _ => True) ∧ rrsWp q40 s fun ds => D.closed (oneOrTup ds) = true ∧ (oneOrTup ds).er = d) (St.init C40 args ⟨[], []⟩)) : Pur M 40 args d :=
  pur_of_body (C := C40) (fn := Tryd.f40) Tryd.func40 (by kernel_rfl) (by kernel_rfl) (rc := c40) z40 (rs := q40) zr40 (by kernel_rfl) (by rw [hl]; rfl) (by rw [hl]; decide) rfl rfl h
/- 61 slices.IndexFunc[[]string,string] · 2 arguments · kept slots [0, 1, 4, 5, 7, 8, 9, 16] -/
noncomputable def E61 (n m : Nat) : Cfg := ⟨M, [0, 1, 4, 5, 7, 8, 9, 16], 19, n, m, []⟩
noncomputable def C61 : Cfg := E61 0 0
@[reducible] noncomputable def r61_0 : List RO := [
  ⟨.var 2, .mv, [.con (.int .i64 0)], none⟩]
@[reducible] noncomputable def r61_1 : List RO := [
  ⟨.loc 6, .mv, [.var 0], none⟩,
  ⟨.var 4, .lenL, [.loc 6], none⟩,
  ⟨.var 5, .mv, [.con (.int .i64 0)], none⟩]
@[reducible] noncomputable def r61_2 : List RO := [
  ⟨.var 6, .bin .lss, [.var 5, .var 4], none⟩]
@[reducible] noncomputable def r61_3 : List RO := [
  ⟨.loc 10, .mv, [.var 5], none⟩,
  ⟨.var 3, .mv, [.loc 10], none⟩]
@[reducible] noncomputable def r61_4 : List RO := [
  ⟨.loc 11, .mv, [.var 1], none⟩,
  ⟨.loc 12, .mv, [.var 0], none⟩,
  ⟨.loc 13, .mv, [.var 3], none⟩,
  ⟨.loc 14, .ixaS 1, [.loc 12, .loc 13], none⟩,
  ⟨.loc 15, .ld false 1, [.loc 14], none⟩,
  ⟨.var 7, .call, [.loc 11, .loc 15], none⟩]
@[reducible] noncomputable def r61_5 : List RO := [
  ⟨.loc 17, .mv, [.var 3], none⟩,
  ⟨.var 2, .mv, [.loc 17], none⟩]
@[reducible] noncomputable def r61_6 : List RO := [
  ⟨.loc 18, .bin .add, [.var 5, .con (.int .i64 1)], none⟩,
  ⟨.var 5, .mv, [.loc 18], none⟩]
@[reducible] noncomputable def r61_7 : List RO := [
  ⟨.var 2, .mv, [(.con (.int .i64 (-1)))], none⟩]
theorem P61 : C61.M = M := by unfold C61 E61; rfl
theorem i61 {a0 a1 : D} : St.init C61 [a0, a1] ⟨[], []⟩ = ⟨[a0, a1, .undef, .undef, .undef, .undef, .undef, .undef], [], ⟨[], []⟩⟩ := by unfold C61 E61; rfl
noncomputable def c61 : RC := (.seq (.reg r61_0) (.seq (.seq (.reg r61_1) (.block 0 (.loop (.seq (.reg r61_2) (.seq (.cond (.var 6) .skip (.exit 0)) (.seq (.block 1 (.seq (.reg r61_3) (.seq (.reg r61_4) (.cond (.var 7) (.seq (.reg r61_5) .ret) .skip)))) (.reg r61_6))))))) (.seq (.reg r61_7) .ret)))
noncomputable def q61 : List RR := [(.slot (.var 2))]
theorem z61 {n m : Nat} : resCode (E61 n m) (Tryd.f61.body.getD .skip) = some c61 := by kernel_rfl
theorem zr61 {n m : Nat} : resRs (E61 n m) Tryd.f61.results.toList = some q61 := by kernel_rfl
theorem ok61 {args : List D} {d : D} (hl : args.length = 2) (h : SWp C61 c61 (fun e s => (match e with | .exit _ => False | _ => True) ∧ rrsWp q61 s fun ds => D.closed (oneOrTup ds) = true ∧ (oneOrTup ds).er = d) (St.init C61 args ⟨[], []⟩)) : Pur M 61 args d :=
  pur_of_body (C := C61) (fn := Tryd.f61) Tryd.func61 (by kernel_rfl) (by kernel_rfl) (rc := c61) z61 (rs := q61) zr61 (by kernel_rfl) (by rw [hl]; rfl) (by rw [hl]; decide) rfl rfl h
/- 14 bogie.bogieref02.Public · 2 arguments · kept slots [0, 1, 4, 5, 11] -/
noncomputable def E14 (n m : Nat) : Cfg := ⟨M, [0, 1, 4, 5, 11], 16, n, m, []⟩
noncomputable def C14 : Cfg := E14 0 0
@[reducible] noncomputable def r14_0 : List RO := [
  ⟨.var 2, .mv, [(.con (.str []))], none⟩,
  ⟨.var 3, .mv, [.con (.int .i64 0)], none⟩]
@[reducible] noncomputable def r14_1 : List RO := [
  ⟨.loc 6, .mv, [.var 1], none⟩,
  ⟨.loc 7, .bin .lss, [.loc 6, .con (.int .i64 0)], none⟩,
  ⟨.loc 8, .mv, [.loc 7], none⟩,
  ⟨.loc 9, .mv, [.var 1], (some (.loc 8, false))⟩,
  ⟨.loc 10, .bin .gtr, [.loc 9, .con (.int .i64 8)], (some (.loc 8, false))⟩,
  ⟨.var 4, .pick, [.loc 8, .con (.bool true), .loc 10], none⟩]
@[reducible] noncomputable def r14_2 : List RO := [
  ⟨.var 2, .mv, [(.con (.str []))], none⟩,
  ⟨.var 3, .mv, [.con (.int .i64 1)], none⟩]
@[reducible] noncomputable def r14_3 : List RO := [
  ⟨.loc 12, .mv, [.var 0], none⟩,
  ⟨.loc 13, .mv, [.var 1], none⟩,
  ⟨.loc 14, .call, [(.con (.fn (.func 29) [] [])), .loc 12, .loc 13], none⟩,
  ⟨.loc 15, .call, [(.con (.fn (.func 28) [] [])), .loc 14], none⟩,
  ⟨.var 2, .mv, [.loc 15], none⟩,
  ⟨.var 3, .mv, [.con (.int .i64 0)], none⟩]
theorem P14 : C14.M = M := by unfold C14 E14; rfl
theorem i14 {a0 a1 : D} : St.init C14 [a0, a1] ⟨[], []⟩ = ⟨[a0, a1, .undef, .undef, .undef], [], ⟨[], []⟩⟩ := by unfold C14 E14; rfl
noncomputable def c14 : RC := (.seq (.reg r14_0) (.seq (.seq (.reg r14_1) (.cond (.var 4) (.seq (.reg r14_2) .ret) .skip)) (.seq (.reg r14_3) .ret)))
noncomputable def q14 : List RR := [(.slot (.var 2)), (.slot (.var 3))]
theorem z14 {n m : Nat} : resCode (E14 n m) (Tryd.f14.body.getD .skip) = some c14 := by kernel_rfl
theorem zr14 {n m : Nat} : resRs (E14 n m) Tryd.f14.results.toList = some q14 := by kernel_rfl
theorem ok14 {args : List D} {d : D} (hl : args.length = 2) (h : SWp C14 c14 (fun e s => (match e with | .exit _ => False | _ => True) ∧ rrsWp q14 s fun ds => D.closed (oneOrTup ds) = true ∧ (oneOrTup ds).er = d) (St.init C14 args ⟨[], []⟩)) : Pur M 14 args d :=
  pur_of_body (C := C14) (fn := Tryd.f14) Tryd.func14 (by kernel_rfl) (by kernel_rfl) (rc := c14) z14 (rs := q14) zr14 (by kernel_rfl) (by rw [hl]; rfl) (by rw [hl]; decide) rfl rfl h
/- 16 bogie.bogieref02.Sign · 4 arguments · kept slots [0, 1, 2, 3, 8, 9, 10, 11, 12, 28, 35] -/
noncomputable def E16 (n m : Nat) : Cfg := ⟨M, [0, 1, 2, 3, 8, 9, 10, 11, 12, 28, 35], 59, n, m, []⟩
noncomputable def C16 : Cfg := E16 0 0
@[reducible] noncomputable def r16_0 : List RO := [
  ⟨.var 4, (.newb [(.int .i64 0), (.lit (.slice none 0 0)), (.lit (.slice none 0 0))]), [], none⟩,
  ⟨.var 5, .mv, [.con (.int .i64 0)], none⟩]
@[reducible] noncomputable def r16_1 : List RO := [
  ⟨.loc 13, .mv, [.var 1], none⟩,
  ⟨.loc 14, .bin .lss, [.loc 13, .con (.int .i64 0)], none⟩,
  ⟨.loc 15, .mv, [.loc 14], none⟩,
  ⟨.loc 16, .mv, [.var 1], (some (.loc 15, false))⟩,
  ⟨.loc 17, .bin .gtr, [.loc 16, .con (.int .i64 8)], (some (.loc 15, false))⟩,
  ⟨.loc 18, .pick, [.loc 15, .con (.bool true), .loc 17], none⟩,
  ⟨.loc 19, .mv, [.loc 18], none⟩,
  ⟨.loc 20, .mv, [.var 2], (some (.loc 19, false))⟩,
  ⟨.loc 21, .bin .lss, [.loc 20, .con (.int .i64 0)], (some (.loc 19, false))⟩,
  ⟨.loc 22, .pick, [.loc 19, .con (.bool true), .loc 21], none⟩,
  ⟨.loc 23, .mv, [.loc 22], none⟩,
  ⟨.loc 24, .mv, [.var 2], (some (.loc 23, false))⟩,
  ⟨.loc 25, .mv, [.var 1], (some (.loc 23, false))⟩,
  ⟨.loc 26, .call, [(.con (.fn (.func 33) [] [])), .loc 25], (some (.loc 23, false))⟩,
  ⟨.loc 27, .bin .geq, [.loc 24, .loc 26], (some (.loc 23, false))⟩,
  ⟨.var 9, .pick, [.loc 23, .con (.bool true), .loc 27], none⟩]
@[reducible] noncomputable def r16_2 : List RO := [
  ⟨.loc 29, (.bld [(.int .i64 0), (.lit (.slice none 0 0)), (.lit (.slice none 0 0))] []), [], none⟩,
  ⟨.none, .st 3, [.var 4, .loc 29], none⟩,
  ⟨.var 5, .mv, [.con (.int .i64 1)], none⟩]
@[reducible] noncomputable def r16_3 : List RO := [
  ⟨.loc 30, .mv, [.var 2], none⟩,
  ⟨.loc 31, (.bld [(.int .i64 0), (.lit (.slice none 0 0)), (.lit (.slice none 0 0))] [(0, 1)]), [.loc 30], none⟩,
  ⟨.var 6, (.newb [(.int .i64 0), (.lit (.slice none 0 0)), (.lit (.slice none 0 0))]), [], none⟩,
  ⟨.none, .st 3, [.var 6, .loc 31], none⟩]
@[reducible] noncomputable def r16_4 : List RO := [
  ⟨.loc 32, .mv, [.var 3], none⟩,
  ⟨.loc 33, .call, [(.con (.fn (.func 34) [] [])), .loc 32], none⟩,
  ⟨.var 7, .mv, [.loc 33], none⟩]
@[reducible] noncomputable def r16_5 : List RO := [
  ⟨.var 8, .mv, [.con (.int .i64 0)], none⟩]
@[reducible] noncomputable def r16_6 : List RO := [
  ⟨.loc 34, .mv, [.var 8], none⟩,
  ⟨.var 10, .bin .lss, [.loc 34, .con (.int .i64 18)], none⟩]
@[reducible] noncomputable def r16_7 : List (RO × Bool) := [
  (⟨.loc 38, .fld 1, [.var 6], none⟩, true),
  (⟨.loc 39, .ld false 1, [.loc 38], none⟩, true),
  (⟨.loc 40, .mv, [.var 0], none⟩, true),
  (⟨.loc 41, .mv, [.var 2], none⟩, true),
  (⟨.loc 42, .mv, [.var 8], none⟩, true),
  (⟨.loc 43, .call, [(.con (.fn (.func 36) [] [])), .loc 40, .loc 41, .loc 42], none⟩, true),
  (⟨.loc 44, .mv, [.var 7], none⟩, true),
  (⟨.loc 45, .mv, [.var 8], none⟩, true),
  (⟨.loc 46, .ixaS 1, [.loc 44, .loc 45], none⟩, true),
  (⟨.loc 47, .ld false 1, [.loc 46], none⟩, true),
  (⟨.loc 48, .call, [(.con (.fn (.func 35) [] [])), .loc 43, .loc 47], none⟩, true),
  (⟨.loc 49, .bsl 1, [.loc 48], none⟩, true)]
@[reducible] noncomputable def r16_8 : List RO := [
  ⟨.loc 50, .app 1 16 9, [.loc 39, .loc 49], none⟩,
  ⟨.loc 51, .fld 1, [.var 6], none⟩,
  ⟨.none, .st 1, [.loc 51, .loc 50], none⟩]
@[reducible] noncomputable def r16_9 : List RO := [
  ⟨.loc 36, .mv, [.var 8], none⟩,
  ⟨.loc 37, .bin .add, [.loc 36, .con (.int .i64 1)], none⟩,
  ⟨.var 8, .mv, [.loc 37], none⟩]
@[reducible] noncomputable def r16_10 : List RO := [
  ⟨.loc 52, .mv, [.var 0], none⟩,
  ⟨.loc 53, .mv, [.var 1], none⟩,
  ⟨.loc 54, .call, [(.con (.fn (.func 29) [] [])), .loc 52, .loc 53], none⟩,
  ⟨.loc 55, .mv, [.var 2], none⟩,
  ⟨.loc 56, .call, [(.con (.fn (.func 37) [] [])), .loc 54, .loc 55], none⟩,
  ⟨.loc 57, .fld 2, [.var 6], none⟩,
  ⟨.none, .st 1, [.loc 57, .loc 56], none⟩]
@[reducible] noncomputable def r16_11 : List RO := [
  ⟨.loc 58, .ld true 3, [.var 6], none⟩,
  ⟨.none, .st 3, [.var 4, .loc 58], none⟩,
  ⟨.var 5, .mv, [.con (.int .i64 0)], none⟩]
theorem P16 : C16.M = M := by unfold C16 E16; rfl
theorem i16 {a0 a1 a2 a3 : D} : St.init C16 [a0, a1, a2, a3] ⟨[], []⟩ = ⟨[a0, a1, a2, a3, .undef, .undef, .undef, .undef, .undef, .undef, .undef], [], ⟨[], []⟩⟩ := by unfold C16 E16; rfl
noncomputable def c16 : RC := (.seq (.reg r16_0) (.seq (.seq (.reg r16_1) (.cond (.var 9) (.seq (.reg r16_2) .ret) .skip)) (.seq (.reg r16_3) (.seq (.reg r16_4) (.seq (.seq (.reg r16_5) (.block 0 (.loop (.seq (.seq (.reg r16_6) (.cond (.var 10) .skip (.exit 0))) (.seq (.block 1 (.regD r16_7 r16_8)) (.reg r16_9)))))) (.seq (.reg r16_10) (.seq (.reg r16_11) .ret)))))))
noncomputable def q16 : List RR := [(.cell (.var 4) true 3), (.slot (.var 5))]
theorem z16 {n m : Nat} : resCode (E16 n m) (Tryd.f16.body.getD .skip) = some c16 := by kernel_rfl
theorem zr16 {n m : Nat} : resRs (E16 n m) Tryd.f16.results.toList = some q16 := by kernel_rfl
theorem ow16 {args : List D} {d : D} (hl : args.length = 4) (h : SWp C16 c16 (fun e s => (match e with | .exit _ => False | _ => True) ∧ ∃ s1, Weak C16 s s1 ∧ rrsWp q16 s1 fun ds => D.closed (oneOrTup ds) = true ∧ (oneOrTup ds).er = d) (St.init C16 args ⟨[], []⟩)) : Pur M 16 args d :=
  pur_of_bodyW (C := C16) (fn := Tryd.f16) Tryd.func16 (by kernel_rfl) (by kernel_rfl) (rc := c16) z16 (rs := q16) zr16 (by kernel_rfl) (by rw [hl]; rfl) (by rw [hl]; decide) rfl rfl h
/- 19 bogie.bogieref02.Verify · 3 arguments · kept slots [0, 1, 2, 5, 6, 7, 8, 9, 10, 11, 12, 13, 37, 41, 50, 69, 78, 87] -/
noncomputable def E19 (n m : Nat) : Cfg := ⟨M, [0, 1, 2, 5, 6, 7, 8, 9, 10, 11, 12, 13, 37, 41, 50, 69, 78, 87], 105, n, m, []⟩
noncomputable def C19 : Cfg := E19 0 0
@[reducible] noncomputable def r19_0 : List RO := [
  ⟨.var 3, .box, [.var 2], none⟩,
  ⟨.var 4, .mv, [.con (.bool false)], none⟩]
@[reducible] noncomputable def r19_1 : List (RO × Bool) := [
  (⟨.loc 14, .fld 1, [.var 3], none⟩, true),
  (⟨.loc 15, .ld false 1, [.loc 14], none⟩, true),
  (⟨.loc 16, .lenL, [.loc 15], none⟩, true),
  (⟨.loc 17, .bin .neq, [.loc 16, .con (.int .i64 18)], none⟩, true),
  (⟨.loc 18, .mv, [.loc 17], none⟩, true),
  (⟨.loc 19, .fld 2, [.var 3], (some (.loc 18, false))⟩, true),
  (⟨.loc 20, .ld false 1, [.loc 19], (some (.loc 18, false))⟩, true),
  (⟨.loc 21, .lenL, [.loc 20], (some (.loc 18, false))⟩, true),
  (⟨.loc 22, .bin .gtr, [.loc 21, .con (.int .i64 8)], (some (.loc 18, false))⟩, true),
  (⟨.loc 23, .pick, [.loc 18, .con (.bool true), .loc 22], none⟩, true),
  (⟨.loc 24, .mv, [.loc 23], none⟩, true),
  (⟨.loc 25, .fld 0, [.var 3], (some (.loc 24, false))⟩, true),
  (⟨.loc 26, .ld false 1, [.loc 25], (some (.loc 24, false))⟩, true),
  (⟨.loc 27, .bin .lss, [.loc 26, .con (.int .i64 0)], (some (.loc 24, false))⟩, true),
  (⟨.loc 28, .pick, [.loc 24, .con (.bool true), .loc 27], none⟩, true),
  (⟨.loc 29, .mv, [.loc 28], none⟩, true),
  (⟨.loc 30, .fld 0, [.var 3], (some (.loc 29, false))⟩, true),
  (⟨.loc 31, .ld false 1, [.loc 30], (some (.loc 29, false))⟩, true),
  (⟨.loc 32, .fld 2, [.var 3], (some (.loc 29, false))⟩, true),
  (⟨.loc 33, .ld false 1, [.loc 32], (some (.loc 29, false))⟩, true),
  (⟨.loc 34, .lenL, [.loc 33], (some (.loc 29, false))⟩, true),
  (⟨.loc 35, .call, [(.con (.fn (.func 33) [] [])), .loc 34], (some (.loc 29, false))⟩, true)]
@[reducible] noncomputable def r19_2 : List RO := [
  ⟨.loc 36, .bin .geq, [.loc 31, .loc 35], (some (.loc 29, false))⟩,
  ⟨.var 12, .pick, [.loc 29, .con (.bool true), .loc 36], none⟩]
@[reducible] noncomputable def r19_3 : List RO := [
  ⟨.var 4, .mv, [.con (.bool false)], none⟩]
@[reducible] noncomputable def r19_4 : List RO := [
  ⟨.loc 38, .mv, [.var 1], none⟩,
  ⟨.loc 39, .call, [(.con (.fn (.func 34) [] [])), .loc 38], none⟩,
  ⟨.var 5, .mv, [.loc 39], none⟩]
@[reducible] noncomputable def r19_5 : List RO := [
  ⟨.var 6, .mv, [(.con (.lit (.slice none 0 0)))], none⟩]
@[reducible] noncomputable def r19_6 : List RO := [
  ⟨.var 7, .mv, [.con (.int .i64 0)], none⟩]
@[reducible] noncomputable def r19_7 : List RO := [
  ⟨.loc 40, .mv, [.var 7], none⟩,
  ⟨.var 13, .bin .lss, [.loc 40, .con (.int .i64 18)], none⟩]
@[reducible] noncomputable def r19_8 : List RO := [
  ⟨.loc 44, .fld 1, [.var 3], none⟩,
  ⟨.loc 45, .ld false 1, [.loc 44], none⟩,
  ⟨.loc 46, .mv, [.var 7], none⟩,
  ⟨.loc 47, .ixaS 1, [.loc 45, .loc 46], none⟩,
  ⟨.loc 48, .ld false 1, [.loc 47], none⟩,
  ⟨.loc 49, .call, [(.con (.fn (.func 43) [] [])), .loc 48], none⟩,
  ⟨.var 14, .un .not, [.loc 49], none⟩]
@[reducible] noncomputable def r19_9 : List RO := [
  ⟨.var 4, .mv, [.con (.bool false)], none⟩]
@[reducible] noncomputable def r19_10 : List (RO × Bool) := [
  (⟨.loc 51, .mv, [.var 6], none⟩, true),
  (⟨.loc 52, .fld 1, [.var 3], none⟩, true),
  (⟨.loc 53, .ld false 1, [.loc 52], none⟩, true),
  (⟨.loc 54, .mv, [.var 7], none⟩, true),
  (⟨.loc 55, .ixaS 1, [.loc 53, .loc 54], none⟩, true),
  (⟨.loc 56, .ld false 1, [.loc 55], none⟩, true),
  (⟨.loc 57, .mv, [.var 5], none⟩, true),
  (⟨.loc 58, .mv, [.var 7], none⟩, true),
  (⟨.loc 59, .ixaS 1, [.loc 57, .loc 58], none⟩, true),
  (⟨.loc 60, .ld false 1, [.loc 59], none⟩, true),
  (⟨.loc 61, .bin .sub, [.con (.int .i64 15), .loc 60], none⟩, true),
  (⟨.loc 62, .call, [(.con (.fn (.func 35) [] [])), .loc 56, .loc 61], none⟩, false),
  (⟨.loc 63, .bsl 1, [.loc 62], none⟩, false)]
@[reducible] noncomputable def r19_11 : List RO := [
  ⟨.loc 64, .app 1 16 9, [.loc 51, .loc 63], none⟩,
  ⟨.var 6, .mv, [.loc 64], none⟩]
@[reducible] noncomputable def r19_12 : List RO := [
  ⟨.loc 42, .mv, [.var 7], none⟩,
  ⟨.loc 43, .bin .add, [.loc 42, .con (.int .i64 1)], none⟩,
  ⟨.var 7, .mv, [.loc 43], none⟩]
@[reducible] noncomputable def r19_13 : List RO := [
  ⟨.var 8, .mv, [.con (.int .i64 0)], none⟩]
@[reducible] noncomputable def r19_14 : List RO := [
  ⟨.loc 65, .mv, [.var 8], none⟩,
  ⟨.loc 66, .fld 2, [.var 3], none⟩,
  ⟨.loc 67, .ld false 1, [.loc 66], none⟩,
  ⟨.loc 68, .lenL, [.loc 67], none⟩,
  ⟨.var 15, .bin .lss, [.loc 65, .loc 68], none⟩]
@[reducible] noncomputable def r19_15 : List RO := [
  ⟨.loc 72, .fld 2, [.var 3], none⟩,
  ⟨.loc 73, .ld false 1, [.loc 72], none⟩,
  ⟨.loc 74, .mv, [.var 8], none⟩,
  ⟨.loc 75, .ixaS 1, [.loc 73, .loc 74], none⟩,
  ⟨.loc 76, .ld false 1, [.loc 75], none⟩,
  ⟨.loc 77, .call, [(.con (.fn (.func 43) [] [])), .loc 76], none⟩,
  ⟨.var 16, .un .not, [.loc 77], none⟩]
@[reducible] noncomputable def r19_16 : List RO := [
  ⟨.var 4, .mv, [.con (.bool false)], none⟩]
@[reducible] noncomputable def r19_17 : List RO := [
  ⟨.loc 70, .mv, [.var 8], none⟩,
  ⟨.loc 71, .bin .add, [.loc 70, .con (.int .i64 1)], none⟩,
  ⟨.var 8, .mv, [.loc 71], none⟩]
@[reducible] noncomputable def r19_18 : List RO := [
  ⟨.loc 79, .mv, [.var 6], none⟩,
  ⟨.loc 80, .call, [(.con (.fn (.func 44) [] [])), .loc 79], none⟩,
  ⟨.var 9, .mv, [.loc 80], none⟩]
@[reducible] noncomputable def r19_19 : List RO := [
  ⟨.loc 81, .fld 0, [.var 3], none⟩,
  ⟨.loc 82, .ld false 1, [.loc 81], none⟩,
  ⟨.var 10, .mv, [.loc 82], none⟩]
@[reducible] noncomputable def r19_20 : List RO := [
  ⟨.var 11, .mv, [.con (.int .i64 0)], none⟩]
@[reducible] noncomputable def r19_21 : List RO := [
  ⟨.loc 83, .mv, [.var 11], none⟩,
  ⟨.loc 84, .fld 2, [.var 3], none⟩,
  ⟨.loc 85, .ld false 1, [.loc 84], none⟩,
  ⟨.loc 86, .lenL, [.loc 85], none⟩,
  ⟨.var 17, .bin .lss, [.loc 83, .loc 86], none⟩]
@[reducible] noncomputable def r19_22 : List RO := [
  ⟨.loc 90, .mv, [.var 9], none⟩,
  ⟨.loc 91, .fld 2, [.var 3], none⟩,
  ⟨.loc 92, .ld false 1, [.loc 91], none⟩,
  ⟨.loc 93, .mv, [.var 11], none⟩,
  ⟨.loc 94, .ixaS 1, [.loc 92, .loc 93], none⟩,
  ⟨.loc 95, .ld false 1, [.loc 94], none⟩,
  ⟨.loc 96, .mv, [.var 10], none⟩,
  ⟨.loc 97, .bin .rem, [.loc 96, .con (.int .i64 2)], none⟩,
  ⟨.loc 98, .bin .eql, [.loc 97, .con (.int .i64 1)], none⟩,
  ⟨.loc 99, .call, [(.con (.fn (.func 45) [] [])), .loc 90, .loc 95, .loc 98], none⟩,
  ⟨.var 9, .mv, [.loc 99], none⟩]
@[reducible] noncomputable def r19_23 : List RO := [
  ⟨.loc 100, .mv, [.var 10], none⟩,
  ⟨.loc 101, .bin .quo, [.loc 100, .con (.int .i64 2)], none⟩,
  ⟨.var 10, .mv, [.loc 101], none⟩]
@[reducible] noncomputable def r19_24 : List RO := [
  ⟨.loc 88, .mv, [.var 11], none⟩,
  ⟨.loc 89, .bin .add, [.loc 88, .con (.int .i64 1)], none⟩,
  ⟨.var 11, .mv, [.loc 89], none⟩]
@[reducible] noncomputable def r19_25 : List RO := [
  ⟨.loc 102, .mv, [.var 9], none⟩,
  ⟨.loc 103, .mv, [.var 0], none⟩,
  ⟨.loc 104, .bin .eql, [.loc 102, .loc 103], none⟩,
  ⟨.var 4, .mv, [.loc 104], none⟩]
theorem P19 : C19.M = M := by unfold C19 E19; rfl
theorem i19 {a0 a1 a2 : D} : St.init C19 [a0, a1, a2] ⟨[], []⟩ = ⟨[a0, a1, a2, .undef, .undef, .undef, .undef, .undef, .undef, .undef, .undef, .undef, .undef, .undef, .undef, .undef, .undef, .undef], [], ⟨[], []⟩⟩ := by unfold C19 E19; rfl
noncomputable def c19 : RC := (.seq (.reg r19_0) (.seq (.seq (.regD r19_1 r19_2) (.cond (.var 12) (.seq (.reg r19_3) .ret) .skip)) (.seq (.reg r19_4) (.seq (.reg r19_5) (.seq (.seq (.reg r19_6) (.block 0 (.loop (.seq (.seq (.reg r19_7) (.cond (.var 13) .skip (.exit 0))) (.seq (.block 1 (.seq (.seq (.reg r19_8) (.cond (.var 14) (.seq (.reg r19_9) .ret) .skip)) (.regD r19_10 r19_11))) (.reg r19_12)))))) (.seq (.seq (.reg r19_13) (.block 2 (.loop (.seq (.seq (.reg r19_14) (.cond (.var 15) .skip (.exit 2))) (.seq (.block 3 (.seq (.reg r19_15) (.cond (.var 16) (.seq (.reg r19_16) .ret) .skip))) (.reg r19_17)))))) (.seq (.reg r19_18) (.seq (.reg r19_19) (.seq (.seq (.reg r19_20) (.block 4 (.loop (.seq (.seq (.reg r19_21) (.cond (.var 17) .skip (.exit 4))) (.seq (.block 5 (.seq (.reg r19_22) (.reg r19_23))) (.reg r19_24)))))) (.seq (.reg r19_25) .ret))))))))))
noncomputable def q19 : List RR := [(.slot (.var 4))]
theorem z19 {n m : Nat} : resCode (E19 n m) (Tryd.f19.body.getD .skip) = some c19 := by kernel_rfl
theorem zr19 {n m : Nat} : resRs (E19 n m) Tryd.f19.results.toList = some q19 := by kernel_rfl
theorem ok19 {args : List D} {d : D} (hl : args.length = 3) (h : SWp C19 c19 (fun e s => (match e with | .exit _ => False | _ => True) ∧ rrsWp q19 s fun ds => D.closed (oneOrTup ds) = true ∧ (oneOrTup ds).er = d) (St.init C19 args ⟨[], []⟩)) : Pur M 19 args d :=
  pur_of_body (C := C19) (fn := Tryd.f19) Tryd.func19 (by kernel_rfl) (by kernel_rfl) (rc := c19) z19 (rs := q19) zr19 (by kernel_rfl) (by rw [hl]; rfl) (by rw [hl]; decide) rfl rfl h
/- 17 bogie.bogieref02.Same · 2 arguments · kept slots [0, 1, 2, 3, 4] -/
noncomputable def E17 (n m : Nat) : Cfg := ⟨M, [0, 1, 2, 3, 4], 24, n, m, []⟩
noncomputable def C17 : Cfg := E17 0 0
@[reducible] noncomputable def r17_0 : List RO := [
  ⟨.var 2, .box, [.var 0], none⟩,
  ⟨.var 3, .box, [.var 1], none⟩,
  ⟨.var 4, .mv, [.con (.bool false)], none⟩]
@[reducible] noncomputable def r17_1 : List RO := [
  ⟨.loc 5, .fld 0, [.var 2], none⟩,
  ⟨.loc 6, .ld false 1, [.loc 5], none⟩,
  ⟨.loc 7, .fld 0, [.var 3], none⟩,
  ⟨.loc 8, .ld false 1, [.loc 7], none⟩,
  ⟨.loc 9, .bin .eql, [.loc 6, .loc 8], none⟩,
  ⟨.loc 10, .mv, [.loc 9], none⟩,
  ⟨.loc 11, .fld 1, [.var 2], (some (.loc 10, true))⟩,
  ⟨.loc 12, .ld false 1, [.loc 11], (some (.loc 10, true))⟩,
  ⟨.loc 13, .fld 1, [.var 3], (some (.loc 10, true))⟩,
  ⟨.loc 14, .ld false 1, [.loc 13], (some (.loc 10, true))⟩,
  ⟨.loc 15, .call, [(.con (.fn (.func 21) [] [])), .loc 12, .loc 14], (some (.loc 10, true))⟩,
  ⟨.loc 16, .pick, [.loc 10, .loc 15, .con (.bool false)], none⟩,
  ⟨.loc 17, .mv, [.loc 16], none⟩,
  ⟨.loc 18, .fld 2, [.var 2], (some (.loc 17, true))⟩,
  ⟨.loc 19, .ld false 1, [.loc 18], (some (.loc 17, true))⟩,
  ⟨.loc 20, .fld 2, [.var 3], (some (.loc 17, true))⟩,
  ⟨.loc 21, .ld false 1, [.loc 20], (some (.loc 17, true))⟩,
  ⟨.loc 22, .call, [(.con (.fn (.func 21) [] [])), .loc 19, .loc 21], (some (.loc 17, true))⟩,
  ⟨.loc 23, .pick, [.loc 17, .loc 22, .con (.bool false)], none⟩,
  ⟨.var 4, .mv, [.loc 23], none⟩]
theorem P17 : C17.M = M := by unfold C17 E17; rfl
theorem i17 {a0 a1 : D} : St.init C17 [a0, a1] ⟨[], []⟩ = ⟨[a0, a1, .undef, .undef, .undef], [], ⟨[], []⟩⟩ := by unfold C17 E17; rfl
noncomputable def c17 : RC := (.seq (.reg r17_0) (.seq (.reg r17_1) .ret))
noncomputable def q17 : List RR := [(.slot (.var 4))]
theorem z17 {n m : Nat} : resCode (E17 n m) (Tryd.f17.body.getD .skip) = some c17 := by kernel_rfl
theorem zr17 {n m : Nat} : resRs (E17 n m) Tryd.f17.results.toList = some q17 := by kernel_rfl
theorem ok17 {args : List D} {d : D} (hl : args.length = 2) (h : SWp C17 c17 (fun e s => (match e with | .exit _ => False | _ => True) ∧ rrsWp q17 s fun ds => D.closed (oneOrTup ds) = true ∧ (oneOrTup ds).er = d) (St.init C17 args ⟨[], []⟩)) : Pur M 17 args d :=
  pur_of_body (C := C17) (fn := Tryd.f17) Tryd.func17 (by kernel_rfl) (by kernel_rfl) (rc := c17) z17 (rs := q17) zr17 (by kernel_rfl) (by rw [hl]; rfl) (by rw [hl]; decide) rfl rfl h
/- 12 bogie.bogieref02.Few · 1 arguments · kept slots [0, 1, 2, 3, 4, 13, 22, 31, 40] -/
noncomputable def E12 (n m : Nat) : Cfg := ⟨M, [0, 1, 2, 3, 4, 13, 22, 31, 40], 51, n, m, []⟩
noncomputable def C12 : Cfg := E12 0 0
@[reducible] noncomputable def r12_0 : List RO := [
  ⟨.var 1, .box, [.var 0], none⟩,
  ⟨.var 2, .mv, [.con (.bool false)], none⟩]
@[reducible] noncomputable def r12_1 : List RO := [
  ⟨.var 3, .mv, [.con (.int .i64 0)], none⟩]
@[reducible] noncomputable def r12_2 : List RO := [
  ⟨.loc 5, .mv, [.var 3], none⟩,
  ⟨.loc 6, .fld 1, [.var 1], none⟩,
  ⟨.loc 7, .ld false 1, [.loc 6], none⟩,
  ⟨.loc 8, .lenL, [.loc 7], none⟩,
  ⟨.loc 9, .bin .lss, [.loc 5, .loc 8], none⟩,
  ⟨.loc 10, .mv, [.loc 9], none⟩,
  ⟨.loc 11, .mv, [.var 3], (some (.loc 10, true))⟩,
  ⟨.loc 12, .bin .lss, [.loc 11, .con (.int .i64 30)], (some (.loc 10, true))⟩,
  ⟨.var 5, .pick, [.loc 10, .loc 12, .con (.bool false)], none⟩]
@[reducible] noncomputable def r12_3 : List RO := [
  ⟨.loc 16, .fld 1, [.var 1], none⟩,
  ⟨.loc 17, .ld false 1, [.loc 16], none⟩,
  ⟨.loc 18, .mv, [.var 3], none⟩,
  ⟨.loc 19, .ixaS 1, [.loc 17, .loc 18], none⟩,
  ⟨.loc 20, .ld false 1, [.loc 19], none⟩,
  ⟨.loc 21, .lenS, [.loc 20], none⟩,
  ⟨.var 6, .bin .gtr, [.loc 21, .con (.int .i64 100)], none⟩]
@[reducible] noncomputable def r12_4 : List RO := [
  ⟨.var 2, .mv, [.con (.bool false)], none⟩]
@[reducible] noncomputable def r12_5 : List RO := [
  ⟨.loc 14, .mv, [.var 3], none⟩,
  ⟨.loc 15, .bin .add, [.loc 14, .con (.int .i64 1)], none⟩,
  ⟨.var 3, .mv, [.loc 15], none⟩]
@[reducible] noncomputable def r12_6 : List RO := [
  ⟨.var 4, .mv, [.con (.int .i64 0)], none⟩]
@[reducible] noncomputable def r12_7 : List RO := [
  ⟨.loc 23, .mv, [.var 4], none⟩,
  ⟨.loc 24, .fld 2, [.var 1], none⟩,
  ⟨.loc 25, .ld false 1, [.loc 24], none⟩,
  ⟨.loc 26, .lenL, [.loc 25], none⟩,
  ⟨.loc 27, .bin .lss, [.loc 23, .loc 26], none⟩,
  ⟨.loc 28, .mv, [.loc 27], none⟩,
  ⟨.loc 29, .mv, [.var 4], (some (.loc 28, true))⟩,
  ⟨.loc 30, .bin .lss, [.loc 29, .con (.int .i64 30)], (some (.loc 28, true))⟩,
  ⟨.var 7, .pick, [.loc 28, .loc 30, .con (.bool false)], none⟩]
@[reducible] noncomputable def r12_8 : List RO := [
  ⟨.loc 34, .fld 2, [.var 1], none⟩,
  ⟨.loc 35, .ld false 1, [.loc 34], none⟩,
  ⟨.loc 36, .mv, [.var 4], none⟩,
  ⟨.loc 37, .ixaS 1, [.loc 35, .loc 36], none⟩,
  ⟨.loc 38, .ld false 1, [.loc 37], none⟩,
  ⟨.loc 39, .lenS, [.loc 38], none⟩,
  ⟨.var 8, .bin .gtr, [.loc 39, .con (.int .i64 100)], none⟩]
@[reducible] noncomputable def r12_9 : List RO := [
  ⟨.var 2, .mv, [.con (.bool false)], none⟩]
@[reducible] noncomputable def r12_10 : List RO := [
  ⟨.loc 32, .mv, [.var 4], none⟩,
  ⟨.loc 33, .bin .add, [.loc 32, .con (.int .i64 1)], none⟩,
  ⟨.var 4, .mv, [.loc 33], none⟩]
@[reducible] noncomputable def r12_11 : List RO := [
  ⟨.loc 41, .fld 1, [.var 1], none⟩,
  ⟨.loc 42, .ld false 1, [.loc 41], none⟩,
  ⟨.loc 43, .lenL, [.loc 42], none⟩,
  ⟨.loc 44, .bin .leq, [.loc 43, .con (.int .i64 30)], none⟩,
  ⟨.loc 45, .mv, [.loc 44], none⟩,
  ⟨.loc 46, .fld 2, [.var 1], (some (.loc 45, true))⟩,
  ⟨.loc 47, .ld false 1, [.loc 46], (some (.loc 45, true))⟩,
  ⟨.loc 48, .lenL, [.loc 47], (some (.loc 45, true))⟩,
  ⟨.loc 49, .bin .leq, [.loc 48, .con (.int .i64 30)], (some (.loc 45, true))⟩,
  ⟨.loc 50, .pick, [.loc 45, .loc 49, .con (.bool false)], none⟩,
  ⟨.var 2, .mv, [.loc 50], none⟩]
theorem P12 : C12.M = M := by unfold C12 E12; rfl
theorem i12 {a0 : D} : St.init C12 [a0] ⟨[], []⟩ = ⟨[a0, .undef, .undef, .undef, .undef, .undef, .undef, .undef, .undef], [], ⟨[], []⟩⟩ := by unfold C12 E12; rfl
noncomputable def c12 : RC := (.seq (.reg r12_0) (.seq (.seq (.reg r12_1) (.block 0 (.loop (.seq (.seq (.reg r12_2) (.cond (.var 5) .skip (.exit 0))) (.seq (.block 1 (.seq (.reg r12_3) (.cond (.var 6) (.seq (.reg r12_4) .ret) .skip))) (.reg r12_5)))))) (.seq (.seq (.reg r12_6) (.block 2 (.loop (.seq (.seq (.reg r12_7) (.cond (.var 7) .skip (.exit 2))) (.seq (.block 3 (.seq (.reg r12_8) (.cond (.var 8) (.seq (.reg r12_9) .ret) .skip))) (.reg r12_10)))))) (.seq (.reg r12_11) .ret))))
noncomputable def q12 : List RR := [(.slot (.var 2))]
theorem z12 {n m : Nat} : resCode (E12 n m) (Tryd.f12.body.getD .skip) = some c12 := by kernel_rfl
theorem zr12 {n m : Nat} : resRs (E12 n m) Tryd.f12.results.toList = some q12 := by kernel_rfl
theorem ok12 {args : List D} {d : D} (hl : args.length = 1) (h : SWp C12 c12 (fun e s => (match e with | .exit _ => False | _ => True) ∧ rrsWp q12 s fun ds => D.closed (oneOrTup ds) = true ∧ (oneOrTup ds).er = d) (St.init C12 args ⟨[], []⟩)) : Pur M 12 args d :=
  pur_of_body (C := C12) (fn := Tryd.f12) Tryd.func12 (by kernel_rfl) (by kernel_rfl) (rc := c12) z12 (rs := q12) zr12 (by kernel_rfl) (by rw [hl]; rfl) (by rw [hl]; decide) rfl rfl h
/- 11 bogie.bogielaw02.short · 1 arguments · kept slots [0, 2, 3, 7, 15] -/
noncomputable def E11 (n m : Nat) : Cfg := ⟨M, [0, 2, 3, 7, 15], 16, n, m, []⟩
noncomputable def C11 : Cfg := E11 0 0
@[reducible] noncomputable def r11_0 : List RO := [
  ⟨.var 1, .mv, [.con (.bool false)], none⟩]
@[reducible] noncomputable def r11_1 : List RO := [
  ⟨.var 2, .mv, [.con (.int .i64 0)], none⟩]
@[reducible] noncomputable def r11_2 : List RO := [
  ⟨.loc 4, .mv, [.var 2], none⟩,
  ⟨.loc 5, .mv, [.var 0], none⟩,
  ⟨.loc 6, .lenL, [.loc 5], none⟩,
  ⟨.var 3, .bin .lss, [.loc 4, .loc 6], none⟩]
@[reducible] noncomputable def r11_3 : List RO := [
  ⟨.loc 10, .mv, [.var 0], none⟩,
  ⟨.loc 11, .mv, [.var 2], none⟩,
  ⟨.loc 12, .ixaS 1, [.loc 10, .loc 11], none⟩,
  ⟨.loc 13, .ld false 1, [.loc 12], none⟩,
  ⟨.loc 14, .lenS, [.loc 13], none⟩,
  ⟨.var 4, .bin .gtr, [.loc 14, .con (.int .i64 300)], none⟩]
@[reducible] noncomputable def r11_4 : List RO := [
  ⟨.var 1, .mv, [.con (.bool false)], none⟩]
@[reducible] noncomputable def r11_5 : List RO := [
  ⟨.loc 8, .mv, [.var 2], none⟩,
  ⟨.loc 9, .bin .add, [.loc 8, .con (.int .i64 1)], none⟩,
  ⟨.var 2, .mv, [.loc 9], none⟩]
@[reducible] noncomputable def r11_6 : List RO := [
  ⟨.var 1, .mv, [.con (.bool true)], none⟩]
theorem P11 : C11.M = M := by unfold C11 E11; rfl
theorem i11 {a0 : D} : St.init C11 [a0] ⟨[], []⟩ = ⟨[a0, .undef, .undef, .undef, .undef], [], ⟨[], []⟩⟩ := by unfold C11 E11; rfl
noncomputable def c11 : RC := (.seq (.reg r11_0) (.seq (.seq (.reg r11_1) (.block 0 (.loop (.seq (.seq (.reg r11_2) (.cond (.var 3) .skip (.exit 0))) (.seq (.block 1 (.seq (.reg r11_3) (.cond (.var 4) (.seq (.reg r11_4) .ret) .skip))) (.reg r11_5)))))) (.seq (.reg r11_6) .ret)))
noncomputable def q11 : List RR := [(.slot (.var 1))]
theorem z11 {n m : Nat} : resCode (E11 n m) (Tryd.f11.body.getD .skip) = some c11 := by kernel_rfl
theorem zr11 {n m : Nat} : resRs (E11 n m) Tryd.f11.results.toList = some q11 := by kernel_rfl
theorem ok11 {args : List D} {d : D} (hl : args.length = 1) (h : SWp C11 c11 (fun e s => (match e with | .exit _ => False | _ => True) ∧ rrsWp q11 s fun ds => D.closed (oneOrTup ds) = true ∧ (oneOrTup ds).er = d) (St.init C11 args ⟨[], []⟩)) : Pur M 11 args d :=
  pur_of_body (C := C11) (fn := Tryd.f11) Tryd.func11 (by kernel_rfl) (by kernel_rfl) (rc := c11) z11 (rs := q11) zr11 (by kernel_rfl) (by rw [hl]; rfl) (by rw [hl]; decide) rfl rfl h
/- 49 bogie.bogieref02.chained · 2 arguments · kept slots [0, 1, 4, 5, 6, 11] -/
/- 50 bogie.bogieref02.node · 2 arguments · kept slots [0, 1, 4] -/
/- 23 bogie.bogieref02.Made · 3 arguments · kept slots [0, 1, 2, 6, 7, 8, 9, 10, 11, 12, 13, 14, 15, 16, 20, 24, 64, 69] -/
/- 24 bogie.bogieref02.Checked · 2 arguments · kept slots [0, 1, 3, 4, 5, 6, 7, 8, 9, 10, 11, 12, 13, 14, 25, 67, 79] -/
/- 22 bogie.bogieref02.Shown · 1 arguments · kept slots [0, 2, 3, 4, 5, 6, 10, 24, 29, 51] -/
/- 13 bogie.sign.Public · 2 arguments · kept slots [0, 1, 4, 5, 6, 12, 18] -/
noncomputable def E13 (n m : Nat) : Cfg := ⟨M, [0, 1, 4, 5, 6, 12, 18], 24, n, m, []⟩
noncomputable def C13 : Cfg := E13 0 0
@[reducible] noncomputable def r13_0 : List RO := [
  ⟨.var 2, .mv, [(.con (.str []))], none⟩,
  ⟨.var 3, .mv, [.con (.int .i64 0)], none⟩]
@[reducible] noncomputable def r13_1 : List RO := [
  ⟨.loc 7, .mv, [.var 1], none⟩,
  ⟨.loc 8, .bin .lss, [.loc 7, .con (.int .i64 0)], none⟩,
  ⟨.loc 9, .mv, [.loc 8], none⟩,
  ⟨.loc 10, .mv, [.var 1], (some (.loc 9, false))⟩,
  ⟨.loc 11, .bin .gtr, [.loc 10, .con (.int .i64 8)], (some (.loc 9, false))⟩,
  ⟨.var 5, .pick, [.loc 9, .con (.bool true), .loc 11], none⟩]
@[reducible] noncomputable def r13_2 : List RO := [
  ⟨.var 2, .mv, [(.con (.str []))], none⟩,
  ⟨.var 3, .mv, [.con (.int .i64 1)], none⟩]
@[reducible] noncomputable def r13_3 : List RO := [
  ⟨.loc 13, .mv, [.var 0], none⟩,
  ⟨.loc 14, .mv, [.var 1], none⟩,
  ⟨.loc 15, .call, [(.con (.fn (.func 26) [] [])), .loc 13, .loc 14], none⟩,
  ⟨.var 4, .mv, [.loc 15], none⟩]
@[reducible] noncomputable def r13_4 : List RO := [
  ⟨.loc 16, .mv, [.var 4], none⟩,
  ⟨.loc 17, .lenL, [.loc 16], none⟩,
  ⟨.var 6, .bin .gtr, [.loc 17, .con (.int .i64 1)], none⟩]
@[reducible] noncomputable def r13_5 : List RO := [
  ⟨.loc 19, .mv, [.var 4], none⟩,
  ⟨.loc 20, .call, [(.con (.fn (.func 27) [] [])), .loc 19], none⟩,
  ⟨.var 4, .mv, [.loc 20], none⟩]
@[reducible] noncomputable def r13_6 : List RO := [
  ⟨.loc 21, .mv, [.var 4], none⟩,
  ⟨.loc 22, .ixaS 1, [.loc 21, .con (.int .i64 0)], none⟩,
  ⟨.loc 23, .ld false 1, [.loc 22], none⟩,
  ⟨.var 2, .mv, [.loc 23], none⟩,
  ⟨.var 3, .mv, [.con (.int .i64 0)], none⟩]
theorem P13 : C13.M = M := by unfold C13 E13; rfl
theorem i13 {a0 a1 : D} : St.init C13 [a0, a1] ⟨[], []⟩ = ⟨[a0, a1, .undef, .undef, .undef, .undef, .undef], [], ⟨[], []⟩⟩ := by unfold C13 E13; rfl
noncomputable def c13 : RC := (.seq (.reg r13_0) (.seq (.seq (.reg r13_1) (.cond (.var 5) (.seq (.reg r13_2) .ret) .skip)) (.seq (.reg r13_3) (.seq (.block 0 (.loop (.seq (.seq (.reg r13_4) (.cond (.var 6) .skip (.exit 0))) (.block 1 (.reg r13_5))))) (.seq (.reg r13_6) .ret)))))
noncomputable def q13 : List RR := [(.slot (.var 2)), (.slot (.var 3))]
theorem z13 {n m : Nat} : resCode (E13 n m) (Tryd.f13.body.getD .skip) = some c13 := by kernel_rfl
theorem zr13 {n m : Nat} : resRs (E13 n m) Tryd.f13.results.toList = some q13 := by kernel_rfl
theorem ok13 {args : List D} {d : D} (hl : args.length = 2) (h : SWp C13 c13 (fun e s => (match e with | .exit _ => False | _ => True) ∧ rrsWp q13 s fun ds => D.closed (oneOrTup ds) = true ∧ (oneOrTup ds).er = d) (St.init C13 args ⟨[], []⟩)) : Pur M 13 args d :=
  pur_of_body (C := C13) (fn := Tryd.f13) Tryd.func13 (by kernel_rfl) (by kernel_rfl) (rc := c13) z13 (rs := q13) zr13 (by kernel_rfl) (by rw [hl]; rfl) (by rw [hl]; decide) rfl rfl h
/- 15 bogie.sign.Sign · 4 arguments · kept slots [0, 1, 2, 3, 4, 6, 8, 9, 10, 11, 12, 13, 14, 30, 35, 36, 37, 55] -/
noncomputable def E15 (n m : Nat) : Cfg := ⟨M, [0, 1, 2, 3, 4, 6, 8, 9, 10, 11, 12, 13, 14, 30, 35, 36, 37, 55], 71, n, m, []⟩
noncomputable def C15 : Cfg := E15 0 0
@[reducible] noncomputable def r15_0 : List RO := [
  ⟨.var 4, .box, [.var 0], none⟩,
  ⟨.var 5, .box, [.var 2], none⟩,
  ⟨.var 6, (.newb [(.int .i64 0), (.lit (.slice none 0 0)), (.lit (.slice none 0 0))]), [], none⟩,
  ⟨.var 7, .mv, [.con (.int .i64 0)], none⟩]
@[reducible] noncomputable def r15_1 : List (RO × Bool) := [
  (⟨.loc 15, .mv, [.var 1], none⟩, true),
  (⟨.loc 16, .bin .lss, [.loc 15, .con (.int .i64 0)], none⟩, true),
  (⟨.loc 17, .mv, [.loc 16], none⟩, true),
  (⟨.loc 18, .mv, [.var 1], (some (.loc 17, false))⟩, true),
  (⟨.loc 19, .bin .gtr, [.loc 18, .con (.int .i64 8)], (some (.loc 17, false))⟩, true),
  (⟨.loc 20, .pick, [.loc 17, .con (.bool true), .loc 19], none⟩, true),
  (⟨.loc 21, .mv, [.loc 20], none⟩, true),
  (⟨.loc 22, .ld false 1, [.var 5], (some (.loc 21, false))⟩, true),
  (⟨.loc 23, .bin .lss, [.loc 22, .con (.int .i64 0)], (some (.loc 21, false))⟩, true),
  (⟨.loc 24, .pick, [.loc 21, .con (.bool true), .loc 23], none⟩, true),
  (⟨.loc 25, .mv, [.loc 24], none⟩, true),
  (⟨.loc 26, .ld false 1, [.var 5], (some (.loc 25, false))⟩, true),
  (⟨.loc 27, .mv, [.var 1], (some (.loc 25, false))⟩, true),
  (⟨.loc 28, .bin .shl, [.con (.int .i64 1), .loc 27], (some (.loc 25, false))⟩, true)]
@[reducible] noncomputable def r15_2 : List RO := [
  ⟨.loc 29, .bin .geq, [.loc 26, .loc 28], (some (.loc 25, false))⟩,
  ⟨.var 13, .pick, [.loc 25, .con (.bool true), .loc 29], none⟩]
@[reducible] noncomputable def r15_3 : List RO := [
  ⟨.loc 31, (.bld [(.int .i64 0), (.lit (.slice none 0 0)), (.lit (.slice none 0 0))] []), [], none⟩,
  ⟨.none, .st 3, [.var 6, .loc 31], none⟩,
  ⟨.var 7, .mv, [.con (.int .i64 1)], none⟩]
@[reducible] noncomputable def r15_4 : List RO := [
  ⟨.loc 32, .ld false 1, [.var 5], none⟩,
  ⟨.loc 33, (.bld [(.int .i64 0), (.lit (.slice none 0 0)), (.lit (.slice none 0 0))] [(0, 1)]), [.loc 32], none⟩,
  ⟨.var 8, (.newb [(.int .i64 0), (.lit (.slice none 0 0)), (.lit (.slice none 0 0))]), [], none⟩,
  ⟨.none, .st 3, [.var 8, .loc 33], none⟩]
@[reducible] noncomputable def r15_5 : List RO := [
  ⟨.loc 34, .mv, [.var 3], none⟩,
  ⟨.var 14, .call, [(.con (.fn (.func 30) [] [])), .loc 34], none⟩]
@[reducible] noncomputable def r15_6 : List RO := [
  ⟨.var 9, .mv, [.var 15], none⟩]
@[reducible] noncomputable def r15_7 : List RO := [
  ⟨.var 10, .mv, [.var 16], none⟩]
@[reducible] noncomputable def r15_8 : List (RO × Bool) := [
  (⟨.loc 38, .fld 1, [.var 8], none⟩, true),
  (⟨.loc 39, .ld false 1, [.loc 38], none⟩, true),
  (⟨.loc 40, .ld false 1, [.var 4], none⟩, true),
  (⟨.loc 41, .ld false 1, [.var 5], none⟩, true),
  (⟨.loc 42, .mv, [.var 9], none⟩, true),
  (⟨.loc 43, .call, [(.con (.fn (.func 32) [] [])), .loc 40, .loc 41, .loc 42], none⟩, true),
  (⟨.loc 44, .mv, [.var 10], none⟩, true),
  (⟨.loc 45, .call, [(.con (.fn (.func 31) [] [])), .loc 43, .loc 44], none⟩, true),
  (⟨.loc 46, .bsl 1, [.loc 45], none⟩, true)]
@[reducible] noncomputable def r15_9 : List RO := [
  ⟨.loc 47, .app 1 16 9, [.loc 39, .loc 46], none⟩,
  ⟨.loc 48, .fld 1, [.var 8], none⟩,
  ⟨.none, .st 1, [.loc 48, .loc 47], none⟩]
@[reducible] noncomputable def r15_10 : List (RO × Bool) := [
  (⟨.loc 49, .ld false 1, [.var 4], none⟩, true),
  (⟨.loc 50, .mv, [.var 1], none⟩, true),
  (⟨.loc 51, .call, [(.con (.fn (.func 26) [] [])), .loc 49, .loc 50], none⟩, true),
  (⟨.loc 52, .ld false 1, [.var 5], none⟩, true),
  (⟨.var 11, .mv, [.loc 51], none⟩, true)]
@[reducible] noncomputable def r15_11 : List RO := [
  ⟨.var 12, .mv, [.loc 52], none⟩]
@[reducible] noncomputable def r15_12 : List RO := [
  ⟨.loc 53, .mv, [.var 11], none⟩,
  ⟨.loc 54, .lenL, [.loc 53], none⟩,
  ⟨.var 17, .bin .gtr, [.loc 54, .con (.int .i64 1)], none⟩]
@[reducible] noncomputable def r15_13 : List (RO × Bool) := [
  (⟨.loc 60, .fld 2, [.var 8], none⟩, true),
  (⟨.loc 61, .ld false 1, [.loc 60], none⟩, true),
  (⟨.loc 62, .mv, [.var 11], none⟩, true),
  (⟨.loc 63, .mv, [.var 12], none⟩, true),
  (⟨.loc 64, .bin .xor, [.loc 63, .con (.int .i64 1)], none⟩, true),
  (⟨.loc 65, .ixaS 1, [.loc 62, .loc 64], none⟩, true),
  (⟨.loc 66, .ld false 1, [.loc 65], none⟩, true),
  (⟨.loc 67, .bsl 1, [.loc 66], none⟩, true)]
@[reducible] noncomputable def r15_14 : List RO := [
  ⟨.loc 68, .app 1 16 9, [.loc 61, .loc 67], none⟩,
  ⟨.loc 69, .fld 2, [.var 8], none⟩,
  ⟨.none, .st 1, [.loc 69, .loc 68], none⟩]
@[reducible] noncomputable def r15_15 : List RO := [
  ⟨.loc 56, .mv, [.var 11], none⟩,
  ⟨.loc 57, .call, [(.con (.fn (.func 27) [] [])), .loc 56], none⟩,
  ⟨.loc 58, .mv, [.var 12], none⟩,
  ⟨.loc 59, .bin .quo, [.loc 58, .con (.int .i64 2)], none⟩,
  ⟨.var 11, .mv, [.loc 57], none⟩,
  ⟨.var 12, .mv, [.loc 59], none⟩]
@[reducible] noncomputable def r15_16 : List RO := [
  ⟨.loc 70, .ld true 3, [.var 8], none⟩,
  ⟨.none, .st 3, [.var 6, .loc 70], none⟩,
  ⟨.var 7, .mv, [.con (.int .i64 0)], none⟩]
theorem P15 : C15.M = M := by unfold C15 E15; rfl
theorem i15 {a0 a1 a2 a3 : D} : St.init C15 [a0, a1, a2, a3] ⟨[], []⟩ = ⟨[a0, a1, a2, a3, .undef, .undef, .undef, .undef, .undef, .undef, .undef, .undef, .undef, .undef, .undef, .undef, .undef, .undef], [], ⟨[], []⟩⟩ := by unfold C15 E15; rfl
noncomputable def c15 : RC := (.seq (.reg r15_0) (.seq (.seq (.regD r15_1 r15_2) (.cond (.var 13) (.seq (.reg r15_3) .ret) .skip)) (.seq (.reg r15_4) (.seq (.seq (.reg r15_5) (.block 0 (.rangeF (.var 14) [(.var 15), (.var 16)] (.seq (.reg r15_6) (.reg r15_7)) (.block 1 (.regD r15_8 r15_9))))) (.seq (.seq (.regD r15_10 r15_11) (.block 2 (.loop (.seq (.seq (.reg r15_12) (.cond (.var 17) .skip (.exit 2))) (.seq (.block 3 (.regD r15_13 r15_14)) (.reg r15_15)))))) (.seq (.reg r15_16) .ret))))))
noncomputable def q15 : List RR := [(.cell (.var 6) true 3), (.slot (.var 7))]
theorem z15 {n m : Nat} : resCode (E15 n m) (Tryd.f15.body.getD .skip) = some c15 := by kernel_rfl
theorem zr15 {n m : Nat} : resRs (E15 n m) Tryd.f15.results.toList = some q15 := by kernel_rfl
theorem oT15 {args : List D} {d : D} (hl : args.length = 4) (h : TWp C15 0 0 c15 (fun e n m s => (match e with | .exit _ => False | _ => True) ∧ ∃ s1, (∀ ds, Weak { C15 with n0 := n, m0 := m, dfs := ds } s s1) ∧ rrsWp q15 s1 fun ds => D.closed (oneOrTup ds) = true ∧ (oneOrTup ds).er = d) (St.init C15 args ⟨[], []⟩)) : Pur M 15 args d :=
  pur_of_bodyT (C := C15) (fn := Tryd.f15) Tryd.func15 (by kernel_rfl) (by kernel_rfl) (rc := c15) z15 (rs := q15) zr15 (by kernel_rfl) (by rw [hl]; rfl) (by rw [hl]; decide) rfl rfl h
/- 18 bogie.sign.Verify · 3 arguments · kept slots [0, 1, 2, 5, 6, 7, 8, 9, 10, 11, 12, 13, 14, 49, 51, 52, 53, 68, 69, 70, 71] -/
noncomputable def E18 (n m : Nat) : Cfg := ⟨M, [0, 1, 2, 5, 6, 7, 8, 9, 10, 11, 12, 13, 14, 49, 51, 52, 53, 68, 69, 70, 71], 88, n, m, []⟩
noncomputable def C18 : Cfg := E18 0 0
@[reducible] noncomputable def r18_0 : List RO := [
  ⟨.var 3, .box, [.var 2], none⟩,
  ⟨.var 4, .mv, [.con (.bool false)], none⟩]
@[reducible] noncomputable def r18_1 : List RO := [
  ⟨.loc 15, .fld 2, [.var 3], none⟩,
  ⟨.loc 16, .ld false 1, [.loc 15], none⟩,
  ⟨.loc 17, .lenL, [.loc 16], none⟩,
  ⟨.var 5, .mv, [.loc 17], none⟩]
@[reducible] noncomputable def r18_2 : List RO := [
  ⟨.var 6, .mv, [(.con (.fn (.func 38) [] []))], none⟩]
@[reducible] noncomputable def r18_3 : List (RO × Bool) := [
  (⟨.loc 18, .fld 1, [.var 3], none⟩, true),
  (⟨.loc 19, .ld false 1, [.loc 18], none⟩, true),
  (⟨.loc 20, .lenL, [.loc 19], none⟩, true),
  (⟨.loc 21, .bin .neq, [.loc 20, .con (.int .i64 18)], none⟩, true),
  (⟨.loc 22, .mv, [.loc 21], none⟩, true),
  (⟨.loc 23, .mv, [.var 5], (some (.loc 22, false))⟩, true),
  (⟨.loc 24, .bin .gtr, [.loc 23, .con (.int .i64 8)], (some (.loc 22, false))⟩, true),
  (⟨.loc 25, .pick, [.loc 22, .con (.bool true), .loc 24], none⟩, true),
  (⟨.loc 26, .mv, [.loc 25], none⟩, true),
  (⟨.loc 27, .mv, [.var 6], (some (.loc 26, false))⟩, true),
  (⟨.loc 28, .fld 1, [.var 3], (some (.loc 26, false))⟩, true),
  (⟨.loc 29, .ld false 1, [.loc 28], (some (.loc 26, false))⟩, true),
  (⟨.loc 30, .call, [.loc 27, .loc 29], (some (.loc 26, false))⟩, false),
  (⟨.loc 31, .pick, [.loc 26, .con (.bool true), .loc 30], none⟩, true),
  (⟨.loc 32, .mv, [.loc 31], none⟩, true),
  (⟨.loc 33, .mv, [.var 6], (some (.loc 32, false))⟩, true),
  (⟨.loc 34, .fld 2, [.var 3], (some (.loc 32, false))⟩, true),
  (⟨.loc 35, .ld false 1, [.loc 34], (some (.loc 32, false))⟩, true),
  (⟨.loc 36, .call, [.loc 33, .loc 35], (some (.loc 32, false))⟩, false),
  (⟨.loc 37, .pick, [.loc 32, .con (.bool true), .loc 36], none⟩, true),
  (⟨.loc 38, .mv, [.loc 37], none⟩, true),
  (⟨.loc 39, .fld 0, [.var 3], (some (.loc 38, false))⟩, true),
  (⟨.loc 40, .ld false 1, [.loc 39], (some (.loc 38, false))⟩, true),
  (⟨.loc 41, .bin .lss, [.loc 40, .con (.int .i64 0)], (some (.loc 38, false))⟩, true),
  (⟨.loc 42, .pick, [.loc 38, .con (.bool true), .loc 41], none⟩, true),
  (⟨.loc 43, .mv, [.loc 42], none⟩, true),
  (⟨.loc 44, .fld 0, [.var 3], (some (.loc 43, false))⟩, true),
  (⟨.loc 45, .ld false 1, [.loc 44], (some (.loc 43, false))⟩, true),
  (⟨.loc 46, .mv, [.var 5], (some (.loc 43, false))⟩, true),
  (⟨.loc 47, .bin .shl, [.con (.int .i64 1), .loc 46], (some (.loc 43, false))⟩, true)]
@[reducible] noncomputable def r18_4 : List RO := [
  ⟨.loc 48, .bin .geq, [.loc 45, .loc 47], (some (.loc 43, false))⟩,
  ⟨.var 13, .pick, [.loc 43, .con (.bool true), .loc 48], none⟩]
@[reducible] noncomputable def r18_5 : List RO := [
  ⟨.var 4, .mv, [.con (.bool false)], none⟩]
@[reducible] noncomputable def r18_6 : List RO := [
  ⟨.var 7, (.newb [(.lit (.slice none 0 0))]), [], none⟩]
@[reducible] noncomputable def r18_7 : List RO := [
  ⟨.loc 50, .mv, [.var 1], none⟩,
  ⟨.var 14, .call, [(.con (.fn (.func 30) [] [])), .loc 50], none⟩]
@[reducible] noncomputable def r18_8 : List RO := [
  ⟨.var 8, .mv, [.var 15], none⟩]
@[reducible] noncomputable def r18_9 : List RO := [
  ⟨.var 9, .mv, [.var 16], none⟩]
@[reducible] noncomputable def r18_10 : List (RO × Bool) := [
  (⟨.loc 54, .ld false 1, [.var 7], none⟩, true),
  (⟨.loc 55, .fld 1, [.var 3], none⟩, true),
  (⟨.loc 56, .ld false 1, [.loc 55], none⟩, true),
  (⟨.loc 57, .mv, [.var 8], none⟩, true),
  (⟨.loc 58, .ixaS 1, [.loc 56, .loc 57], none⟩, true),
  (⟨.loc 59, .ld false 1, [.loc 58], none⟩, true),
  (⟨.loc 60, .mv, [.var 9], none⟩, true),
  (⟨.loc 61, .bin .sub, [.con (.int .i64 15), .loc 60], none⟩, true),
  (⟨.loc 62, .call, [(.con (.fn (.func 31) [] [])), .loc 59, .loc 61], none⟩, true),
  (⟨.loc 63, .bsl 1, [.loc 62], none⟩, true)]
@[reducible] noncomputable def r18_11 : List RO := [
  ⟨.loc 64, .app 1 16 9, [.loc 54, .loc 63], none⟩,
  ⟨.none, .st 1, [.var 7, .loc 64], none⟩]
@[reducible] noncomputable def r18_12 : List RO := [
  ⟨.loc 65, .ld false 1, [.var 7], none⟩,
  ⟨.loc 66, .call, [(.con (.fn (.func 41) [] [])), .loc 65], none⟩,
  ⟨.var 10, .mv, [.loc 66], none⟩]
@[reducible] noncomputable def r18_13 : List RO := [
  ⟨.loc 67, .fld 2, [.var 3], none⟩,
  ⟨.var 17, .ld false 1, [.loc 67], none⟩,
  ⟨.var 18, .lenL, [.var 17], none⟩,
  ⟨.var 19, .mv, [.con (.int .i64 0)], none⟩]
@[reducible] noncomputable def r18_14 : List RO := [
  ⟨.var 20, .bin .lss, [.var 19, .var 18], none⟩]
@[reducible] noncomputable def r18_15 : List RO := [
  ⟨.loc 72, .mv, [.var 19], none⟩,
  ⟨.loc 73, .ixaS 1, [.var 17, .var 19], none⟩,
  ⟨.loc 74, .ld false 1, [.loc 73], none⟩,
  ⟨.var 11, .mv, [.loc 72], none⟩,
  ⟨.var 12, .mv, [.loc 74], none⟩]
@[reducible] noncomputable def r18_16 : List RO := [
  ⟨.loc 75, .mv, [.var 10], none⟩,
  ⟨.loc 76, .mv, [.var 12], none⟩,
  ⟨.loc 77, .fld 0, [.var 3], none⟩,
  ⟨.loc 78, .ld false 1, [.loc 77], none⟩,
  ⟨.loc 79, .mv, [.var 11], none⟩,
  ⟨.loc 80, .bin .shr, [.loc 78, .loc 79], none⟩,
  ⟨.loc 81, .bin .and, [.loc 80, .con (.int .i64 1)], none⟩,
  ⟨.loc 82, .bin .eql, [.loc 81, .con (.int .i64 1)], none⟩,
  ⟨.loc 83, .call, [(.con (.fn (.func 42) [] [])), .loc 75, .loc 76, .loc 82], none⟩,
  ⟨.var 10, .mv, [.loc 83], none⟩]
@[reducible] noncomputable def r18_17 : List RO := [
  ⟨.loc 84, .bin .add, [.var 19, .con (.int .i64 1)], none⟩,
  ⟨.var 19, .mv, [.loc 84], none⟩]
@[reducible] noncomputable def r18_18 : List RO := [
  ⟨.loc 85, .mv, [.var 10], none⟩,
  ⟨.loc 86, .mv, [.var 0], none⟩,
  ⟨.loc 87, .bin .eql, [.loc 85, .loc 86], none⟩,
  ⟨.var 4, .mv, [.loc 87], none⟩]
theorem P18 : C18.M = M := by unfold C18 E18; rfl
theorem i18 {a0 a1 a2 : D} : St.init C18 [a0, a1, a2] ⟨[], []⟩ = ⟨[a0, a1, a2, .undef, .undef, .undef, .undef, .undef, .undef, .undef, .undef, .undef, .undef, .undef, .undef, .undef, .undef, .undef, .undef, .undef, .undef], [], ⟨[], []⟩⟩ := by unfold C18 E18; rfl
noncomputable def c18 : RC := (.seq (.reg r18_0) (.seq (.reg r18_1) (.seq (.reg r18_2) (.seq (.seq (.regD r18_3 r18_4) (.cond (.var 13) (.seq (.reg r18_5) .ret) .skip)) (.seq (.reg r18_6) (.seq (.seq (.reg r18_7) (.block 0 (.rangeF (.var 14) [(.var 15), (.var 16)] (.seq (.reg r18_8) (.reg r18_9)) (.block 1 (.regD r18_10 r18_11))))) (.seq (.reg r18_12) (.seq (.seq (.reg r18_13) (.block 2 (.loop (.seq (.reg r18_14) (.seq (.cond (.var 20) .skip (.exit 2)) (.seq (.block 3 (.seq (.reg r18_15) (.reg r18_16))) (.reg r18_17))))))) (.seq (.reg r18_18) .ret)))))))))
noncomputable def q18 : List RR := [(.slot (.var 4))]
theorem z18 {n m : Nat} : resCode (E18 n m) (Tryd.f18.body.getD .skip) = some c18 := by kernel_rfl
theorem zr18 {n m : Nat} : resRs (E18 n m) Tryd.f18.results.toList = some q18 := by kernel_rfl
theorem oT18 {args : List D} {d : D} (hl : args.length = 3) (h : TWp C18 0 0 c18 (fun e n m s => (match e with | .exit _ => False | _ => True) ∧ ∃ s1, (∀ ds, Weak { C18 with n0 := n, m0 := m, dfs := ds } s s1) ∧ rrsWp q18 s1 fun ds => D.closed (oneOrTup ds) = true ∧ (oneOrTup ds).er = d) (St.init C18 args ⟨[], []⟩)) : Pur M 18 args d :=
  pur_of_bodyT (C := C18) (fn := Tryd.f18) Tryd.func18 (by kernel_rfl) (by kernel_rfl) (rc := c18) z18 (rs := q18) zr18 (by kernel_rfl) (by rw [hl]; rfl) (by rw [hl]; decide) rfl rfl h
end Go.Proofs.YtgjkhlnpplajjaaDoor
end
section
set_option maxRecDepth 100000
set_option linter.unusedSimpArgs false
set_option linter.unusedVariables false
namespace Go.Proofs.YtgjkhlnpplajjaaDoor
open Go GoV Go.RowKit
theorem index_hx (c : UInt8) : Lib.indexByte hexs c = hxv c := by
  have key : ∀ n : Fin 256, Lib.indexByte hexs (UInt8.ofNat n.val) = hxv (UInt8.ofNat n.val) := by decide +kernel
  have := key ⟨c.toNat, UInt8.toNat_lt c⟩
  simpa only [UInt8.ofNat_toNat] using this
theorem index_p (c : UInt8) : Pur M 58 [.str hexs, .int .u8 c.toNat] (.int .i64 (hxv c)) := by
  refine pur_ext (vs := [.string ⟨hexs.toArray⟩, .int .u8 c.toNat]) (v := .int .i64 (hxv c)) ⟨Tryd.f58, Tryd.func58, rfl, rfl⟩ (fun w I xs h => ?_) (fun w I => ?_) (fun w hA => ?_)
  · obtain ⟨x, xs', rfl, g1, g2⟩ := h.inv
    obtain ⟨y, ys', rfl, g3, g4⟩ := g2.inv
    simp only [Rel] at g1 g3
    rw [g4.inv_nil, g1, g3]
  · simp [Rel]
  · refine (Tryd.strings_IndexByte ⟨hexs.toArray⟩ c.toNat w).mono fun e w' hh => ?_
    obtain ⟨rfl, rfl⟩ := hh
    refine ⟨?_, Below.refl _ _⟩
    have : ((c.toNat : Int).toNat).toUInt8 = c := by simp
    rw [this, ← index_hx]
def drows (m : List UInt8) : List (List D) := (List.range 18).map fun k => [.int .i64 (k : Nat), .int .i64 ((dgt m).getD k 0 : Nat)]
theorem drows_len (m : List UInt8) : (drows m).length = 18 := by simp [drows]
theorem drows_get {m : List UInt8} {k : Nat} (h : k < 18) : (drows m)[k]? = some [.int .i64 (k : Nat), .int .i64 ((dgt m).getD k 0 : Nat)] := by simp [drows, h]
theorem dgt_lo {m : List UInt8} {k : Nat} (h : k < 16) : (dgt m).getD k 0 = (hexs16 m).getD k 0 := by
  have := hexs16_len m
  simp [dgt, List.getD, List.getElem?_append_left (show k < (hexs16 m).length by omega)]
theorem dgt_16 (m : List UInt8) : (dgt m).getD 16 0 = rest m / 16 := by
  have := hexs16_len m
  simp [dgt, List.getD, List.getElem?_append_right (show (hexs16 m).length ≤ 16 by omega), this]
theorem dgt_17 (m : List UInt8) : (dgt m).getD 17 0 = rest m % 16 := by
  have := hexs16_len m
  simp [dgt, List.getD, List.getElem?_append_right (show (hexs16 m).length ≤ 17 by omega), this]
set_option maxHeartbeats 1000000 in
theorem digits_it (m : List UInt8) (hm : m.length < 65536) : Iter M 56 [.ip [.str m]] (drows m) := by
  refine oi56 rfl fun b hpk l hY => ?_
  rw [ie56]
  unfold c56
  have h1 := pur_with (sum_p m hm) b
  have hl := sumN_len m
  have hlen := drows_len m
  rw [hlen]
  repeat' (first
    | with_reducible first | apply swp_seq | apply swp_reg | apply swp_regD | apply swp_block | apply swp_exit | apply swp_ret | apply swp_skip | apply swp_cd
    | simp only [go_sem, Nat.reduceAdd, Nat.reduceSub, Nat.reduceMul, Nat.reduceEqDiff, Nat.reduceLeDiff, Nat.reduceLT, Int.reduceEq, Int.reduceNe, Int.reduceLT, Int.reduceLE, Int.reduceAdd, Int.reduceSub, Int.reduceMul, Int.reduceNeg, Int.reduceToNat, Int.reduceTDiv, Int.reduceTMod, Int.reduceBEq, Int.reduceBNe, decide_true, decide_false, reduceCtorEq, reduceIte, atB_M, pe56]
    | simp (disch := omega) only [w64, w32, wu8, wu16, wu32, wu64]
    | ((with_reducible refine o_call (h1) ?he ?hc ?_); (case he | hc => first | rfl | (simp [D.erL, D.er, D.closedL, D.closed]; done)))
    | with_reducible first | apply cd_dec | apply cd_eq | apply cd_ne | apply cd_split
    | ((with_reducible refine And.intro ?hw ?_); (case hw => first | omega | rfl | exact ⟨_, _, rfl⟩ | assumption | (simp only [lN1, lN2, lN3, lN4, lN5, lN6, lN7] <;> omega)))
    | with_reducible intro _)
  refine swp_fam [0, 1, 2, 3, 6, 7] (fun j : Nat => ⟨[yldD l, .ip [.str m], .int .i64 (restP m j : Nat), .str (sumN m), .undef, .undef, .int .i64 16, .int .i64 j, .undef, .undef, .undef], [], hpk j⟩)
    (fun j => j ≤ 16) (fun j => 16 - j) 0 (by omega) ?_ ?_
  · simp [keepE, St.keep, restP, hl]
  · intro j hj
    have hrp := restP_le m j
    by_cases hlt : j < 16
    · have h2 := pur_with (index_p ((sumN m).getD j 0)) b
      have h8 := hY j _ (drows_get (by omega))
      rw [dgt_lo hlt] at h8
      obtain ⟨h3, h4⟩ := hexs16_at (m := m) hlt
      rw [h3] at h2
      have h6 := restP_step (m := m) hlt
      have t1 : ((j : Nat) : Int).toNat = j := Int.toNat_natCast j
      generalize (hexs16 m).getD j 0 = d at *
      generalize hS : sumN m = S at *
      generalize hq : restP m j = q at *
      repeat' (first
    | with_reducible first | apply swp_seq | apply swp_reg | apply swp_regD | apply swp_block | apply swp_exit | apply swp_ret | apply swp_skip | apply swp_cd
    | simp only [go_sem, Nat.reduceAdd, Nat.reduceSub, Nat.reduceMul, Nat.reduceEqDiff, Nat.reduceLeDiff, Nat.reduceLT, Int.reduceEq, Int.reduceNe, Int.reduceLT, Int.reduceLE, Int.reduceAdd, Int.reduceSub, Int.reduceMul, Int.reduceNeg, Int.reduceToNat, Int.reduceTDiv, Int.reduceTMod, Int.reduceBEq, Int.reduceBNe, decide_true, decide_false, reduceCtorEq, reduceIte, atB_M, pe56, t1]
    | simp (disch := omega) only [w64, w32, wu8, wu16, wu32, wu64]
    | ((with_reducible refine o_call (h2) ?he ?hc ?_); (case he | hc => first | rfl | (simp [D.erL, D.er, D.closedL, D.closed, hl]; done)))
    | ((with_reducible refine o_yield (h8) ?he ?hh ?_); (case he => first | rfl | (simp [hl]; done)); (case hh => first | rfl | assumption | (simp [hl]; done)))
    | with_reducible first | apply cd_dec | apply cd_eq | apply cd_ne | apply cd_split
    | ((with_reducible refine And.intro ?hw ?_); (case hw => first | omega | rfl | exact ⟨_, _, rfl⟩ | assumption | (simp only [lN1, lN2, lN3, lN4, lN5, lN6, lN7, hl] <;> omega)))
    | with_reducible intro _)
      all_goals try omega
      refine ⟨j + 1, by omega, by omega, ?_⟩
      simp only [keepE, St.keep]
      rw [h6]
      simp
      try omega
    · have e : j = 16 := by omega
      subst e
      have h8 := hY 16 _ (drows_get (by omega))
      have h9 := hY 17 _ (drows_get (by omega))
      rw [dgt_16] at h8
      rw [dgt_17] at h9
      rw [restP_all] at *
      have t1 : ((rest m : Nat) : Int).tdiv 16 = ((rest m / 16 : Nat) : Int) := by rw [Int.tdiv_eq_ediv_of_nonneg (by omega)]; omega
      have t2 : ((rest m : Nat) : Int).tmod 16 = ((rest m % 16 : Nat) : Int) := by rw [Int.tmod_eq_emod_of_nonneg (by omega)]; omega
      have bx : rest m / 16 ≤ 15 := by omega
      have by' : rest m % 16 ≤ 15 := by omega
      generalize rest m / 16 = x at *
      generalize rest m % 16 = y at *
      repeat' (first
    | with_reducible first | apply swp_seq | apply swp_reg | apply swp_regD | apply swp_block | apply swp_exit | apply swp_ret | apply swp_skip | apply swp_cd
    | simp only [go_sem, Nat.reduceAdd, Nat.reduceSub, Nat.reduceMul, Nat.reduceEqDiff, Nat.reduceLeDiff, Nat.reduceLT, Int.reduceEq, Int.reduceNe, Int.reduceLT, Int.reduceLE, Int.reduceAdd, Int.reduceSub, Int.reduceMul, Int.reduceNeg, Int.reduceToNat, Int.reduceTDiv, Int.reduceTMod, Int.reduceBEq, Int.reduceBNe, decide_true, decide_false, reduceCtorEq, reduceIte, atB_M, pe56, t1, t2]
    | simp (disch := omega) only [w64, w32, wu8, wu16, wu32, wu64]
    | ((with_reducible refine o_yield (h8) ?he ?hh ?_); (case he => first | rfl | (simp [hl]; done)); (case hh => first | rfl | assumption | (simp [hl]; done)))
    | ((with_reducible refine o_yield (h9) ?he ?hh ?_); (case he => first | rfl | (simp [hl]; done)); (case hh => first | rfl | assumption | (simp [hl]; done)))
    | with_reducible first | apply cd_dec | apply cd_eq | apply cd_ne | apply cd_split
    | ((with_reducible refine And.intro ?hw ?_); (case hw => first | omega | rfl | exact ⟨_, _, rfl⟩ | assumption | (simp only [lN1, lN2, lN3, lN4, lN5, lN6, lN7, hl] <;> omega)))
    | with_reducible intro _)
      all_goals try omega
theorem sdigits_p (m : List UInt8) : Pur M 30 [.str m] (.fn (.func 56) [] [.ip [.str m]]) := by
  refine ow30 rfl ?_
  rw [i30]
  unfold c30
  repeat' (first
    | with_reducible first | apply swp_seq | apply swp_reg | apply swp_regD | apply swp_block | apply swp_exit | apply swp_ret | apply swp_skip | apply swp_cd
    | simp only [go_sem, Nat.reduceAdd, Nat.reduceSub, Nat.reduceMul, Nat.reduceEqDiff, Nat.reduceLeDiff, Nat.reduceLT, Int.reduceEq, Int.reduceNe, Int.reduceLT, Int.reduceLE, Int.reduceAdd, Int.reduceSub, Int.reduceMul, Int.reduceNeg, Int.reduceToNat, Int.reduceTDiv, Int.reduceTMod, Int.reduceBEq, Int.reduceBNe, decide_true, decide_false, reduceCtorEq, reduceIte, P30, q30]
    | simp (disch := omega) only [w64, w32, wu8, wu16, wu32, wu64]
    | with_reducible first | apply cd_dec | apply cd_eq | apply cd_ne | apply cd_split
    | ((with_reducible refine And.intro ?hw ?_); (case hw => first | omega | rfl | exact ⟨_, _, rfl⟩ | assumption | (simp only [lN1, lN2, lN3, lN4, lN5, lN6, lN7] <;> omega)))
    | with_reducible intro _)
  all_goals try omega
  refine ⟨_, weak_trans (weak_keep [2]) (weak_frz 0 [.str m] rfl (Nat.le_refl 0) (by simp [D.closedL, D.closed])), ?_⟩
  simp [St.frz, keepE, D.fz, D.fzL, D.closed, D.er, D.closedL, D.erL]
def crows (l : List (List UInt8)) : List (List D) := (List.range (l.length / 2)).map fun k => [.slice [.str (l.getD (2 * k) []), .str (l.getD (2 * k + 1) [])] .no]
theorem crows_len (l : List (List UInt8)) : (crows l).length = l.length / 2 := by simp [crows]
theorem crows_get {l : List (List UInt8)} {k : Nat} (h : k < l.length / 2) : (crows l)[k]? = some [.slice [.str (l.getD (2 * k) []), .str (l.getD (2 * k + 1) [])] .no] := by simp [crows, h]
theorem pair_of {l : List (List UInt8)} {k : Nat} (h : 2 * k + 1 < l.length) : ((strs l).take (2 * k + 2)).drop (2 * k) = [.str (l.getD (2 * k) []), .str (l.getD (2 * k + 1) [])] := by
  have h1 : (strs l).length = l.length := strs_len l
  rw [List.take_succ_eq_append_getElem (by omega), List.take_succ_eq_append_getElem (by omega), List.append_assoc, List.drop_append]
  simp [List.getD, h, show 2 * k < l.length by omega, Nat.min_eq_left (show 2 * k ≤ l.length by omega)]
set_option maxHeartbeats 1000000 in
theorem chunk_it (l : List (List UInt8)) (hl : l.length ≤ 1000) (he : l.length % 2 = 0) : Iter M 71 [.ip [.slice (strs l) .no], .ip [.int .i64 2]] (crows l) := by
  refine oi71 rfl fun b hpk y hY => ?_
  rw [ie71]
  unfold c71
  have hsl : (strs l).length = l.length := strs_len l
  have hlen := crows_len l
  rw [hlen]
  have hel := elems_strs l
  repeat' (first
    | with_reducible first | apply swp_seq | apply swp_reg | apply swp_regD | apply swp_block | apply swp_exit | apply swp_ret | apply swp_skip | apply swp_cd
    | simp only [go_sem, Nat.reduceAdd, Nat.reduceSub, Nat.reduceMul, Nat.reduceEqDiff, Nat.reduceLeDiff, Nat.reduceLT, Int.reduceEq, Int.reduceNe, Int.reduceLT, Int.reduceLE, Int.reduceAdd, Int.reduceSub, Int.reduceMul, Int.reduceNeg, Int.reduceToNat, Int.reduceTDiv, Int.reduceTMod, Int.reduceBEq, Int.reduceBNe, decide_true, decide_false, reduceCtorEq, reduceIte, atB_M, pe71]
    | simp (disch := omega) only [w64, w32, wu8, wu16, wu32, wu64]
    | ((with_reducible first | apply s_slFF | apply t_slFF); (case hx => first | rfl | assumption | omega | ((first | refine ⟨?_, ?_⟩ | skip) <;> first | omega | (simp only [lN1, lN2, lN3, lN4, lN5, lN6, lN7] <;> omega)) | (simp [elemsK, D.isVal, D.cells, D.closedL, D.closed]; first | done | omega)))
    | ((with_reducible first | apply s_slTF | apply s_slFT | apply t_slTF | apply t_slFT); (case h0 | h1 | hx => first | rfl | assumption | omega | ((first | refine ⟨?_, ?_⟩ | skip) <;> first | omega | (simp only [lN1, lN2, lN3, lN4, lN5, lN6, lN7] <;> omega)) | (simp [elemsK, D.isVal, D.cells, D.closedL, D.closed]; first | done | omega)))
    | ((with_reducible first | apply s_slTT | apply t_slTT); (case h0 | h1 | h2 | hx => first | rfl | assumption | omega | ((first | refine ⟨?_, ?_⟩ | skip) <;> first | omega | (simp only [lN1, lN2, lN3, lN4, lN5, lN6, lN7] <;> omega)) | (simp [elemsK, D.isVal, D.cells, D.closedL, D.closed]; first | done | omega)))
    | ((with_reducible apply s_sl3); (case h0 | h1 | h2 | h3 | hx => first | rfl | assumption | omega | ((first | refine ⟨?_, ?_⟩ | skip) <;> first | omega | (simp only [lN1, lN2, lN3, lN4, lN5, lN6, lN7] <;> omega)) | (simp [elemsK, D.isVal, D.cells, D.closedL, D.closed]; first | done | omega)))
    | ((with_reducible first | apply s_smTF | apply s_smFT); (case h0 | h1 | hc => first | rfl | assumption | omega | ((first | refine ⟨?_, ?_⟩ | skip) <;> first | omega | (simp only [lN1, lN2, lN3, lN4, lN5, lN6, lN7] <;> omega)) | (simp [elemsK, D.isVal, D.cells, D.closedL, D.closed]; first | done | omega)))
    | ((with_reducible apply s_smTT); (case h0 | h1 | h2 | hc => first | rfl | assumption | omega | ((first | refine ⟨?_, ?_⟩ | skip) <;> first | omega | (simp only [lN1, lN2, lN3, lN4, lN5, lN6, lN7] <;> omega)) | (simp [elemsK, D.isVal, D.cells, D.closedL, D.closed]; first | done | omega)))
    | with_reducible first | apply cd_dec | apply cd_eq | apply cd_ne | apply cd_split
    | ((with_reducible refine And.intro ?hw ?_); (case hw => first | omega | rfl | exact ⟨_, _, rfl⟩ | assumption | (simp only [lN1, lN2, lN3, lN4, lN5, lN6, lN7] <;> omega)))
    | with_reducible intro _)
  refine swp_fam [0, 1, 2, 3] (fun j : Nat => ⟨[yldD y, .ip [.slice (strs l) .no], .ip [.int .i64 2], .int .i64 (2 * j : Nat), .undef, .undef, .undef], [], hpk j⟩)
    (fun j => j ≤ l.length / 2) (fun j => l.length / 2 - j) 0 (by omega) ?_ ?_
  · simp [keepE, St.keep]
  · intro j hj
    by_cases hlt : j < l.length / 2
    · have h8 := hY j _ (crows_get hlt)
      have hpr := pair_of (l := l) (k := j) (by omega)
      have t1 : ((2 * j : Nat) : Int).toNat = 2 * j := Int.toNat_natCast _
      have t2 : (((2 * j : Nat) : Int) + 2).toNat = 2 * j + 2 := by omega
      generalize l.getD (2 * j) [] = p at *
      generalize l.getD (2 * j + 1) [] = q at *
      generalize strs l = L at *
      generalize hn : l.length = n at *
      have t3 : (L.drop (2 * j)).length = n - 2 * j := by simp; omega
      have tm : (if ((n - 2 * j : Nat) : Int) < 2 then ((n - 2 * j : Nat) : Int) else 2) = 2 := by split <;> omega
      repeat' (first
    | with_reducible first | apply swp_seq | apply swp_reg | apply swp_regD | apply swp_block | apply swp_exit | apply swp_ret | apply swp_skip | apply swp_cd
    | simp only [go_sem, Nat.reduceAdd, Nat.reduceSub, Nat.reduceMul, Nat.reduceEqDiff, Nat.reduceLeDiff, Nat.reduceLT, Int.reduceEq, Int.reduceNe, Int.reduceLT, Int.reduceLE, Int.reduceAdd, Int.reduceSub, Int.reduceMul, Int.reduceNeg, Int.reduceToNat, Int.reduceTDiv, Int.reduceTMod, Int.reduceBEq, Int.reduceBNe, decide_true, decide_false, reduceCtorEq, reduceIte, atB_M, pe71, t1, t2, hpr, hsl, t3, tm]
    | simp (disch := omega) only [w64, w32, wu8, wu16, wu32, wu64]
    | ((with_reducible refine o_yield (h8) ?he ?hh ?_); (case he => first | rfl | (simp [hsl, t3, hel]; done)); (case hh => first | rfl | assumption | (simp [hsl, t3, hel]; done)))
    | ((with_reducible first | apply s_slFF | apply t_slFF); (case hx => first | rfl | assumption | omega | ((first | refine ⟨?_, ?_⟩ | skip) <;> first | omega | (simp only [lN1, lN2, lN3, lN4, lN5, lN6, lN7, hsl, t3, hel] <;> omega)) | (simp [elemsK, D.isVal, D.cells, D.closedL, D.closed, hsl, t3, hel]; first | done | omega)))
    | ((with_reducible first | apply s_slTF | apply s_slFT | apply t_slTF | apply t_slFT); (case h0 | h1 | hx => first | rfl | assumption | omega | ((first | refine ⟨?_, ?_⟩ | skip) <;> first | omega | (simp only [lN1, lN2, lN3, lN4, lN5, lN6, lN7, hsl, t3, hel] <;> omega)) | (simp [elemsK, D.isVal, D.cells, D.closedL, D.closed, hsl, t3, hel]; first | done | omega)))
    | ((with_reducible first | apply s_slTT | apply t_slTT); (case h0 | h1 | h2 | hx => first | rfl | assumption | omega | ((first | refine ⟨?_, ?_⟩ | skip) <;> first | omega | (simp only [lN1, lN2, lN3, lN4, lN5, lN6, lN7, hsl, t3, hel] <;> omega)) | (simp [elemsK, D.isVal, D.cells, D.closedL, D.closed, hsl, t3, hel]; first | done | omega)))
    | ((with_reducible apply s_sl3); (case h0 | h1 | h2 | h3 | hx => first | rfl | assumption | omega | ((first | refine ⟨?_, ?_⟩ | skip) <;> first | omega | (simp only [lN1, lN2, lN3, lN4, lN5, lN6, lN7, hsl, t3, hel] <;> omega)) | (simp [elemsK, D.isVal, D.cells, D.closedL, D.closed, hsl, t3, hel]; first | done | omega)))
    | ((with_reducible first | apply s_smTF | apply s_smFT); (case h0 | h1 | hc => first | rfl | assumption | omega | ((first | refine ⟨?_, ?_⟩ | skip) <;> first | omega | (simp only [lN1, lN2, lN3, lN4, lN5, lN6, lN7, hsl, t3, hel] <;> omega)) | (simp [elemsK, D.isVal, D.cells, D.closedL, D.closed, hsl, t3, hel]; first | done | omega)))
    | ((with_reducible apply s_smTT); (case h0 | h1 | h2 | hc => first | rfl | assumption | omega | ((first | refine ⟨?_, ?_⟩ | skip) <;> first | omega | (simp only [lN1, lN2, lN3, lN4, lN5, lN6, lN7, hsl, t3, hel] <;> omega)) | (simp [elemsK, D.isVal, D.cells, D.closedL, D.closed, hsl, t3, hel]; first | done | omega)))
    | with_reducible first | apply cd_dec | apply cd_eq | apply cd_ne | apply cd_split
    | ((with_reducible refine And.intro ?hw ?_); (case hw => first | omega | rfl | exact ⟨_, _, rfl⟩ | assumption | (simp only [lN1, lN2, lN3, lN4, lN5, lN6, lN7, hsl, t3, hel] <;> omega)))
    | with_reducible intro _)
      all_goals first
        | omega
        | (exfalso; omega)
        | skip
      refine ⟨j + 1, by omega, by omega, ?_⟩
      simp [keepE, St.keep]
      try omega
    · have e : j = l.length / 2 := by omega
      subst e
      repeat' (first
    | with_reducible first | apply swp_seq | apply swp_reg | apply swp_regD | apply swp_block | apply swp_exit | apply swp_ret | apply swp_skip | apply swp_cd
    | simp only [go_sem, Nat.reduceAdd, Nat.reduceSub, Nat.reduceMul, Nat.reduceEqDiff, Nat.reduceLeDiff, Nat.reduceLT, Int.reduceEq, Int.reduceNe, Int.reduceLT, Int.reduceLE, Int.reduceAdd, Int.reduceSub, Int.reduceMul, Int.reduceNeg, Int.reduceToNat, Int.reduceTDiv, Int.reduceTMod, Int.reduceBEq, Int.reduceBNe, decide_true, decide_false, reduceCtorEq, reduceIte, atB_M, pe71, hsl]
    | simp (disch := omega) only [w64, w32, wu8, wu16, wu32, wu64]
    | ((with_reducible first | apply s_slFF | apply t_slFF); (case hx => first | rfl | assumption | omega | ((first | refine ⟨?_, ?_⟩ | skip) <;> first | omega | (simp only [lN1, lN2, lN3, lN4, lN5, lN6, lN7, hsl] <;> omega)) | (simp [elemsK, D.isVal, D.cells, D.closedL, D.closed, hsl]; first | done | omega)))
    | ((with_reducible first | apply s_slTF | apply s_slFT | apply t_slTF | apply t_slFT); (case h0 | h1 | hx => first | rfl | assumption | omega | ((first | refine ⟨?_, ?_⟩ | skip) <;> first | omega | (simp only [lN1, lN2, lN3, lN4, lN5, lN6, lN7, hsl] <;> omega)) | (simp [elemsK, D.isVal, D.cells, D.closedL, D.closed, hsl]; first | done | omega)))
    | ((with_reducible first | apply s_slTT | apply t_slTT); (case h0 | h1 | h2 | hx => first | rfl | assumption | omega | ((first | refine ⟨?_, ?_⟩ | skip) <;> first | omega | (simp only [lN1, lN2, lN3, lN4, lN5, lN6, lN7, hsl] <;> omega)) | (simp [elemsK, D.isVal, D.cells, D.closedL, D.closed, hsl]; first | done | omega)))
    | ((with_reducible apply s_sl3); (case h0 | h1 | h2 | h3 | hx => first | rfl | assumption | omega | ((first | refine ⟨?_, ?_⟩ | skip) <;> first | omega | (simp only [lN1, lN2, lN3, lN4, lN5, lN6, lN7, hsl] <;> omega)) | (simp [elemsK, D.isVal, D.cells, D.closedL, D.closed, hsl]; first | done | omega)))
    | ((with_reducible first | apply s_smTF | apply s_smFT); (case h0 | h1 | hc => first | rfl | assumption | omega | ((first | refine ⟨?_, ?_⟩ | skip) <;> first | omega | (simp only [lN1, lN2, lN3, lN4, lN5, lN6, lN7, hsl] <;> omega)) | (simp [elemsK, D.isVal, D.cells, D.closedL, D.closed, hsl]; first | done | omega)))
    | ((with_reducible apply s_smTT); (case h0 | h1 | h2 | hc => first | rfl | assumption | omega | ((first | refine ⟨?_, ?_⟩ | skip) <;> first | omega | (simp only [lN1, lN2, lN3, lN4, lN5, lN6, lN7, hsl] <;> omega)) | (simp [elemsK, D.isVal, D.cells, D.closedL, D.closed, hsl]; first | done | omega)))
    | with_reducible first | apply cd_dec | apply cd_eq | apply cd_ne | apply cd_split
    | ((with_reducible refine And.intro ?hw ?_); (case hw => first | omega | rfl | exact ⟨_, _, rfl⟩ | assumption | (simp only [lN1, lN2, lN3, lN4, lN5, lN6, lN7, hsl] <;> omega)))
    | with_reducible intro _)
      all_goals first
        | omega
        | (exfalso; omega)
end Go.Proofs.YtgjkhlnpplajjaaDoor
end
